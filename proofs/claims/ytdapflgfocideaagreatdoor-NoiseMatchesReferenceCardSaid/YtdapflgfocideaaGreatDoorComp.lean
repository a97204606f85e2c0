/- Contract of limbs.compare. -/
import Derived.Test.YtdapflgfocideaaGreatDoorLimbs
namespace Go.Proofs.YtdapflgfocideaaGreatDoor
open Go Go.RowKit Go.Deep

def cmpTop (xs ys : List Int) : Nat → Int
  | 0 => 0
  | k + 1 => if xs.getD k 0 = ys.getD k 0 then cmpTop xs ys k else if xs.getD k 0 < ys.getD k 0 then -1 else 1
def cmpL (xs ys : List Int) : Int := if xs.length ≠ ys.length then (if xs.length < ys.length then -1 else 1) else cmpTop xs ys xs.length

theorem ret_int {k : IntKind} {a b : Int} (h : a = b) : Ending.returned (.int k a) = .returned (.int k b) := by rw [h]

set_option maxHeartbeats 400000 in
theorem compare_len (w : World) (A1 A2 : Option Addr) (n1 c1 n2 c2 : Nat) (h1 : n1 ≤ 1000000) (h2 : n2 ≤ 1000000) (hne : n1 ≠ n2) :
    Calls Tryz.prog 58 #[.slice A1 n1 c1, .slice A2 n2 c2] w fun e w' => e = .returned (.int .i64 (if n1 < n2 then -1 else 1)) ∧ w = w' := by
  have hd : ((n1 : Int) != n2) = true := by simp; omega
  by_cases hlt : n1 < n2
  · rw [if_pos hlt]
    go_enter Tryz.func58, Tryz.ntmps58
    go_wp2
    go_ret
    exact ⟨rfl, rfl⟩
  · rw [if_neg hlt]
    go_enter Tryz.func58, Tryz.ntmps58
    go_wp2
    go_ret
    exact ⟨rfl, rfl⟩

set_option maxHeartbeats 400000 in
theorem compare_same (w : World) (B : Nat) (A1 A2 : Option Addr) (n c1 c2 : Nat) (xs ys : List Int) (h1 : RdI w B A1 n xs) (h2 : RdI w B A2 n ys) (hn : n ≤ 1000000) :
    Calls Tryz.prog 58 #[.slice A1 n c1, .slice A2 n c2] w fun e w' => e = .returned (.int .i64 (cmpTop xs ys n)) ∧ Below w.heap.size w w' := by
  have H1 := Lib.hid h1
  have H2 := Lib.hid h2
  clear h1 h2
  go_enter Tryz.func58, Tryz.ntmps58
  go_wp2
  go_loopw [5] (fun i wr => ∃ k : Nat, k ≤ n ∧ i = .int .i64 ((k : Int) - 1) ∧ Hid (cmpTop xs ys n = cmpTop xs ys k) ∧ Below w.heap.size w wr ∧ Hid (RdI wr B A1 n xs ∧ RdI wr B A2 n ys)) (fun i _ => (intOf i + 1).toNat)
  case atStart => exact ⟨n, Nat.le_refl _, rfl, Lib.hid rfl, Below.refl _ _, Lib.hid ⟨H1.out, H2.out⟩⟩
  case round =>
    obtain ⟨k, hk, rfl, hkk, hb, hr⟩ := hrel
    cases k with
    | zero =>
      go_wp2
      go_ret
      exact ⟨by rw [hkk.out]; rfl, hb⟩
    | succ k =>
      obtain ⟨b1, o1, x, rfl, _, e1, hx⟩ := hr.out.1.at (k := k) (by omega)
      obtain ⟨b2, o2, y, rfl, _, e2, hy⟩ := hr.out.2.at (k := k) (by omega)
      have hkn : (k : Int) < n := by omega
      rw [show ((k + 1 : Nat) : Int) - 1 = k by omega]
      by_cases hxy : x = y
      · subst hxy
        go_wp2
        go_quiet (fail)
        go_wp2
        go_roundw
        case rel => exact ⟨k, by omega, rfl, Lib.hid (by rw [hkk.out, cmpTop, if_pos (by rw [hx.out, hy.out])]), below_drewN hb _, Lib.hid ⟨hr.out.1.drewN _, hr.out.2.drewN _⟩⟩
        case measure => simp [intOf]
      · have hne : (x != y) = true := by simpa using hxy
        by_cases hlt : x < y
        · go_wp2
          go_quiet (fail)
          go_wp2
          go_quiet (fail)
          go_wp2
          go_ret
          exact ⟨by rw [hkk.out, cmpTop, if_neg (by rw [hx.out, hy.out]; exact hxy), if_pos (by rw [hx.out, hy.out]; omega)]; rfl, below_drewN (below_drewN hb _) _⟩
        · go_wp2
          go_quiet (fail)
          go_wp2
          go_quiet (fail)
          go_wp2
          go_ret
          exact ⟨by rw [hkk.out, cmpTop, if_neg (by rw [hx.out, hy.out]; exact hxy), if_neg (by rw [hx.out, hy.out]; omega)]; rfl, below_drewN (below_drewN hb _) _⟩

theorem cmpL_lm (a b : Nat) (ha : a < 1000000000000000000) (hb : b < 1000000000) : cmpL (lm a) (lm b) = if a < b then -1 else if a = b then 0 else 1 := by
  unfold cmpL lm
  by_cases a0 : a = 0
  · subst a0
    by_cases b0 : b = 0
    · subst b0; simp [cmpTop]
    · have h1 : 0 < b := by omega
      simp [b0, hb, h1]
  · by_cases b0 : b = 0
    · subst b0
      by_cases a1 : a < 1000000000
      · simp [a0, a1]
      · simp [a0, a1]
    · by_cases a1 : a < 1000000000
      · simp [a0, a1, b0, hb, cmpTop]
        by_cases hab : a = b
        · simp [hab]
        · have : ¬ ((a : Int) = b) := by omega
          simp [hab, this]
      · have h2 : ¬ a < b := by omega
        have h3 : ¬ a = b := by omega
        simp [a0, a1, b0, hb, h2, h3]

/-- limbs.compare at numbers. -/
theorem compare_any (w : World) (A1 A2 : Option Addr) (n1 c1 n2 c2 a b : Nat) (h1 : RdI w w.heap.size A1 n1 (lm a)) (h2 : RdI w w.heap.size A2 n2 (lm b)) (ha : a < 1000000000000000000) (hb : b < 1000000000) :
    Calls Tryz.prog 58 #[.slice A1 n1 c1, .slice A2 n2 c2] w fun e w' => e = .returned (.int .i64 (if a < b then -1 else if a = b then 0 else 1)) ∧ Below w.heap.size w w' := by
  have L1 := h1.length
  have L2 := h2.length
  have M1 := lm_length_le a
  have M2 := lm_length_le b
  rw [← cmpL_lm a b ha hb]
  unfold cmpL
  rw [L1, L2]
  by_cases hne : n1 = n2
  · subst hne
    rw [if_neg (by simp)]
    exact compare_same w _ A1 A2 n1 c1 c2 _ _ h1 h2 (by omega)
  · rw [if_pos hne]
    exact (compare_len w A1 A2 n1 c1 n2 c2 (by omega) (by omega) hne).mono fun e w' ⟨he, hw⟩ => ⟨he, hw ▸ Below.refl _ _⟩
end Go.Proofs.YtdapflgfocideaaGreatDoor
