/- The count of a value in a list of outcomes: a walk, and its plain law. -/
import Derived.Test.YtdapflgfocideaaGreatDoorFew
import Derived.Lib.QuietBelow
namespace Go.Proofs.YtdapflgfocideaaGreatDoor
open Go Go.RowKit Go.Deep
open Go.Lib (decDigits)

/-- The count of a value in a list of outcomes; 0 where there is none. -/
def lk (v : Int) : List (Int × Nat) → Nat
  | [] => 0
  | (x, c) :: L => if x = v then c else lk v L
theorem lk_hit (v : Int) : ∀ (L : List (Int × Nat)) (i : Nat), i < L.length → (∀ j, j < i → (L.getD j (0, 0)).1 ≠ v) → ∀ c, L.getD i (0, 0) = (v, c) → lk v L = c
  | [], i, h, _, _, _ => absurd h (by simp)
  | (x, d) :: L, 0, _, _, c, e => by
    have e2 : (x, d) = (v, c) := e
    cases e2
    simp [lk]
  | (x, d) :: L, i + 1, h, hn, c, e => by
    have h0 : x ≠ v := hn 0 (by omega)
    rw [lk, if_neg h0]
    exact lk_hit v L i (by simpa using h) (fun j hj => hn (j + 1) (by omega)) c e
theorem lk_miss (v : Int) : ∀ (L : List (Int × Nat)), (∀ j, j < L.length → (L.getD j (0, 0)).1 ≠ v) → lk v L = 0
  | [], _ => rfl
  | (x, d) :: L, hn => by
    have h0 : x ≠ v := hn 0 (by simp)
    rw [lk, if_neg h0]
    exact lk_miss v L (fun j hj => hn (j + 1) (by simpa using hj))
theorem lk_mem (v : Int) (L : List (Int × Nat)) (c : Nat) (h : lk v L = c) (hc : c ≠ 0) : (v, c) ∈ L := by
  induction L with
  | nil => simp [lk] at h; omega
  | cons p L ih =>
    obtain ⟨x, d⟩ := p
    by_cases e : x = v
    · rw [lk, if_pos e] at h; subst e; subst h; simp
    · rw [lk, if_neg e] at h; exact List.mem_cons_of_mem _ (ih h)
theorem lk_zero (v : Int) (L : List (Int × Nat)) (h : lk v L = 0) (hp : ∀ p ∈ L, p.2 ≠ 0) (c : Nat) : (v, c) ∉ L := by
  induction L with
  | nil => simp
  | cons p L ih =>
    obtain ⟨x, d⟩ := p
    by_cases e : x = v
    · rw [lk, if_pos e] at h; exact absurd h (hp (x, d) (by simp))
    · rw [lk, if_neg e] at h
      intro hm
      rcases List.mem_cons.1 hm with he | he
      · cases he; exact e rfl
      · exact ih h (fun p hpm => hp p (List.mem_cons_of_mem _ hpm)) he
theorem lk_tbl {L : List (Int × Nat)} {f : Int → Nat} (h : IsTbl L f) (v : Int) : lk v L = f v := by
  by_cases e : lk v L = 0
  · rw [e]
    by_cases e2 : f v = 0
    · exact e2.symm
    · exact absurd ((h.2 v (f v)).2 ⟨rfl, e2⟩) (lk_zero v L e (fun p hp => ((h.2 p.1 p.2).1 hp).2) _)
  · exact ((h.2 v _).1 (lk_mem v L _ rfl e)).1.symm

set_option maxHeartbeats 1000000 in
theorem count_any (w : World) (B : Nat) (A : Option Addr) (n c : Nat) (L : List (Int × Nat)) (v : Int) (h : RdO w B A n L) (hB : B ≤ w.heap.size) (hn : n ≤ 1000000000) (hc : ∀ j, j < n → (L.getD j (0, 0)).2 < 1000000000) :
    Calls Tryz.prog 19 #[.slice A n c, .int .i64 v] w fun e w' => e = .returned (.int .i64 (lk v L)) ∧ Below w.heap.size w w' := by
  have HL := Lib.hid (And.intro h hc)
  clear h hc
  go_enter Tryz.func19, Tryz.ntmps19
  go_wp2_with fail
  go_loopg [5] n (fun gk s5 wr => ∃ i : Nat, s5 = .int .i64 i ∧ i ≤ n ∧ gk = n - i ∧ Hid (∀ j, j < i → (L.getD j (0, 0)).1 ≠ v) ∧ wr = w)
  case atStart => exact ⟨0, rfl, Nat.zero_le _, rfl, Lib.hid (fun j hj => absurd hj (by omega)), rfl⟩
  case round =>
    obtain ⟨i, rfl, hi, rfl, hinv, rfl⟩ := hrel
    by_cases hin : i < n
    · obtain ⟨gA, oA, x, d, hA, _, cx, cy, hx⟩ := HL.out.1.at hin
      subst hA
      have hiz : (i : Int) < n := by omega
      by_cases hv : x = v
      · subst hv
        have hd : d < 1000000000 := by have := HL.out.2 i hin; rw [hx.out] at this; exact this
        go_wp2_with fail
        refine (int_call _ d hd).mono ?_
        rintro e w4 ⟨rfl, hb4⟩
        go_wp2_with fail
        go_ret
        have hlen : L.length = n := HL.out.1.len
        exact ⟨by rw [lk_hit x L i (by omega) hinv.out d hx.out]; rfl, hb4⟩
      · have hvb : (x == v) = false := by rw [beq_eq_false_iff_ne]; exact hv
        have hnew : Hid (∀ j, j < i + 1 → (L.getD j (0, 0)).1 ≠ v) := Lib.hid fun j hj => by
          by_cases e : j = i
          · subst e; rw [hx.out]; exact hv
          · exact hinv.out j (by omega)
        go_wp2_with fail
        go_roundg (n - (i + 1))
        case measure => omega
        case rel => exact ⟨i + 1, by go_num, by omega, rfl, hnew, rfl⟩
    · obtain rfl : i = n := by omega
      go_wp2_with fail
      go_ret
      have hlen : L.length = i := HL.out.1.len
      exact ⟨by rw [lk_miss v L (fun j hj => hinv.out j (by omega))]; rfl, Below.refl _ _⟩
end Go.Proofs.YtdapflgfocideaaGreatDoor
