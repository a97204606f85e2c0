/- Contract of observatoryref17.Same. -/
import Derived.Test.YtdapflgfocideaaGreatDoorEq
namespace Go.Proofs.YtdapflgfocideaaGreatDoor
open Go Go.RowKit Go.Deep
attribute [local go_sem] guardO guardR

set_option maxHeartbeats 400000 in
theorem same_len (w : World) (A1 A2 : Option Addr) (n1 c1 n2 c2 : Nat) (h1 : n1 ≤ 1000000) (h2 : n2 ≤ 1000000) (hne : n1 ≠ n2) :
    Calls Tryz.prog 17 #[.slice A1 n1 c1, .slice A2 n2 c2] w fun e w' => e = .returned (.bool false) ∧ w = w' := by
  have hd : ((n1 : Int) != n2) = true := by simp; omega
  go_enter Tryz.func17, Tryz.ntmps17
  go_wp2
  go_ret
  exact ⟨rfl, rfl⟩

set_option maxHeartbeats 1000000 in
theorem same_same (w : World) (B : Nat) (A1 A2 : Option Addr) (n c1 c2 : Nat) (L M : List (Int × Nat)) (h1 : RdO w B A1 n L) (h2 : RdO w B A2 n M) (hn : n ≤ 1000000) :
    Calls Tryz.prog 17 #[.slice A1 n c1, .slice A2 n c2] w fun e w' => e = .returned (.bool (decide (L = M))) ∧ Below w.heap.size w w' := by
  have H1 := Lib.hid h1
  have H2 := Lib.hid h2
  clear h1 h2
  go_enter Tryz.func17, Tryz.ntmps17
  go_wp2
  go_loopg [5] n (fun gk i wr => ∃ k : Nat, k ≤ n ∧ gk = n - k ∧ i = .int .i64 k ∧ Below w.heap.size w wr ∧ Hid (RdO wr B A1 n L ∧ RdO wr B A2 n M ∧ ∀ j, j < k → L.getD j (0, 0) = M.getD j (0, 0)))
  case atStart => exact ⟨0, Nat.zero_le _, rfl, rfl, Below.refl _ _, Lib.hid ⟨H1.out, H2.out, fun j hj => absurd hj (by omega)⟩⟩
  case round =>
    obtain ⟨k, hk, rfl, rfl, hb, hr⟩ := hrel
    by_cases hkn : k < n
    · obtain ⟨b1, o1, x1, c1', rfl, _, e1, e1', hx⟩ := hr.out.1.at hkn
      obtain ⟨b2, o2, x2, c2', rfl, _, e2, e2', hy⟩ := hr.out.2.1.at hkn
      have hkz : (k : Int) < n := by omega
      by_cases hxx : x1 = x2
      · by_cases hcc : c1' = c2'
        · subst hxx
          subst hcc
          go_wp2
          go_quiet (fail)
          go_wp2
          go_roundg (n - (k + 1))
          case measure => omega
          case rel =>
            refine ⟨k + 1, by omega, rfl, by go_num, below_drewN hb _, Lib.hid ⟨hr.out.1.keep fun _ _ => rfl, hr.out.2.1.keep fun _ _ => rfl, fun j hj => ?_⟩⟩
            by_cases hjk : j = k
            · subst hjk; rw [hx.out, hy.out]
            · exact hr.out.2.2 j (by omega)
        · have hs : ¬ (ds c1').toList = (ds c2').toList := by rw [ds_toList, ds_toList]; exact fun h => hcc (dec_inj h)
          have hne : decide (L = M) = false := decide_eq_false (fun h => by
            have h1 := hx.out
            rw [h, hy.out] at h1
            exact hcc (congrArg Prod.snd h1).symm)
          have HNE := Lib.hid hne
          subst hxx
          clear hne hcc
          go_wp2
          go_quiet (fail)
          go_wp2
          go_ret
          exact ⟨by rw [HNE.out]; rfl, below_drewN hb _⟩
      · have hne : decide (L = M) = false := decide_eq_false (fun h => by
          have h1 := hx.out
          rw [h, hy.out] at h1
          exact hxx (congrArg Prod.fst h1).symm)
        have HNE := Lib.hid hne
        clear hne
        go_wp2
        go_quiet (fail)
        go_wp2
        go_ret
        exact ⟨by rw [HNE.out]; rfl, below_drewN hb _⟩
    · obtain rfl : k = n := by omega
      have he : decide (L = M) = true := decide_eq_true (List.ext_getElem (by rw [hr.out.1.len, hr.out.2.1.len]) fun j h1 h2 => by
        have := hr.out.2.2 j (by rw [← hr.out.1.len]; exact h1)
        rw [List.getD_eq_getElem?_getD, List.getD_eq_getElem?_getD, List.getElem?_eq_getElem h1, List.getElem?_eq_getElem h2] at this
        exact this)
      have HNE := Lib.hid he
      clear he
      go_wp2
      go_ret
      exact ⟨by rw [HNE.out]; rfl, hb⟩

theorem same_any (w : World) (B : Nat) (A1 A2 : Option Addr) (n1 c1 n2 c2 : Nat) (L M : List (Int × Nat)) (h1 : RdO w B A1 n1 L) (h2 : RdO w B A2 n2 M) (hn : n1 ≤ 1000000) (hm : n2 ≤ 1000000) :
    Calls Tryz.prog 17 #[.slice A1 n1 c1, .slice A2 n2 c2] w fun e w' => e = .returned (.bool (decide (L = M))) ∧ Below w.heap.size w w' := by
  by_cases h : n1 = n2
  · subst h
    exact same_same w B A1 A2 n1 c1 c2 L M h1 h2 hn
  · rw [decide_eq_false (fun e => h (by rw [← h1.len, ← h2.len, e]))]
    exact (same_len w A1 A2 n1 c1 n2 c2 hn hm h).mono fun e w' ⟨he, hw⟩ => ⟨he, hw ▸ Below.refl _ _⟩
end Go.Proofs.YtdapflgfocideaaGreatDoor
