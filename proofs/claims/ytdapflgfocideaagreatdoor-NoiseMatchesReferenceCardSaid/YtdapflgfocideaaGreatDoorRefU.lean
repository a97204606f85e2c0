/- Contract of observatoryref17.Distribution. -/
import Derived.Test.YtdapflgfocideaaGreatDoorRefT2
import Derived.StillTailTactics
namespace Go.Proofs.YtdapflgfocideaaGreatDoor
open Go Go.RowKit Go.Deep
open Go.Lib (decDigits)
attribute [local go_sem] guardO guardR

set_option maxHeartbeats 1000000 in
theorem rdist_bad (w : World) (B : Nat) (A : Option Addr) (nt ct : Nat) (tape : List Int) (n : Int) (h : RdI w B A nt tape) (hn : nt ≤ 4611686018427387904) (hbad : ¬ (VT tape ∧ 0 ≤ n ∧ n ≤ 40)) :
    Calls Tryz.prog 12 #[.slice A nt ct, .int .i64 n] w fun e w' => e = .returned (.tuple #[.slice none 0 0, .int .i64 1]) ∧ w = w' := by
  have hv := rvalidT w B A nt ct tape h hn
  by_cases hV : VT tape
  · rw [decide_eq_true hV] at hv
    have HV := Lib.hid hv
    by_cases h0 : n < 0
    · clear hv hV hbad h
      go_enter Tryz.func12, Tryz.ntmps12
      go_wp2_with fail
      refine HV.out.mono ?_
      rintro e w' ⟨rfl, rfl⟩
      go_wp2_with fail
      go_ret2
      exact ⟨rfl, rfl⟩
    · have h1 : 40 < n := by
        by_cases h1 : 40 < n
        · exact h1
        · exact absurd ⟨hV, by omega, by omega⟩ hbad
      clear hv hV hbad h
      go_enter Tryz.func12, Tryz.ntmps12
      go_wp2_with fail
      refine HV.out.mono ?_
      rintro e w' ⟨rfl, rfl⟩
      go_wp2_with fail
      go_ret2
      exact ⟨rfl, rfl⟩
  · rw [decide_eq_false hV] at hv
    have HV := Lib.hid hv
    clear hv hV hbad h
    go_enter Tryz.func12, Tryz.ntmps12
    go_wp2_with fail
    refine HV.out.mono ?_
    rintro e w' ⟨rfl, rfl⟩
    go_wp2_with fail
    go_ret2
    exact ⟨rfl, rfl⟩
end Go.Proofs.YtdapflgfocideaaGreatDoor
