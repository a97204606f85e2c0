/- Contracts of limbs.limb and limbs.trimmed. Condition: the slice reads as the list xs. -/
import Derived.Test.YtdapflgfocideaaGreatDoorBase
import Derived.Test.YtdapflgfocideaaGreatDoorProg
import Derived.BigQuiet
import Derived.Deep.QuietTactic
import Derived.Lib.Hide
namespace Go.Proofs.YtdapflgfocideaaGreatDoor
open Go Go.RowKit

set_option maxHeartbeats 400000 in
theorem limb_any (w : World) (B : Nat) (A : Option Addr) (n c : Nat) (xs : List Int) (i : Nat) (h : RdI w B A n xs) (hn : n ≤ 1000000) (hi : i ≤ 1000000) :
    Calls Tryz.prog 61 #[.slice A n c, .int .i64 i] w fun e w' => e = .returned (.int .i64 (xs.getD i 0)) ∧ w = w' := by
  have hl := h.length
  by_cases hlt : i < n
  · obtain ⟨b, off, x, rfl, _, hc, hx⟩ := h.at hlt
    rw [hx.out]
    clear hl h
    go_enter Tryz.func61, Tryz.ntmps61
    go_wp2
    go_ret
    exact ⟨rfl, rfl⟩
  · have e : xs.getD i 0 = 0 := by rw [List.getD_eq_getElem?_getD, List.getElem?_eq_none (by omega)]; rfl
    rw [e]
    clear e hl
    go_enter Tryz.func61, Tryz.ntmps61
    go_wp2
    go_ret
    exact ⟨rfl, rfl⟩

/-- How many elements are left when the zeros at the end are struck. -/
def trimLen : List Int → Nat → Nat
  | _, 0 => 0
  | xs, n + 1 => if xs.getD n 0 = 0 then trimLen xs n else n + 1
theorem trimLen_le (xs : List Int) : ∀ n, trimLen xs n ≤ n
  | 0 => Nat.le_refl _
  | n + 1 => by unfold trimLen; split; exact Nat.le_succ_of_le (trimLen_le xs n); exact Nat.le_refl _

set_option maxHeartbeats 400000 in
theorem trimmed_any (w : World) (B : Nat) (A : Option Addr) (n c : Nat) (xs : List Int) (h : RdI w B A n xs) (hn : n ≤ 1000000) (hc : n ≤ c) :
    Calls Tryz.prog 84 #[.slice A n c] w fun e w' => e = .returned (.slice A (trimLen xs n) c) ∧ w = w' := by
  go_enter Tryz.func84, Tryz.ntmps84
  go_wp2
  go_loop [3] (fun i => ∃ k : Nat, k ≤ n ∧ i = .int .i64 k ∧ Hid (trimLen xs n = trimLen xs k)) (fun i => (intOf i).toNat)
  case atStart => exact ⟨n, Nat.le_refl _, rfl, Lib.hid rfl⟩
  case round =>
    obtain ⟨k, hk, rfl, hkk⟩ := hrel
    cases k with
    | zero =>
      go_wp2
      go_ret
      exact ⟨by rw [hkk.out]; simp [trimLen], rfl⟩
    | succ k =>
      obtain ⟨b, off, x, rfl, _, hcell, hx⟩ := h.at (k := k) (by omega)
      by_cases hx0 : x = 0
      · subst hx0
        go_wp2
        go_round
        case rel => exact ⟨k, by omega, by go_num, Lib.hid (by rw [hkk.out, trimLen, if_pos hx.out])⟩
        case measure => simp [intOf]
      · have hx1 : (x == 0) = false := by simpa using hx0
        go_wp2
        go_ret
        exact ⟨by rw [hkk.out, trimLen, if_neg (by rw [hx.out]; exact hx0)]; simp, rfl⟩
end Go.Proofs.YtdapflgfocideaaGreatDoor
