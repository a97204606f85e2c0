/- The contract of rational.Compare, of two numbers in lowest terms of which the first is not the greater. -/
import Derived.Test.YtdapflgfocideaaGreatDoorRCmp
namespace Go.Proofs.YtdapflgfocideaaGreatDoor
open Go Go.RowKit Go.Deep
open Go.Lib (decDigits)
attribute [local go_sem] guardO guardR

/-- The first fraction of a round is less than the second. -/
structure Less (a b c d : Nat) : Prop where
  a9 : a < 1000000000
  b9 : b < 1000000000
  c9 : c < 1000000000
  d9 : d < 1000000000
  b0 : 0 < b
  d0 : 0 < d
  lt : a * d < c * b
theorem Less.quo {a b c d : Nat} (h : Less a b c d) : a / b ≤ c / d := by
  rw [Nat.le_div_iff_mul_le h.d0]
  have h1 : a / b * b ≤ a := Nat.div_mul_le_self a b
  have h2 : a / b * b * d ≤ a * d := Nat.mul_le_mul_right d h1
  have h3 : a / b * d * b < c * b := by
    have e : a / b * d * b = a / b * b * d := by rw [Nat.mul_assoc, Nat.mul_comm d b, ← Nat.mul_assoc]
    rw [e]
    exact Nat.lt_of_le_of_lt h2 h.lt
  exact Nat.le_of_lt (Nat.lt_of_mul_lt_mul_right h3)
theorem Less.rem {a b c d : Nat} (h : Less a b c d) (hq : a / b = c / d) : a % b * d < c % d * b := by
  have e1 := Nat.div_add_mod a b
  have e2 := Nat.div_add_mod c d
  have h1 := h.lt
  rw [← e1, ← e2, ← hq] at h1
  have f1 : (b * (a / b) + a % b) * d = a / b * b * d + a % b * d := by rw [Nat.add_mul, Nat.mul_comm b]
  have f2 : (d * (a / b) + c % d) * b = a / b * b * d + c % d * b := by rw [Nat.add_mul, Nat.mul_comm d, Nat.mul_assoc, Nat.mul_comm d b, ← Nat.mul_assoc]
  rw [f1, f2] at h1
  omega
theorem Less.next {a b c d : Nat} (h : Less a b c d) (hq : a / b = c / d) (hr : a % b ≠ 0) : c % d ≠ 0 ∧ Less d (c % d) b (a % b) := by
  have h1 := h.rem hq
  have hb := h.b0
  have hd := h.d0
  have hr2 : c % d ≠ 0 := by
    intro e
    rw [e] at h1
    simp at h1
  have l1 := Nat.mod_lt a hb
  have l2 := Nat.mod_lt c hd
  have := h.b9
  have := h.d9
  exact ⟨hr2, ⟨h.d9, by omega, h.b9, by omega, by omega, by omega, by rw [Nat.mul_comm d, Nat.mul_comm b]; exact h1⟩⟩

end Go.Proofs.YtdapflgfocideaaGreatDoor
