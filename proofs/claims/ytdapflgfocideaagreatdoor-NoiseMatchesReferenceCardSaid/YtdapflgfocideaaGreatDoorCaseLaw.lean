/- Plain laws on sums: all cases as numbers in the base of the number of offsets. -/
import Derived.Test.YtdapflgfocideaaGreatDoorConvLaw
namespace Go.Proofs.YtdapflgfocideaaGreatDoor

/-- The sum of the offsets that the case c names. -/
def digs (t : List Int) : Nat → Nat → Int
  | 0, _ => 0
  | n + 1, c => t.getD (c % t.length) 0 + digs t n (c / t.length)
/-- How many of the first N cases have the sum v. -/
def cases (t : List Int) (n : Nat) (v : Int) (N : Nat) : Nat := ((List.range N).map (digs t n)).count v
theorem cases_succ (t : List Int) (n : Nat) (v : Int) (N : Nat) : cases t n v (N + 1) = cases t n v N + if digs t n N = v then 1 else 0 := by
  unfold cases
  rw [List.range_succ, List.map_append, List.count_append]
  simp only [List.map_cons, List.map_nil, List.count_cons, List.count_nil]
  simp
theorem cases_le (t : List Int) (n : Nat) (v : Int) (N : Nat) : cases t n v N ≤ N := by
  unfold cases
  have := List.count_le_length (a := v) (l := (List.range N).map (digs t n))
  simpa using this
theorem cases_block (t : List Int) (n : Nat) (v : Int) (N : Nat) : ∀ r, r ≤ t.length → cases t (n + 1) v (N * t.length + r) = cases t (n + 1) v (N * t.length) + ((t.take r).map fun o => if digs t n N = v - o then 1 else 0).sum
  | 0, _ => by simp
  | r + 1, h => by
    have ih := cases_block t n v N r (by omega)
    rw [← Nat.add_assoc, cases_succ, ih]
    have e1 : (N * t.length + r) % t.length = r := by rw [Nat.add_comm, Nat.add_mul_mod_self_right]; exact Nat.mod_eq_of_lt (by omega)
    have e2 : (N * t.length + r) / t.length = N := by
      rw [Nat.add_comm, Nat.add_mul_div_right _ _ (by omega), Nat.div_eq_of_lt (by omega)]; omega
    have e3 : digs t (n + 1) (N * t.length + r) = t.getD r 0 + digs t n N := by rw [digs, e1, e2]
    have e4 : t.take (r + 1) = t.take r ++ [t.getD r 0] := by
      rw [List.take_succ_eq_append_getElem (by omega), List.getD_eq_getElem?_getD, List.getElem?_eq_getElem (by omega)]; rfl
    have e5 : (if t.getD r 0 + digs t n N = v then 1 else 0) = if digs t n N = v - t.getD r 0 then 1 else 0 := by
      by_cases h6 : digs t n N = v - t.getD r 0
      · rw [if_pos h6, if_pos (by omega)]
      · rw [if_neg h6, if_neg (by omega)]
    rw [e3, e4, List.map_append, List.sum_append, e5, List.map_cons, List.map_nil, List.sum_cons, List.sum_nil]
    omega
theorem cases_mul (t : List Int) (n : Nat) (v : Int) : ∀ N, cases t (n + 1) v (N * t.length) = (t.map fun o => cases t n (v - o) N).sum
  | 0 => by
    have : ∀ o, cases t n (v - o) 0 = 0 := fun o => rfl
    simp only [this, Nat.zero_mul]
    rw [sum_zero]; rfl
  | N + 1 => by
    rw [Nat.add_mul, Nat.one_mul, cases_block t n v N _ (Nat.le_refl _), cases_mul t n v N, List.take_length, ← sum_add]
    congr 1
    apply List.map_congr_left
    intro o _
    rw [cases_succ]
theorem cases_all (t : List Int) : ∀ (n : Nat) (v : Int), cases t n v (t.length ^ n) = cnt t n v
  | 0, v => by
    show cases t 0 v 1 = _
    rw [cases_succ]
    have : cases t 0 v 0 = 0 := rfl
    rw [this]
    show _ = if v = 0 then 1 else 0
    by_cases h : v = 0
    · subst h; rfl
    · have h2 : ¬ ((0 : Int) = v) := fun e => h e.symm
      rw [if_neg h]; simp [digs, h2]
  | n + 1, v => by
    rw [Nat.pow_succ, cases_mul]
    show _ = (t.map fun o => cnt t n (v - o)).sum
    congr 1
    apply List.map_congr_left
    intro o _
    exact cases_all t n (v - o)
theorem digs_bd (t : List Int) (ht : ∀ o ∈ t, -50 ≤ o ∧ o ≤ 50) : ∀ (n : Nat) (c : Nat), -50 * (n : Int) ≤ digs t n c ∧ digs t n c ≤ 50 * n
  | 0, _ => by simp [digs]
  | n + 1, c => by
    have ih := digs_bd t ht n (c / t.length)
    have h1 : -50 ≤ t.getD (c % t.length) 0 ∧ t.getD (c % t.length) 0 ≤ 50 := by
      by_cases h : c % t.length < t.length
      · rw [List.getD_eq_getElem?_getD, List.getElem?_eq_getElem h]
        exact ht _ (List.getElem_mem _)
      · rw [List.getD_eq_getElem?_getD, List.getElem?_eq_none (by omega)]
        simp
    rw [digs]
    omega
end Go.Proofs.YtdapflgfocideaaGreatDoor
