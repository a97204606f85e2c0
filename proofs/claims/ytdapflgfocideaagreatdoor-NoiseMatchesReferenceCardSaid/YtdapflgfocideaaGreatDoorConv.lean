/- Plain facts on adding counts, in whatever order. -/
namespace Go.Proofs.YtdapflgfocideaaGreatDoor

def upd (f : Int → Nat) (k : Int) (c : Nat) : Int → Nat := fun x => if x = k then f x + c else f x
/-- The counts of sums with one offset more. -/
def conv (t : List Int) (f : Int → Nat) (v : Int) : Nat := (t.map fun o => f (v - o)).sum
def acc (g : Int → Nat) (x0 : Int) (c : Nat) (t : List Int) : Int → Nat := t.foldl (fun g o => upd g (x0 + o) c) g

theorem acc_at (x0 : Int) (c : Nat) (t : List Int) : ∀ (g : Int → Nat) (v : Int), acc g x0 c t v = g v + (t.map fun o => if v = x0 + o then c else 0).sum := by
  induction t with
  | nil => intro g v; simp [acc]
  | cons o t ih =>
    intro g v
    have h := ih (upd g (x0 + o) c) v
    simp only [acc, List.foldl_cons] at h ⊢
    rw [h]
    simp only [upd, List.map_cons, List.sum_cons]
    split <;> omega
theorem acc_snoc (g : Int → Nat) (x0 : Int) (c : Nat) (t : List Int) (o : Int) : acc g x0 c (t ++ [o]) = upd (acc g x0 c t) (x0 + o) c := by
  simp [acc, List.foldl_append]
theorem acc_mono (g : Int → Nat) (x0 : Int) (c : Nat) (s t : List Int) (v : Int) : acc g x0 c s v ≤ acc g x0 c (s ++ t) v := by
  rw [acc_at, acc_at, List.map_append, List.sum_append]; omega
theorem acc_conv (t : List Int) (f f' : Int → Nat) (x0 : Int) (c : Nat) (h0 : f x0 = 0) (h' : ∀ x, f' x = if x = x0 then c else f x) : acc (conv t f) x0 c t = conv t f' := by
  funext v
  rw [acc_at]
  unfold conv
  induction t with
  | nil => rfl
  | cons o t ih =>
    simp only [List.map_cons, List.sum_cons]
    rw [← ih, h' (v - o)]
    by_cases e : v = x0 + o
    · rw [if_pos e, if_pos (by omega), show v - o = x0 by omega, h0]; omega
    · rw [if_neg e, if_neg (by omega)]; omega
theorem conv_mono (t : List Int) (f f' : Int → Nat) (h : ∀ x, f x ≤ f' x) (v : Int) : conv t f v ≤ conv t f' v := by
  unfold conv
  induction t with
  | nil => exact Nat.le_refl _
  | cons o t ih => simp only [List.map_cons, List.sum_cons]; exact Nat.add_le_add (h _) ih
theorem conv_zero (t : List Int) : conv t (fun _ => 0) = fun _ => 0 := by
  funext v
  unfold conv
  induction t with
  | nil => rfl
  | cons o t ih => simp only [List.map_cons, List.sum_cons]; rw [ih]
theorem take_snoc' (t : List Int) (j : Nat) (h : j < t.length) : t.take (j + 1) = t.take j ++ [t.getD j 0] := by
  rw [List.take_succ_eq_append_getElem h, List.getD_eq_getElem?_getD, List.getElem?_eq_getElem h]; rfl
end Go.Proofs.YtdapflgfocideaaGreatDoor
