/- Plain laws on sums: the counts for n + m as sums of products. -/
import Derived.Test.YtdapflgfocideaaGreatDoorCount
namespace Go.Proofs.YtdapflgfocideaaGreatDoor

theorem sum_flatMap (l : List Int) (g : Int → List Int) (f : Int → Nat) : ((l.flatMap g).map f).sum = (l.map fun o => ((g o).map f).sum).sum := by
  induction l with
  | nil => rfl
  | cons o l ih => simp only [List.flatMap_cons, List.map_append, List.sum_append, List.map_cons, List.sum_cons, ih]
theorem cnt_plus (t : List Int) (m : Nat) : ∀ (n : Nat) (v : Int), cnt t (n + m) v = ((sums t n).map fun x => cnt t m (v - x)).sum
  | 0, v => by simp [sums]
  | n + 1, v => by
    have e : n + 1 + m = (n + m) + 1 := by omega
    rw [e]
    show (t.map fun o => cnt t (n + m) (v - o)).sum = _
    simp only [sums]
    rw [sum_flatMap]
    congr 1
    apply List.map_congr_left
    intro o _
    rw [cnt_plus t m n (v - o), List.map_map]
    congr 1
    apply List.map_congr_left
    intro x _
    show cnt t m (v - o - x) = cnt t m (v - (x + o))
    congr 1; omega
theorem sum_mul0 (m : List Int) (g : Int → Nat) : (m.map fun x => 0 * g x).sum = 0 := by
  simp only [Nat.zero_mul]
  exact sum_zero m
theorem sum_one (a : Int) (g : Int → Nat) : ∀ l : List Int, l.Nodup → a ∈ l → (l.map fun x => (if a = x then 1 else 0) * g x).sum = g a := by
  intro l
  induction l with
  | nil => intro _ h; simp at h
  | cons k l ihl =>
    intro hn hm
    simp only [List.map_cons, List.sum_cons]
    obtain ⟨hk, hl⟩ := List.nodup_cons.1 hn
    by_cases e : a = k
    · subst e
      have : (l.map fun x => (if a = x then 1 else 0) * g x) = l.map fun x => 0 * g x := by
        apply List.map_congr_left
        intro x hx
        rw [if_neg (fun e : a = x => hk (by rw [e]; exact hx))]
      rw [this, sum_mul0]; simp
    · rw [if_neg e, ihl hl (by rcases List.mem_cons.1 hm with h | h; exact absurd h e; exact h)]; simp
/-- The weighted sum of the counts over a list that has every element once. -/
theorem sum_counts_w (g : Int → Nat) (S : List Int) : ∀ ks : List Int, ks.Nodup → (∀ x ∈ S, x ∈ ks) → (ks.map fun x => S.count x * g x).sum = (S.map g).sum := by
  induction S with
  | nil =>
    intro ks _ _
    simp only [List.count_nil]
    exact sum_mul0 ks g
  | cons a S ih =>
    intro ks hn hm
    have h1 := ih ks hn (fun x hx => hm x (by simp [hx]))
    have ha := hm a (by simp)
    have h2 : (ks.map fun x => (a :: S).count x * g x).sum = (ks.map fun x => S.count x * g x).sum + (ks.map fun x => (if a = x then 1 else 0) * g x).sum := by
      rw [← sum_add]
      congr 1
      apply List.map_congr_left
      intro k _
      rw [List.count_cons, ← Nat.add_mul]
      by_cases e : a = k <;> simp [e]
    rw [h2, h1, sum_one a g ks hn ha]
    simp only [List.map_cons, List.sum_cons]; omega
/-- The sum of products of a law's line. -/
def prods (f g : Int → Nat) (v : Int) (L : List (Int × Nat)) : Nat := (L.map fun p => f p.1 * g (v - p.1)).sum
theorem prods_tbl {t : List Int} {n m : Nat} {L : List (Int × Nat)} (h : IsTbl L (cnt t n)) (v : Int) : prods (cnt t n) (cnt t m) v L = cnt t (n + m) v := by
  have h' := h
  rw [cnt_sums] at h'
  obtain ⟨h1, _, h3⟩ := tbl_fst h'
  rw [cnt_plus, ← sum_counts_w (fun x => cnt t m (v - x)) (sums t n) (L.map Prod.fst) (nodup_lt h1) (fun x hx => (h3 x).2 (by unfold cntL; have := List.count_pos_iff.2 hx; omega))]
  unfold prods
  rw [List.map_map, cnt_sums t n]
  rfl
theorem prods_snoc (f g : Int → Nat) (v : Int) (L : List (Int × Nat)) (j : Nat) (h : j < L.length) (x : Int) (c : Nat) (hx : L.getD j (0, 0) = (x, c)) : prods f g v (L.take (j + 1)) = prods f g v (L.take j) + f x * g (v - x) := by
  unfold prods
  rw [take_snocP L j h, hx, List.map_append, List.sum_append]
  simp
theorem prods_take (f g : Int → Nat) (v : Int) (L : List (Int × Nat)) (j : Nat) : prods f g v (L.take j) ≤ prods f g v L := by
  unfold prods
  conv => rhs; rw [← List.take_append_drop j L]
  rw [List.map_append, List.sum_append]
  omega
theorem mem_le_sum (l : List Nat) (a : Nat) (h : a ∈ l) : a ≤ l.sum := by
  induction l with
  | nil => simp at h
  | cons b l ih =>
    rw [List.sum_cons]
    rcases List.mem_cons.1 h with e | e
    · omega
    · have := ih e; omega
theorem sums_add_mem {t : List Int} {n m : Nat} {x y : Int} (hx : cnt t n x ≠ 0) (hy : cnt t m y ≠ 0) : cnt t (n + m) (x + y) ≠ 0 := by
  rw [cnt_plus]
  have hm : x ∈ sums t n := by rw [cnt_sums] at hx; unfold cntL at hx; exact List.count_pos_iff.1 (by omega)
  have hmem : cnt t m (x + y - x) ∈ (sums t n).map fun z => cnt t m (x + y - z) := List.mem_map.2 ⟨x, hm, rfl⟩
  have e : x + y - x = y := by omega
  rw [e] at hmem
  have := mem_le_sum _ _ hmem
  omega
end Go.Proofs.YtdapflgfocideaaGreatDoor
