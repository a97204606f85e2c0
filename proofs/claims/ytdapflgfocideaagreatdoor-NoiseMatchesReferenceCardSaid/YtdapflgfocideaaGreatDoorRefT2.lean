/- Plain laws of the reference's distribution. -/
import Derived.Test.YtdapflgfocideaaGreatDoorRefS
namespace Go.Proofs.YtdapflgfocideaaGreatDoor

theorem sorted_len (b : Int) : ∀ (l : List Int) (a : Int), l.Pairwise (· < ·) → (∀ x ∈ l, a ≤ x ∧ x ≤ b) → (l.length : Int) ≤ if l = [] then 0 else b - a + 1
  | [], _, _, _ => by simp
  | [x], a, _, h => by have := h x (by simp); simp; omega
  | x :: y :: l, a, hp, h => by
    obtain ⟨h1, h2⟩ := List.pairwise_cons.1 hp
    have hx := h x (by simp)
    have hxy := h1 y (by simp)
    have ih := sorted_len b (y :: l) (a + 1) h2 (fun z hz => by
      have h3 := h z (by simp only [List.mem_cons] at hz ⊢; exact .inr hz)
      have h4 := h1 z hz
      omega)
    rw [if_neg (by simp)] at ih ⊢
    rw [List.length_cons, Int.natCast_add]
    omega
theorem tbl_short {M : List (Int × Nat)} {g : Int → Nat} (h : IsTbl M g) (hs : ∀ v, g v ≠ 0 → -300 ≤ v ∧ v ≤ 300) : M.length ≤ 1000 := by
  obtain ⟨h1, _, h3⟩ := tbl_fst h
  have := sorted_len 300 (M.map Prod.fst) (-300) h1 (fun x hx => hs x ((h3 x).1 hx))
  rw [List.length_map] at this
  split at this <;> omega
theorem tbl_val {M : List (Int × Nat)} {g : Int → Nat} (h : IsTbl M g) (hs : ∀ v, g v < 1000000000) (j : Nat) (hj : j < M.length) : (M.getD j (0, 0)).2 < 1000000000 := by
  have hm : M.getD j (0, 0) ∈ M := by rw [List.getD_eq_getElem?_getD, List.getElem?_eq_getElem hj]; exact List.getElem_mem _
  generalize M.getD j (0, 0) = p at hm
  have := ((h.2 p.1 p.2).1 hm).1
  have := hs p.1
  omega
theorem lk_none (v : Int) (L : List (Int × Nat)) (h : ∀ c, (v, c) ∉ L) : lk v L = 0 := by
  induction L with
  | nil => rfl
  | cons p L ih =>
    obtain ⟨x, d⟩ := p
    by_cases e : x = v
    · subst e; exact absurd (by simp) (h d)
    · rw [lk, if_neg e]; exact ih (fun c hc => h c (List.mem_cons_of_mem _ hc))
theorem lk_append (x : Int) (A B : List (Int × Nat)) (h : ∀ c, (x, c) ∉ A) : lk x (A ++ B) = lk x B := by
  induction A with
  | nil => rfl
  | cons p A ih =>
    obtain ⟨y, d⟩ := p
    have hy : y ≠ x := fun e => h d (by rw [← e]; simp)
    rw [List.cons_append, lk, if_neg hy]
    exact ih fun c hc => h c (List.mem_cons_of_mem _ hc)
theorem lk_append_ne (x y : Int) (d : Nat) (A : List (Int × Nat)) (h : x ≠ y) : lk x (A ++ [(y, d)]) = lk x A := by
  induction A with
  | nil => simp [lk, Ne.symm h]
  | cons p A ih =>
    obtain ⟨z, e⟩ := p
    rw [List.cons_append, lk, lk, ih]
/-- The function of the first k entries. -/
def pre (L : List (Int × Nat)) (k : Nat) : Int → Nat := fun x => lk x (L.take k)
theorem pre_new {L : List (Int × Nat)} {f : Int → Nat} (h : IsTbl L f) {k : Nat} {x : Int} {c : Nat} (hk : k < L.length) (hx : L.getD k (0, 0) = (x, c)) : pre L k x = 0 ∧ ∀ y, pre L (k + 1) y = if y = x then c else pre L k y := by
  have hs := split_at hk hx
  have hp := h.1
  rw [hs, List.pairwise_append] at hp
  have hno : ∀ d, (x, d) ∉ L.take k := fun d hd => by
    have := hp.2.2 (x, d) hd (x, c) (by simp)
    simp at this
  have ht : L.take (k + 1) = L.take k ++ [(x, c)] := by rw [take_snocP L k hk, hx]
  refine ⟨lk_none x _ hno, fun y => ?_⟩
  unfold pre
  rw [ht]
  by_cases e : y = x
  · subst e
    rw [if_pos rfl, lk_append y _ _ hno]
    simp [lk]
  · rw [if_neg e, lk_append_ne y x c _ e]
theorem pre_all {L : List (Int × Nat)} {f : Int → Nat} (h : IsTbl L f) : pre L L.length = f := by
  funext x
  unfold pre
  rw [List.take_length, lk_tbl h]
theorem pre_le {L : List (Int × Nat)} {f : Int → Nat} (h : IsTbl L f) (k : Nat) (x : Int) : pre L k x ≤ f x := by
  by_cases e : pre L k x = 0
  · omega
  · have hm := lk_mem x (L.take k) _ rfl e
    have := ((h.2 x _).1 (List.mem_of_mem_take hm)).1
    show pre L k x ≤ f x
    rw [this]
    exact Nat.le_refl _
/-- One entry more: the counts with every offset added. -/
theorem acc_pre {L : List (Int × Nat)} {f : Int → Nat} (t : List Int) (h : IsTbl L f) {k : Nat} {x : Int} {c : Nat} (hk : k < L.length) (hx : L.getD k (0, 0) = (x, c)) : acc (conv t (pre L k)) x c t = conv t (pre L (k + 1)) := by
  obtain ⟨h1, h2⟩ := pre_new h hk hx
  exact acc_conv t _ _ x c h1 h2
/-- Every partial sum stays below the next distribution. -/
theorem acc_below {L : List (Int × Nat)} {t : List Int} {i : Nat} (h : IsTbl L (cnt t i)) {k : Nat} {x : Int} {c : Nat} (hk : k < L.length) (hx : L.getD k (0, 0) = (x, c)) (j : Nat) (v : Int) : acc (conv t (pre L k)) x c (t.take j) v ≤ cnt t (i + 1) v := by
  have h1 := acc_mono (conv t (pre L k)) x c (t.take j) (t.drop j) v
  rw [List.take_append_drop, acc_pre t h hk hx] at h1
  exact Nat.le_trans h1 (conv_mono t _ _ (pre_le h (k + 1)) v)
end Go.Proofs.YtdapflgfocideaaGreatDoor
