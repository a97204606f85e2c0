/- Plain laws of an insertion into a table of counts. -/
import Derived.Test.YtdapflgfocideaaGreatDoorRefJ
namespace Go.Proofs.YtdapflgfocideaaGreatDoor
open Go Go.RowKit Go.Deep

theorem tbl_put_hit {A B : List (Int × Nat)} {v : Int} {ck c : Nat} {f : Int → Nat} (h : IsTbl (A ++ (v, ck) :: B) f) (_hc : c ≠ 0) : IsTbl (A ++ (v, ck + c) :: B) (upd f v c) := by
  obtain ⟨hp, hm⟩ := h
  have hv : f v = ck ∧ ck ≠ 0 := (hm v ck).1 (by simp)
  rw [List.pairwise_append, List.pairwise_cons] at hp
  obtain ⟨pA, ⟨pv, pB⟩, pAB⟩ := hp
  have nA : ∀ p ∈ A, p.1 ≠ v := fun p hpm e => by have := pAB p hpm (v, ck) (by simp); simp at this; omega
  have nB : ∀ p ∈ B, p.1 ≠ v := fun p hpm e => by have := pv p hpm; simp at this; omega
  refine ⟨?_, fun x d => ?_⟩
  · rw [List.pairwise_append, List.pairwise_cons]
    refine ⟨pA, ⟨fun p hpm => pv p hpm, pB⟩, fun p hpm q hq => ?_⟩
    rcases List.mem_cons.1 hq with e | hq'
    · subst e; exact pAB p hpm (v, ck) (by simp)
    · exact pAB p hpm q (by simp [hq'])
  · by_cases e : x = v
    · subst e
      simp only [upd, if_true]
      constructor
      · intro hx
        rcases List.mem_append.1 hx with h1 | h1
        · exact absurd rfl (nA _ h1)
        · rcases List.mem_cons.1 h1 with h2 | h2
          · have : d = ck + c := congrArg Prod.snd h2
            omega
          · exact absurd rfl (nB _ h2)
      · rintro ⟨h1, h2⟩
        rw [show d = ck + c by omega]; simp
    · simp only [upd, if_neg e]
      rw [← hm x d]
      constructor
      · intro hx
        rcases List.mem_append.1 hx with h1 | h1
        · exact List.mem_append_left _ h1
        · rcases List.mem_cons.1 h1 with h2 | h2
          · exact absurd (congrArg Prod.fst h2) e
          · exact List.mem_append_right _ (List.mem_cons_of_mem _ h2)
      · intro hx
        rcases List.mem_append.1 hx with h1 | h1
        · exact List.mem_append_left _ h1
        · rcases List.mem_cons.1 h1 with h2 | h2
          · exact absurd (congrArg Prod.fst h2) e
          · exact List.mem_append_right _ (List.mem_cons_of_mem _ h2)
theorem tbl_put_miss {A B : List (Int × Nat)} {v : Int} {c : Nat} {f : Int → Nat} (h : IsTbl (A ++ B) f) (hA : ∀ p ∈ A, p.1 < v) (hB : ∀ p ∈ B, v < p.1) (hc : c ≠ 0) : IsTbl (A ++ (v, c) :: B) (upd f v c) := by
  obtain ⟨hp, hm⟩ := h
  have hnot : ∀ d, (v, d) ∉ A ++ B := fun d hd => by
    rcases List.mem_append.1 hd with h1 | h1
    · have := hA _ h1; simp at this
    · have := hB _ h1; simp at this
  have hv : f v = 0 := by
    by_cases e : f v = 0
    · exact e
    · exact absurd ((hm v (f v)).2 ⟨rfl, e⟩) (hnot _)
  rw [List.pairwise_append] at hp
  obtain ⟨pA, pB, pAB⟩ := hp
  refine ⟨?_, fun x d => ?_⟩
  · rw [List.pairwise_append, List.pairwise_cons]
    refine ⟨pA, ⟨fun p hpm => hB p hpm, pB⟩, fun p hpm q hq => ?_⟩
    rcases List.mem_cons.1 hq with e | hq'
    · subst e; exact hA p hpm
    · exact pAB p hpm q hq'
  · by_cases e : x = v
    · subst e
      simp only [upd, if_true, hv, Nat.zero_add]
      constructor
      · intro hx
        rcases List.mem_append.1 hx with h1 | h1
        · exact absurd (List.mem_append_left _ h1) (hnot d)
        · rcases List.mem_cons.1 h1 with h2 | h2
          · have : d = c := congrArg Prod.snd h2
            omega
          · exact absurd (List.mem_append_right _ h2) (hnot d)
      · rintro ⟨h1, h2⟩
        rw [← h1]; simp
    · simp only [upd, if_neg e]
      rw [← hm x d]
      constructor
      · intro hx
        rcases List.mem_append.1 hx with h1 | h1
        · exact List.mem_append_left _ h1
        · rcases List.mem_cons.1 h1 with h2 | h2
          · exact absurd (congrArg Prod.fst h2) e
          · exact List.mem_append_right _ h2
      · intro hx
        rcases List.mem_append.1 hx with h1 | h1
        · exact List.mem_append_left _ h1
        · exact List.mem_append_right _ (List.mem_cons_of_mem _ h1)
theorem take_lt {L : List (Int × Nat)} {k : Nat} {v : Int} (h : ∀ j, j < k → (L.getD j (0, 0)).1 < v) : ∀ p ∈ L.take k, p.1 < v := by
  intro p hp
  obtain ⟨j, hj, e⟩ := List.getElem_of_mem hp
  rw [List.length_take] at hj
  have h1 := h j (by omega)
  rw [List.getD_eq_getElem?_getD, List.getElem?_eq_getElem (by omega)] at h1
  rw [List.getElem_take] at e
  rw [← e]; exact h1
theorem drop_gt {L : List (Int × Nat)} {k : Nat} {v : Int} (hp : L.Pairwise fun p q => p.1 < q.1) (h : k < L.length → v < (L.getD k (0, 0)).1) : ∀ p ∈ L.drop k, v < p.1 := by
  intro p hm
  rcases Nat.lt_or_ge k L.length with hk | hk
  · have h0 := h hk
    rw [List.getD_eq_getElem?_getD, List.getElem?_eq_getElem hk] at h0
    simp only [Option.getD_some] at h0
    rw [List.drop_eq_getElem_cons hk] at hm
    have hp2 : (L.drop k).Pairwise fun p q => p.1 < q.1 := hp.sublist (List.drop_sublist k L)
    rw [List.drop_eq_getElem_cons hk, List.pairwise_cons] at hp2
    rcases List.mem_cons.1 hm with e | h2
    · subst e; exact h0
    · have := hp2.1 p h2; omega
  · rw [List.drop_eq_nil_of_le hk] at hm; simp at hm
theorem split_at {L : List (Int × Nat)} {k : Nat} {v : Int} {c : Nat} (hk : k < L.length) (hx : L.getD k (0, 0) = (v, c)) : L = L.take k ++ (v, c) :: L.drop (k + 1) := by
  conv => lhs; rw [← List.take_append_drop k L, List.drop_eq_getElem_cons hk]
  rw [List.getD_eq_getElem?_getD, List.getElem?_eq_getElem hk] at hx
  simp only [Option.getD_some] at hx
  rw [hx]
theorem ocells_set {A B : List (Int × Nat)} {v : Int} {c d : Nat} : (ocells (A ++ (v, c) :: B)).set (A.length * 2 + 1) (.string (ds d)) = ocells (A ++ (v, d) :: B) := by
  rw [ocells_append, ocells_append]
  rw [List.set_append_right _ _ (by rw [ocells_length]; omega), ocells_length]
  rw [show A.length * 2 + 1 - A.length * 2 = 1 by omega]
  rfl
/-- A cell of an own row is set. -/
theorem own_set {w : World} {base g cap n : Nat} {L M : List Value} {e : TypeId} {size : Nat} {i : Nat} {u : Value} (h : w.ownsRow base e size (.slice (some ⟨g, 0, none⟩) n cap) n L) (hM : M = L.set i u) (hi : i < L.length) :
    (w.setCell ⟨g, i, none⟩ u).ownsRow base e size (.slice (some ⟨g, 0, none⟩) n cap) n M := by
  obtain ⟨hl, h⟩ := h
  rcases h with ⟨e1, _⟩ | ⟨g', cap', cur, e1, h1, h2, h3, h4, h5, h6⟩
  · cases e1
  · cases e1
    have hb : Blk w g e cur := h2
    refine ⟨by rw [hM, List.length_set]; exact hl, .inr ⟨g, cap, cur.setIfInBounds i u, rfl, h1, hb.set i u, h3, h4, by simpa using h5, ?_⟩⟩
    rw [hM, ← h6, Array.toList_setIfInBounds, List.take_set]
end Go.Proofs.YtdapflgfocideaaGreatDoor
