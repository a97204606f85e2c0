/- Plain facts on tables of counts. -/
import Derived.Test.YtdapflgfocideaaGreatDoorTail
import Derived.Test.YtdapflgfocideaaGreatDoorSums
namespace Go.Proofs.YtdapflgfocideaaGreatDoor
open Go Go.RowKit Go.Deep
open Go.Lib (decDigits)

theorem cnt_sums (t : List Int) (n : Nat) : cnt t n = cntL (sums t n) := by
  induction n with
  | zero => funext v; rw [sums_zero]; rfl
  | succ n ih => rw [sums_conv, ← ih]; rfl
theorem tbl_fst {L : List (Int × Nat)} {f : Int → Nat} (h : IsTbl L f) : (L.map Prod.fst).Pairwise (· < ·) ∧ L = (L.map Prod.fst).map (fun x => (x, f x)) ∧ ∀ x, x ∈ L.map Prod.fst ↔ f x ≠ 0 := by
  refine ⟨List.pairwise_map.2 h.1, ?_, fun x => ?_⟩
  · rw [List.map_map]
    have : L = L.map id := by simp
    conv => lhs; rw [this]
    apply List.map_congr_left
    rintro ⟨x, c⟩ hp
    have := (h.2 x c).1 hp
    simp [this.1]
  · rw [List.mem_map]
    constructor
    · rintro ⟨⟨y, c⟩, hp, rfl⟩
      have := (h.2 y c).1 hp
      simp only; omega
    · intro h0
      exact ⟨(x, f x), (h.2 x _).2 ⟨rfl, h0⟩, rfl⟩
theorem sorted_ext : ∀ {l m : List Int}, l.Pairwise (· < ·) → m.Pairwise (· < ·) → (∀ x, x ∈ l ↔ x ∈ m) → l = m
  | [], [], _, _, _ => rfl
  | [], b :: s, _, _, h => by have := (h b).2 (by simp); simp at this
  | a :: r, [], _, _, h => by have := (h a).1 (by simp); simp at this
  | a :: r, b :: s, h1, h2, h => by
    obtain ⟨a1, a2⟩ := List.pairwise_cons.1 h1
    obtain ⟨b1, b2⟩ := List.pairwise_cons.1 h2
    have hab : a = b := by
      rcases List.mem_cons.1 ((h a).1 (by simp)) with e | ha
      · exact e
      · rcases List.mem_cons.1 ((h b).2 (by simp)) with e | hb
        · exact e.symm
        · have := b1 a ha; have := a1 b hb; omega
    subst hab
    rw [sorted_ext a2 b2 (fun x => ?_)]
    constructor
    · intro hx
      rcases List.mem_cons.1 ((h x).1 (by simp [hx])) with e | hx'
      · have := a1 x hx; omega
      · exact hx'
    · intro hx
      rcases List.mem_cons.1 ((h x).2 (by simp [hx])) with e | hx'
      · have := b1 x hx; omega
      · exact hx'
theorem tbl_unique {L M : List (Int × Nat)} {f : Int → Nat} (h : IsTbl L f) (k : IsTbl M f) : L = M := by
  obtain ⟨h1, h2, h3⟩ := tbl_fst h
  obtain ⟨k1, k2, k3⟩ := tbl_fst k
  rw [h2, k2, sorted_ext h1 k1 (fun x => by rw [h3, k3])]
theorem tbl_mk (M : List (Int × Nat)) (S : List Int) (h1 : M.Pairwise fun p q => p.1 < q.1) (h2 : ∀ p ∈ M, S.count p.1 = p.2 ∧ p.2 ≠ 0) (h3 : ∀ x ∈ S, x ∈ M.map Prod.fst) : IsTbl M (cntL S) := by
  refine ⟨h1, fun x c => ⟨fun h => ⟨(h2 _ h).1, (h2 _ h).2⟩, fun ⟨h, h0⟩ => ?_⟩⟩
  have hx : x ∈ S := by rw [← List.count_pos_iff]; unfold cntL at h; omega
  obtain ⟨⟨y, d⟩, hp, hy⟩ := List.mem_map.1 (h3 x hx)
  simp only at hy
  subst hy
  have := (h2 _ hp).1
  unfold cntL at h
  simp only at this
  have e : d = c := by omega
  rw [← e]; exact hp
theorem nodup_lt {l : List Int} (h : l.Pairwise (· < ·)) : l.Nodup := h.imp fun {a b} h e => by omega
theorem sumAll_tbl {L : List (Int × Nat)} {S : List Int} (h : IsTbl L (cntL S)) : sumAll L = S.length := by
  obtain ⟨h1, h2, h3⟩ := tbl_fst h
  have e := sum_counts S (L.map Prod.fst) (nodup_lt h1) (fun x hx => (h3 x).2 (by unfold cntL; have := List.count_pos_iff.2 hx; omega))
  rw [← e]
  unfold sumAll
  conv => lhs; rw [h2]
  rw [List.map_map]
  rfl
theorem sumGe_tbl {L : List (Int × Nat)} {S : List Int} (h : IsTbl L (cntL S)) (least : Int) : sumGe least L = (S.filter fun x => decide (least ≤ x)).length := by
  obtain ⟨h1, h2, h3⟩ := tbl_fst h
  have e := sum_counts (S.filter fun x => decide (least ≤ x)) ((L.map Prod.fst).filter fun x => decide (least ≤ x)) ((nodup_lt h1).filter _) (fun x hx => by
    rw [List.mem_filter] at hx ⊢
    exact ⟨(h3 x).2 (by unfold cntL; have := List.count_pos_iff.2 hx.1; omega), hx.2⟩)
  rw [← e]
  unfold sumGe
  conv => lhs; rw [h2]
  rw [List.filter_map, List.map_map]
  congr 1
  apply List.map_congr_left
  intro x hx
  rw [List.mem_filter] at hx
  show cntL S x = _
  unfold cntL
  have hx2 : (fun x => decide (least ≤ x)) x = true := hx.2
  rw [List.count_filter (p := fun x => decide (least ≤ x)) hx2]
theorem cnt_total {L : List (Int × Nat)} {t : List Int} {n : Nat} (h : IsTbl L (cnt t n)) : sumAll L = t.length ^ n := by
  rw [cnt_sums] at h
  rw [sumAll_tbl h, sums_length]
theorem cnt_pos {t : List Int} {n : Nat} (hV : VT t) (hn : n ≤ 6) (L : List (Int × Nat)) (h : IsTbl L (cnt t n)) : 0 < sumAll L ∧ sumAll L < 1000000000 := by
  rw [cnt_total h]
  have h1 : t.length ^ n ≤ 9 ^ n := Nat.pow_le_pow_left hV.2.1 n
  have h2 := pow9_le hn
  exact ⟨Nat.pow_pos (by have := hV.1; omega), by omega⟩
/-- A block of outcomes reads. -/
theorem Blk.rdO {w : World} {g : Nat} {t : TypeId} {L : List (Int × Nat)} (h : Blk w g t (ocells L).toArray) {B : Nat} (hB : g < B) : RdO w B (some ⟨g, 0, none⟩) L.length L :=
  ⟨rfl, fun k hk => ⟨g, 0, rfl, hB, fun j hj => by
    have := ocells_at L j hj
    rw [Nat.zero_add, h.cell, h.cell]
    simpa using this⟩⟩
theorem ds2 : ds 2 = ⟨#[50]⟩ := by unfold ds; rw [dec_unfold]; rfl
end Go.Proofs.YtdapflgfocideaaGreatDoor
