/- Contract of few; plain facts on a table's ends. -/
import Derived.Test.YtdapflgfocideaaGreatDoorHead
namespace Go.Proofs.YtdapflgfocideaaGreatDoor
open Go Go.RowKit Go.Deep
open Go.Lib (decDigits)

set_option maxHeartbeats 400000 in
theorem few_any (w : World) (A : Option Addr) (nt ct : Nat) (n : Int) (hn : nt ≤ 4611686018427387904) :
    Calls Tryz.prog 10 #[.slice A nt ct, .int .i64 n] w fun e w' => e = .returned (.bool (decide (nt ≤ 12 ∧ (n ≤ 6 ∨ 40 < n)))) ∧ w = w' := by
  by_cases h1 : nt ≤ 12
  · by_cases h2 : n ≤ 6
    · rw [decide_eq_true ⟨h1, .inl h2⟩]
      go_enter Tryz.func10, Tryz.ntmps10
      go_wp2_with fail
      go_ret
      exact ⟨rfl, rfl⟩
    · by_cases h3 : 40 < n
      · rw [decide_eq_true ⟨h1, .inr h3⟩]
        go_enter Tryz.func10, Tryz.ntmps10
        go_wp2_with fail
        go_ret
        exact ⟨by first | rfl | simp, rfl⟩
      · rw [decide_eq_false (fun h => by rcases h.2 with h | h; exact h2 h; exact h3 h)]
        go_enter Tryz.func10, Tryz.ntmps10
        go_wp2_with fail
        go_ret
        exact ⟨by first | rfl | simp, rfl⟩
  · rw [decide_eq_false (fun h => h1 h.1)]
    go_enter Tryz.func10, Tryz.ntmps10
    go_wp2_with fail
    go_ret
    exact ⟨rfl, rfl⟩

theorem tbl_mem {L : List (Int × Nat)} {t : List Int} {n : Nat} (h : IsTbl L (cnt t n)) (x : Int) : x ∈ L.map Prod.fst ↔ x ∈ sums t n := by
  rw [(tbl_fst h).2.2, cnt_sums]
  unfold cntL
  rw [← List.count_pos_iff]
  omega
theorem getD_fst (L : List (Int × Nat)) (j : Nat) (hj : j < L.length) : (L.getD j (0, 0)).1 = (L.map Prod.fst)[j]'(by simpa using hj) := by
  rw [List.getD_eq_getElem?_getD, List.getElem?_eq_getElem hj]; simp
theorem tbl_first {L : List (Int × Nat)} {t : List Int} {n : Nat} (h : IsTbl L (cnt t n)) {lo : Int} (hm : lo ∈ t) (hl : ∀ o ∈ t, lo ≤ o) : 0 < L.length ∧ (L.getD 0 (0, 0)).1 = n * lo := by
  have h1 := (tbl_mem h _).2 (sums_mul t lo hm n)
  have hlen : 0 < L.length := by
    rcases Nat.eq_zero_or_pos L.length with h0 | h0
    · rw [List.eq_nil_of_length_eq_zero h0] at h1; simp at h1
    · exact h0
  refine ⟨hlen, ?_⟩
  rw [getD_fst L 0 hlen]
  have h2 : (L.map Prod.fst)[0]'(by simpa using hlen) ∈ sums t n := (tbl_mem h _).1 (List.getElem_mem _)
  obtain ⟨hi, hhi⟩ : ∃ hi : Int, ∀ o ∈ t, o ≤ hi := by
    clear h h1 h2 hl hm hlen
    induction t with
    | nil => exact ⟨0, by simp⟩
    | cons a t ih =>
      obtain ⟨k, hk⟩ := ih
      exact ⟨max a k, fun o ho => by
        rcases List.mem_cons.1 ho with rfl | ho
        · exact Int.le_max_left _ _
        · exact Int.le_trans (hk o ho) (Int.le_max_right _ _)⟩
  have h3 := (sums_bd t lo hi (fun o ho => ⟨hl o ho, hhi o ho⟩) n _ h2).1
  obtain ⟨j, hj, e⟩ := List.getElem_of_mem h1
  have hp := (tbl_fst h).1
  rcases Nat.eq_zero_or_pos j with h0 | h0
  · subst h0; exact e
  · have := List.pairwise_iff_getElem.1 hp 0 j (by simpa using hlen) hj h0
    omega
theorem tbl_last {L : List (Int × Nat)} {t : List Int} {n : Nat} (h : IsTbl L (cnt t n)) {hi : Int} (hm : hi ∈ t) (hl : ∀ o ∈ t, o ≤ hi) : (L.getD (L.length - 1) (0, 0)).1 = n * hi := by
  have h1 := (tbl_mem h _).2 (sums_mul t hi hm n)
  have hlen : 0 < L.length := by
    rcases Nat.eq_zero_or_pos L.length with h0 | h0
    · rw [List.eq_nil_of_length_eq_zero h0] at h1; simp at h1
    · exact h0
  rw [getD_fst L _ (by omega)]
  have h2 : (L.map Prod.fst)[L.length - 1]'(by simp; omega) ∈ sums t n := (tbl_mem h _).1 (List.getElem_mem _)
  obtain ⟨lo, hlo⟩ : ∃ lo : Int, ∀ o ∈ t, lo ≤ o := by
    clear h h1 h2 hl hm hlen
    induction t with
    | nil => exact ⟨0, by simp⟩
    | cons a t ih =>
      obtain ⟨k, hk⟩ := ih
      exact ⟨min a k, fun o ho => by
        rcases List.mem_cons.1 ho with rfl | ho
        · exact Int.min_le_left _ _
        · exact Int.le_trans (Int.min_le_right _ _) (hk o ho)⟩
  have h3 := (sums_bd t lo hi (fun o ho => ⟨hlo o ho, hl o ho⟩) n _ h2).2
  obtain ⟨j, hj, e⟩ := List.getElem_of_mem h1
  have hp := (tbl_fst h).1
  by_cases h0 : j = L.length - 1
  · subst h0; exact e
  · have hj' : j < L.length := by simpa using hj
    have := List.pairwise_iff_getElem.1 hp j (L.length - 1) hj (by simp; omega) (by omega)
    omega
end Go.Proofs.YtdapflgfocideaaGreatDoor
