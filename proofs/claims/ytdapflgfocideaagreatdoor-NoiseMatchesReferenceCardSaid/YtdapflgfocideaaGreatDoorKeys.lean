/- maps.Keys and slices.Sorted at a map from int to numerals; noise.Valid. -/
import Derived.Test.YtdapflgfocideaaGreatDoorStep
import Derived.Test.YtdapflgfocideaaGreatDoorIter
namespace Go.Proofs.YtdapflgfocideaaGreatDoor
open Go Go.RowKit Go.Deep Go.Shelf
open Go.Lib (decDigits)
open Go.Maps (Keyed)

theorem sorts {m' : Nat} : AnyZI.SortsIn Tryz.prog Tryz.sortedA_ren Fence.wide m' :=
  ⟨fun blk off cap ss W hH hblk hsz => callsIn_wide.2 (Tryz.slices_Sort_int blk off cap ss W hH hblk hsz), fun p cap W => callsIn_wide.2 (Tryz.slices_Sort_int_none p cap W)⟩
theorem keys_call (mb : Option Nat) (W : World) : Calls Tryz.prog 25 #[.map mb] W fun e w' => e = .returned (.func (.func 43) #[] #[.pointer (some ⟨W.heap.size, 0, none⟩)]) ∧ w' = W.alloc (.cells #[.map mb] 46) :=
  (callsIn_wide (n := 5)).1 (AnyZI.keys_in Tryz.keysA Fence.wide 5 trivial rfl mb W)
theorem sorted_call (W : World) (p b nn : Nat) (D : DU) (hp : p < W.heap.size) (hc : W.cell? ⟨p, 0, none⟩ = some (.map (some b))) (hown : W.ownsMap Tryz.prog 3 (plainElem Tryz.prog 29) b nn D) (hn : nn ≤ 10000000) :
    Calls Tryz.prog 24 #[.func (.func 43) #[] #[.pointer (some ⟨p, 0, none⟩)]] W fun e w' => ∃ (v : Value) (ss : List Int), e = .returned v ∧ ss.Perm (intKeys D) ∧
      w'.ownsRow W.heap.size 3 1 v ss.length ((ss.mergeSort (fun x y => decide (x ≤ y))).map encZ) ∧ (v = .slice none 0 0 ↔ ss = []) ∧ Below W.heap.size W w' := by
  have hs := hown.size_le
  refine (callsIn_wide (n := 5)).1 ?_
  have hseq : SeqGives Fence.wide 2 Tryz.prog 43 #[.pointer (some ⟨p, 0, none⟩)] encZ (fun ss => ss.Perm (intKeys D)) (Maps.size D) W :=
    AnyZI.keys_gives (ρ := Tryz.keysA_ren) { Tryz.keysA with } Fence.wide _ trivial rfl (by omega) p b nn D W hp hc hown
  exact AnyZI.sorted_in Tryz.sortedA Fence.wide 5 trivial trivial trivial trivial rfl (by omega) sorts (enters_of Tryz.func42 (by kernel_rfl) rfl) 43 #[.pointer (some ⟨p, 0, none⟩)] trivial (enters_of Tryz.func43 (by kernel_rfl) rfl) _ _ (by unfold maxLen; omega) (by omega) _ hseq

/-- ks are the values that have a count, in rising order. -/
def KeysOf (ks : List Int) (f : Int → Nat) : Prop := ks.Pairwise (· < ·) ∧ ∀ x, x ∈ ks ↔ f x ≠ 0

theorem keys_sorted {W : World} {b nn : Nat} {D : DU} {f : Int → Nat} (hown : W.ownsMap Tryz.prog 3 (plainElem Tryz.prog 29) b nn D) (hR : Rep D f) (hsup : ∀ x, f x ≠ 0 → -10000 ≤ x ∧ x ≤ 10000) {ss : List Int} (hp : ss.Perm (intKeys D)) :
    KeysOf (ss.mergeSort (fun x y => decide (x ≤ y))) f := by
  obtain ⟨es, hD, hpw, _⟩ := hown.entries keyed3
  obtain ⟨es', hD', hko⟩ := hown.keysOf
  obtain rfl : es = es' := by rw [hD] at hD'; simpa using hD'
  have hk : ∀ p ∈ es, ∃ x, p.1 = .int .i64 x := fun p hp => by
    obtain ⟨v, hv⟩ := hko p hp
    obtain ⟨x, _, hx, _⟩ := Maps.keyOf_i64 Tryz.underlying3 hv
    exact ⟨x, hx⟩
  have hnd : (intKeys D).Nodup := by
    subst hD
    show (es.map fun p => Go.intOf p.1).Nodup
    refine List.pairwise_map.2 (hpw.imp_of_mem fun {p q} hp' hq' hne e => hne ?_)
    obtain ⟨a, ha⟩ := hk p hp'
    obtain ⟨c, hc⟩ := hk q hq'
    rw [ha, hc] at e ⊢
    exact congrArg _ e
  have hmem : ∀ x, x ∈ intKeys D ↔ f x ≠ 0 := by
    intro x
    have key : x ∈ intKeys D ↔ Maps.has D (.int .i64 x) = true := by
      subst hD
      rw [Maps.has_eq, List.any_eq_true]
      show x ∈ es.map (fun p => Go.intOf p.1) ↔ _
      rw [List.mem_map]
      constructor
      · rintro ⟨p, hp', rfl⟩
        obtain ⟨a, ha⟩ := hk p hp'
        exact ⟨p, hp', by rw [ha]; simp [Lit.sameKey, Go.intOf]⟩
      · rintro ⟨p, hp', hs⟩
        obtain ⟨a, ha⟩ := hk p hp'
        rw [ha] at hs
        exact ⟨p, hp', by rw [ha]; simpa [Lit.sameKey, Go.intOf] using hs⟩
    constructor
    · intro h
      have hw := intKeys_wf hown Tryz.underlying3 x h
      have h1 := key.1 h
      rw [hR.has x hw] at h1
      simpa using h1
    · intro h
      rw [key, hR.has x (wf_i64' x (by have := hsup x h; omega))]
      simpa using h
  have hpm := List.mergeSort_perm ss (fun x y => decide (x ≤ y))
  refine ⟨?_, fun x => by rw [hpm.mem_iff, hp.mem_iff, hmem]⟩
  have hle : (ss.mergeSort (fun x y => decide (x ≤ y))).Pairwise (fun a b => decide (a ≤ b) = true) := List.pairwise_mergeSort (fun a b c h1 h2 => by simp only [decide_eq_true_eq] at *; omega) (fun a b => by simp only [Bool.or_eq_true, decide_eq_true_eq]; omega) ss
  have hne : (ss.mergeSort (fun x y => decide (x ≤ y))).Pairwise (· ≠ ·) := ((hpm.trans hp).nodup_iff).2 hnd
  exact (hle.and hne).imp fun {a b} h => by have := of_decide_eq_true h.1; have := h.2; omega

/-- A valid tape. -/
def VT (t : List Int) : Prop := 1 ≤ t.length ∧ t.length ≤ 9 ∧ ∀ o ∈ t, -50 ≤ o ∧ o ≤ 50

instance (t : List Int) : Decidable (VT t) := by unfold VT; infer_instance

theorem foldl_min_bd (l : List Int) (a k : Int) : k ≤ l.foldl min a ↔ k ≤ a ∧ ∀ o ∈ l, k ≤ o := by
  induction l generalizing a with
  | nil => simp
  | cons x l ih =>
    rw [List.foldl_cons, ih]
    simp only [List.mem_cons, forall_eq_or_imp]
    have : k ≤ min a x ↔ k ≤ a ∧ k ≤ x := Int.le_min
    rw [this, and_assoc]
theorem foldl_max_bd (l : List Int) (a k : Int) : l.foldl max a ≤ k ↔ a ≤ k ∧ ∀ o ∈ l, o ≤ k := by
  induction l generalizing a with
  | nil => simp
  | cons x l ih =>
    rw [List.foldl_cons, ih]
    simp only [List.mem_cons, forall_eq_or_imp]
    have : max a x ≤ k ↔ a ≤ k ∧ x ≤ k := Int.max_le
    rw [this, and_assoc]
theorem minOf_bd (l : List Int) (h : l ≠ []) (k : Int) : k ≤ Lib.minOf l ↔ ∀ o ∈ l, k ≤ o := by
  cases l with
  | nil => exact absurd rfl h
  | cons x l =>
    unfold Lib.minOf
    rw [foldl_min_bd]
    simp
theorem maxOf_bd (l : List Int) (h : l ≠ []) (k : Int) : Lib.maxOf l ≤ k ↔ ∀ o ∈ l, o ≤ k := by
  cases l with
  | nil => exact absurd rfl h
  | cons x l =>
    unfold Lib.maxOf
    rw [foldl_max_bd]
    simp

set_option maxHeartbeats 400000 in
/-- noise.Valid. -/
theorem validT (w : World) (B : Nat) (A : Option Addr) (n c : Nat) (t : List Int) (h : RdI w B A n t) (hn : n ≤ 4611686018427387904) :
    Calls Tryz.prog 15 #[.slice A n c] w fun e w' => e = .returned (.bool (decide (VT t))) ∧ w = w' := by
  have hl := h.length
  by_cases h1 : n < 1
  · have e : decide (VT t) = false := decide_eq_false (fun h => by have := h.1; omega)
    rw [e]
    clear e hl h
    go_enter Tryz.func15, Tryz.ntmps15
    go_wp2_with fail
    go_ret
    exact ⟨rfl, rfl⟩
  · by_cases h9 : 9 < n
    · have e : decide (VT t) = false := decide_eq_false (fun h => absurd (show t.length ≤ 9 from h.2.1) (by omega))
      rw [e]
      clear e hl h
      go_enter Tryz.func15, Tryz.ntmps15
      go_wp2_with fail
      go_ret
      exact ⟨rfl, rfl⟩
    · obtain ⟨b, off, _, rfl, _, _, _⟩ := h.at (k := 0) (by omega)
      have hc : ∀ j, j < t.length → w.cell? ⟨b, off + j, none⟩ = some (.int .i64 (t.getD j 0)) := fun j hj => by
        obtain ⟨b', off', x, e, _, hx, hv⟩ := h.at (k := j) (by omega)
        cases e
        rw [hx, hv.out]
      have MN := Lib.hid (Tryz.slices_Min_int b off n c t w (by omega) (by omega) (by omega) hc)
      have MX := Lib.hid (Tryz.slices_Max_int b off n c t w (by omega) (by omega) (by omega) hc)
      have hne : t ≠ [] := by rintro rfl; simp at hl; omega
      rw [List.take_of_length_le (by omega)] at MN MX
      have m1 := minOf_bd t hne (-50)
      have m2 := maxOf_bd t hne 50
      obtain ⟨mn, hmn⟩ : ∃ x, x = Lib.minOf t := ⟨_, rfl⟩
      obtain ⟨mx, hmx⟩ : ∃ x, x = Lib.maxOf t := ⟨_, rfl⟩
      rw [← hmn] at MN m1
      rw [← hmx] at MX m2
      have hv : VT t ↔ -50 ≤ mn ∧ mx ≤ 50 := by
        rw [m1, m2]
        unfold VT
        constructor
        · rintro ⟨_, _, h⟩; exact ⟨fun o ho => (h o ho).1, fun o ho => (h o ho).2⟩
        · rintro ⟨h, h'⟩; exact ⟨by omega, by omega, fun o ho => ⟨h o ho, h' o ho⟩⟩
      have HV := Lib.hid hv
      clear m1 m2 hmn hmx hv hne hl hc h
      by_cases c1 : -50 ≤ mn
      · by_cases c2 : mx ≤ 50
        · rw [decide_eq_true (HV.out.2 ⟨c1, c2⟩)]
          go_enter Tryz.func15, Tryz.ntmps15
          go_wp2_with (first | (go_at_call 30; refine MN.out.mono ?_; rintro e w' ⟨rfl, rfl⟩) | (go_at_call 31; refine MX.out.mono ?_; rintro e w' ⟨rfl, rfl⟩))
          go_ret
          exact ⟨rfl, rfl⟩
        · rw [decide_eq_false (fun h => c2 (HV.out.1 h).2)]
          go_enter Tryz.func15, Tryz.ntmps15
          go_wp2_with (first | (go_at_call 30; refine MN.out.mono ?_; rintro e w' ⟨rfl, rfl⟩) | (go_at_call 31; refine MX.out.mono ?_; rintro e w' ⟨rfl, rfl⟩))
          go_ret
          exact ⟨by simp; omega, rfl⟩
      · rw [decide_eq_false (fun h => c1 (HV.out.1 h).1)]
        go_enter Tryz.func15, Tryz.ntmps15
        go_wp2_with (first | (go_at_call 30; refine MN.out.mono ?_; rintro e w' ⟨rfl, rfl⟩) | (go_at_call 31; refine MX.out.mono ?_; rintro e w' ⟨rfl, rfl⟩))
        go_ret
        exact ⟨rfl, rfl⟩
end Go.Proofs.YtdapflgfocideaaGreatDoor
