/- Contract of noise.Distribution. -/
import Derived.Test.YtdapflgfocideaaGreatDoorKeys
import Derived.WalkSmall
namespace Go.Proofs.YtdapflgfocideaaGreatDoor
open Go Go.RowKit Go.Deep Go.Shelf
open Go.Lib (decDigits)
open Go.Maps (Keyed)

/-- The counts of the sums of n offsets. -/
def cnt (t : List Int) : Nat → Int → Nat
  | 0 => fun v => if v = 0 then 1 else 0
  | n + 1 => conv t (cnt t n)
/-- The cells of a distribution. -/
def ocells : List (Int × Nat) → List Value
  | [] => []
  | p :: r => .int .i64 p.1 :: .string (ds p.2) :: ocells r
/-- The slice value of length n at address A reads as the outcomes L, and lies below block B. -/
structure RdO (w : World) (B : Nat) (A : Option Addr) (n : Nat) (L : List (Int × Nat)) : Prop where
  len : L.length = n
  cells : ∀ k, k < n → ∃ b off, A = some ⟨b, off, none⟩ ∧ b < B ∧ ∀ j (h : j < L.length), w.cell? ⟨b, off + j * 2, none⟩ = some (.int .i64 L[j].1) ∧ w.cell? ⟨b, off + j * 2 + 1, none⟩ = some (.string (ds L[j].2))
theorem RdO.keep {w w' : World} {B n : Nat} {A : Option Addr} {L : List (Int × Nat)} (h : RdO w B A n L) (hk : ∀ p : Addr, p.block < B → w'.cell? p = w.cell? p) : RdO w' B A n L :=
  ⟨h.len, fun k hkn => by
    obtain ⟨b, off, e, hb, hc⟩ := h.cells k hkn
    exact ⟨b, off, e, hb, fun j hj => ⟨(hk _ hb).trans (hc j hj).1, (hk _ hb).trans (hc j hj).2⟩⟩⟩
theorem RdO.below {w w' : World} {B n : Nat} {A : Option Addr} {L : List (Int × Nat)} (h : RdO w B A n L) (hb : Below B w w') : RdO w' B A n L := h.keep fun _ hp => hb.cell hp
theorem RdO.more {w : World} {B B' n : Nat} {A : Option Addr} {L : List (Int × Nat)} (h : RdO w B A n L) (hB : B ≤ B') : RdO w B' A n L :=
  ⟨h.len, fun k hkn => by
    obtain ⟨b, off, e, hb, hc⟩ := h.cells k hkn
    exact ⟨b, off, e, by omega, hc⟩⟩
theorem RdO.up {w w' : World} {n : Nat} {A : Option Addr} {L : List (Int × Nat)} (h : RdO w w.heap.size A n L) (hb : Below w.heap.size w w') : RdO w' w'.heap.size A n L := (h.below hb).more hb.size
theorem RdO.at {w : World} {B n : Nat} {A : Option Addr} {L : List (Int × Nat)} (h : RdO w B A n L) {k : Nat} (hk : k < n) :
    ∃ b off x c, A = some ⟨b, off, none⟩ ∧ b < B ∧ w.cell? ⟨b, off + k * 2, none⟩ = some (.int .i64 x) ∧ w.cell? ⟨b, off + k * 2 + 1, none⟩ = some (.string (ds c)) ∧ Hid (L.getD k (0, 0) = (x, c)) := by
  obtain ⟨b, off, e, hb, hc⟩ := h.cells k hk
  have hl : k < L.length := by rw [h.len]; exact hk
  exact ⟨b, off, L[k].1, L[k].2, e, hb, (hc k hl).1, (hc k hl).2, Lib.hid (by rw [List.getD_eq_getElem?_getD, List.getElem?_eq_getElem hl]; rfl)⟩
theorem ocells_length (L : List (Int × Nat)) : (ocells L).length = L.length * 2 := by
  induction L with
  | nil => rfl
  | cons p r ih => simp [ocells, ih]; omega
theorem ocells_at (L : List (Int × Nat)) (j : Nat) (h : j < L.length) : (ocells L)[j * 2]? = some (.int .i64 L[j].1) ∧ (ocells L)[j * 2 + 1]? = some (.string (ds L[j].2)) := by
  induction L generalizing j with
  | nil => simp at h
  | cons p r ih =>
    cases j with
    | zero => simp [ocells]
    | succ j =>
      have := ih j (by simpa using h)
      rw [show (j + 1) * 2 = j * 2 + 1 + 1 by omega]
      simp only [ocells, List.getElem?_cons_succ, List.getElem_cons_succ]
      exact this
theorem ocells_append (L M : List (Int × Nat)) : ocells (L ++ M) = ocells L ++ ocells M := by
  induction L with
  | nil => rfl
  | cons p r ih => simp [ocells, ih]
/-- A row of outcomes of the call's own reads. -/
theorem own_rdO {w : World} {base n : Nat} {v : Value} {L : List (Int × Nat)} (h : w.ownsRow base 38 2 v n (ocells L)) :
    ∃ A cap, v = .slice A n cap ∧ n ≤ cap ∧ RdO w w.heap.size A n L ∧ (∀ p, A = some p → base ≤ p.block) := by
  have hl : L.length = n := by have := h.1; rw [ocells_length] at this; omega
  rcases h.2 with ⟨rfl, h0⟩ | ⟨g, cap, cur, rfl, hb, hg, h1, h2, h3, h4⟩
  · subst h0
    exact ⟨none, 0, rfl, Nat.le_refl _, ⟨hl, fun k hk => absurd hk (by omega)⟩, fun p e => by cases e⟩
  · have hlt := lt_of_block hg
    refine ⟨_, cap, rfl, h1, ⟨hl, fun k hk => ⟨g, 0, rfl, hlt, fun j hj => ?_⟩⟩, fun p e => by cases e; exact hb⟩
    have key : ∀ i u, (ocells L)[i]? = some u → w.cell? ⟨g, 0 + i, none⟩ = some u := by
      intro i u hu
      rw [Nat.zero_add, cell_of_row w g i cur 38 (0, 0) hg]
      rw [← h4, List.getElem?_take] at hu
      split at hu
      · simpa using hu
      · cases hu
    have ha := ocells_at L j hj
    exact ⟨key _ _ ha.1, key _ _ ha.2⟩
theorem Rd.alloc {w : World} {B n : Nat} {A : Option Addr} {xs : List Value} (h : Rd w B A n xs) (hB : B ≤ w.heap.size) (o : Obj) : Rd (w.alloc o) B A n xs := h.below ((Below.refl _ _).alloc hB _)

set_option maxHeartbeats 1000000 in
set_option maxRecDepth 100000 in
theorem dist_bad (w : World) (B : Nat) (A : Option Addr) (nt ct : Nat) (tape : List Int) (n : Int) (h : RdI w B A nt tape) (hB : B ≤ w.heap.size) (hn : nt ≤ 4611686018427387904) (hbad : ¬ (VT tape ∧ 0 ≤ n ∧ n ≤ 40)) :
    Calls Tryz.prog 11 #[.slice A nt ct, .int .i64 n] w fun e w' => e = .returned (.tuple #[.slice none 0 0, .int .i64 1]) ∧ Below w.heap.size w w' := by
  have hv := validT (w.alloc (.cells #[.slice A nt ct] 22)) B A nt ct tape (Rd.alloc h hB _) hn
  by_cases hV : VT tape
  · rw [decide_eq_true hV] at hv
    have hn' : n < 0 ∨ 40 < n := by
      by_cases h0 : n < 0
      · exact .inl h0
      · by_cases h1 : 40 < n
        · exact .inr h1
        · exact absurd ⟨hV, by omega, by omega⟩ hbad
    have HV := Lib.hid hv
    clear hv hV hbad h
    rcases hn' with h0 | h0
    · go_enter Tryz.func11, Tryz.ntmps11
      go_wp2_with (go_at_call 15; refine HV.out.mono ?_; rintro e w' ⟨rfl, rfl⟩)
      go_ret2
      exact ⟨rfl, (Below.refl _ _).alloc (Nat.le_refl _) _⟩
    · have h1 : ¬ n < 0 := by omega
      go_enter Tryz.func11, Tryz.ntmps11
      go_wp2_with (go_at_call 15; refine HV.out.mono ?_; rintro e w' ⟨rfl, rfl⟩)
      go_ret2
      exact ⟨rfl, (Below.refl _ _).alloc (Nat.le_refl _) _⟩
  · rw [decide_eq_false hV] at hv
    have HV := Lib.hid hv
    clear hv hV hbad h
    go_enter Tryz.func11, Tryz.ntmps11
    go_wp2_with (go_at_call 15; refine HV.out.mono ?_; rintro e w' ⟨rfl, rfl⟩)
    go_ret2
    exact ⟨rfl, (Below.refl _ _).alloc (Nat.le_refl _) _⟩

theorem cnt_bd (t : List Int) (ht : t.length ≤ 9) (k : Nat) : ∀ v, cnt t k v ≤ 9 ^ k := by
  induction k with
  | zero => intro v; simp only [cnt]; split <;> simp
  | succ k ih =>
    intro v
    have gen : ∀ s : List Int, conv s (cnt t k) v ≤ s.length * 9 ^ k := by
      intro s
      unfold conv
      induction s with
      | nil => simp
      | cons o s ihs =>
        simp only [List.map_cons, List.sum_cons, List.length_cons]
        have := ih (v - o)
        rw [Nat.add_mul, Nat.one_mul]
        omega
    show conv t (cnt t k) v ≤ _
    refine Nat.le_trans (gen t) ?_
    rw [Nat.pow_succ, Nat.mul_comm (9 ^ k)]
    exact Nat.mul_le_mul_right _ ht
theorem cnt_sup (t : List Int) (ht : ∀ o ∈ t, -50 ≤ o ∧ o ≤ 50) (k : Nat) : ∀ v, cnt t k v ≠ 0 → -50 * (k : Int) ≤ v ∧ v ≤ 50 * k := by
  induction k with
  | zero => intro v h; simp only [cnt] at h; split at h; omega; exact absurd rfl h
  | succ k ih =>
    intro v h
    have gen : ∀ s : List Int, (∀ o ∈ s, -50 ≤ o ∧ o ≤ 50) → conv s (cnt t k) v ≠ 0 → -50 * ((k + 1 : Nat) : Int) ≤ v ∧ v ≤ 50 * ((k + 1 : Nat) : Int) := by
      intro s
      unfold conv
      induction s with
      | nil => intro _ h; exact absurd rfl h
      | cons o s ihs =>
        intro hs h
        simp only [List.map_cons, List.sum_cons] at h
        by_cases h0 : cnt t k (v - o) = 0
        · rw [h0, Nat.zero_add] at h
          exact ihs (fun o ho => hs o (by simp [ho])) h
        · have h1 := ih _ h0
          have h2 := hs o (by simp)
          omega
    exact gen t ht h
theorem pow9_le {k : Nat} (h : k ≤ 6) : 9 ^ k ≤ 531441 := by
  have := Nat.pow_le_pow_right (show 0 < 9 by omega) h
  omega

/-- L lists the values that have a count, in rising order, with their counts. -/
def IsTbl (L : List (Int × Nat)) (f : Int → Nat) : Prop := L.Pairwise (fun p q => p.1 < q.1) ∧ ∀ x c, (x, c) ∈ L ↔ f x = c ∧ c ≠ 0
def tblOf (ks : List Int) (f : Int → Nat) : List (Int × Nat) := ks.map fun x => (x, f x)
theorem isTbl_of {ks : List Int} {f : Int → Nat} (h : KeysOf ks f) : IsTbl (tblOf ks f) f := by
  refine ⟨List.pairwise_map.2 h.1, fun x c => ?_⟩
  unfold tblOf
  rw [List.mem_map]
  constructor
  · rintro ⟨y, hy, e⟩
    simp only [Prod.mk.injEq] at e
    obtain ⟨rfl, rfl⟩ := e
    exact ⟨rfl, (h.2 y).1 hy⟩
  · rintro ⟨rfl, h0⟩
    exact ⟨x, (h.2 x).2 h0, rfl⟩
/-- What Distribution returns. -/
def RetD (w : World) (L : List (Int × Nat)) (e : Ending) (w' : World) : Prop := ∃ A c, e = .returned (.tuple #[.slice A L.length c, .int .i64 0]) ∧ L.length ≤ c ∧ RdO w' w'.heap.size A L.length L ∧ (∀ p, A = some p → w.heap.size ≤ p.block) ∧ Below w.heap.size w w'
theorem info38 : (Tryz.prog.info? 38).map (fun i => (i.zero, i.size, i.bytes)) = some (some (.agg #[.int .i64 0, .string ⟨#[]⟩]), 2, 24) := by kernel_rfl
theorem take_snocT (ks : List Int) (f : Int → Nat) (j : Nat) (x : Int) (h : j < ks.length) (hx : ks.getD j 0 = x) : ocells (tblOf (ks.take (j + 1)) f) = ocells (tblOf (ks.take j) f) ++ [.int .i64 x, .string (ds (f x))] := by
  rw [take_snoc' ks j h, hx]
  unfold tblOf
  rw [List.map_append, ocells_append]
  rfl

set_option maxHeartbeats 1000000 in
set_option maxRecDepth 100000 in
theorem dist_good (B : Nat) (w : World) (A : Option Addr) (nt ct : Nat) (tape : List Int) (n : Nat) (h : RdI w w.heap.size A nt tape) (hV : VT tape) (hn : n ≤ 6) (hE : Env B w) :
    Calls Tryz.prog 11 #[.slice A nt ct, .int .i64 n] w fun e w' => ∃ L, IsTbl L (cnt tape n) ∧ RetD w L e w' := by
  have hnt : nt ≤ 9 := by rw [← h.length]; exact hV.2.1
  have hv := validT (w.alloc (.cells #[.slice A nt ct] 22)) _ A nt ct tape (Rd.alloc h (Nat.le_refl _) _) (by omega)
  rw [decide_eq_true hV] at hv
  have HV := Lib.hid hv
  have hmm := @run_makeMap Tryz.prog
  have hm0 := World.ownsMap_made (H := Unit) (w.alloc (.cells #[.slice A nt ct] 22)) Tryz.prog 3 (plainElem Tryz.prog 29)
  obtain ⟨w1, hrun, hm1, hg1⟩ := hm0.update keyed3 Tryz.underlying46 (by unfold maxLen; omega) (Maps.keyOf_int_mk Tryz.underlying3 (wf_i64' 0 (by omega))) (plainElem_string und29 (s := ds (0 + 1)) (by rw [ds_size]; have := dec_len9 (0 + 1) (by omega); unfold maxLen; omega))
  have e1 : (w.alloc (.cells #[.slice A nt ct] 22)).heap.size = w.heap.size + 1 := by simp
  have e2 : ds (0 + 1) = ⟨#[49]⟩ := ds1
  rw [e1, e2] at hrun
  rw [e1] at hm1 hg1
  have hst : ∃ D1 : DU, w1.ownsMap Tryz.prog 3 (plainElem Tryz.prog 29) (w.heap.size + 1) (9 ^ 0) D1 ∧ Rep D1 (cnt tape 0) := by
    refine ⟨_, hm1, ?_⟩
    have h1 := Rep.nil.put 0 (wf_i64' 0 (by omega)) 1 (by omega)
    rw [ds_list]
    have e : upd (fun _ => 0) 0 1 = cnt tape 0 := by funext x; simp [upd, cnt]
    rw [e] at h1
    exact h1
  clear hm0 hm1 e1 e2 hv
  have hb1 : Below w.heap.size w w1 := (((Below.refl _ _).alloc (Nat.le_refl _) _).alloc (by simp) _).grown hg1 (by simp; omega) (fun k e => by cases e; omega)
  have kt1 : Blk w1 w.heap.size 22 #[.slice A nt ct] := ((Blk.new w 22 #[.slice A nt ct]).alloc _).grown hg1 (by simp)
  have hw1 : w.heap.size + 1 < w1.heap.size := by have := hg1.size; simp at this; omega
  have HS := Lib.hid (And.intro hst (And.intro hb1 kt1))
  have HF := Lib.hid (And.intro h (And.intro hV hE))
  clear hst hb1 kt1 hg1 h hV hE
  go_enter Tryz.func11, Tryz.ntmps11
  go_wp2_with (go_at_call 15; refine HV.out.mono ?_; rintro e w' ⟨rfl, rfl⟩)
  go_loopg [26] n (fun gk s26 wr => ∃ (k bm : Nat) (D : DU), s26 = .int .i64 k ∧ k ≤ n ∧ gk = n - k ∧ Blk wr w1.heap.size 46 #[.map (some bm)] ∧ Blk wr w.heap.size 22 #[.slice A nt ct] ∧ Hid (wr.ownsMap Tryz.prog 3 (plainElem Tryz.prog 29) bm (9 ^ k) D ∧ Rep D (cnt tape k)) ∧ Below w.heap.size w wr)
  case atStart =>
    obtain ⟨D1, hm1, hR1⟩ := HS.out.1
    exact ⟨0, _, D1, rfl, Nat.zero_le _, rfl, Blk.new _ _ _, HS.out.2.2.alloc _, Lib.hid ⟨hm1.alloc _, hR1⟩, HS.out.2.1.alloc (by omega) _⟩
  case round =>
    obtain ⟨k, bm, D, rfl, hk, rfl, kc, kt, hst, hb⟩ := hrel
    by_cases hkn : k < n
    · go_wp2_with fail
      have hVT := HF.out.2.1
      refine (step_any B w.heap.size wr w1.heap.size w.heap.size bm (9 ^ k) A nt ct tape D (cnt tape k) kc kt (HF.out.1.below hb) hb.size hst.out.1 hst.out.2 (fun x hx => ?_) hVT.2.2 hnt (by have := pow9_le (k := k) (by omega); omega) (fun v => ?_) (HF.out.2.2.up hb)).mono ?_
      · have := cnt_sup tape hVT.2.2 k x hx; omega
      · have := cnt_bd tape hVT.2.1 (k + 1) v
        have h2 := pow9_le (k := k + 1) (by omega)
        have h3 : cnt tape (k + 1) v = conv tape (cnt tape k) v := rfl
        omega
      · rintro e w' ⟨rfl, bm', D', kc', hm', hR', hg'⟩
        have kt' := kt.grown hg' (by simp; omega)
        have hb' : Below w.heap.size w w' := hb.grown hg' hb.size (fun j e => by cases e; omega)
        have HM : Hid (w'.ownsMap Tryz.prog 3 (plainElem Tryz.prog 29) bm' (9 ^ (k + 1)) D' ∧ Rep D' (cnt tape (k + 1))) := Lib.hid ⟨by rw [Nat.pow_succ, Nat.mul_comm]; exact hm', hR'⟩
        clear hm' hR' hg' hVT
        go_wp2_with fail
        go_roundg (n - (k + 1))
        case measure => omega
        case rel => exact ⟨k + 1, bm', D', by go_num, by omega, rfl, kc', kt', HM, hb'⟩
    · obtain rfl : k = n := by omega
      have c0 := kc.one
      go_wp2_with fail
      refine (keys_call (some bm) wr).mono ?_
      rintro e w2 ⟨rfl, rfl⟩
      have k2 : Blk (wr.alloc (.cells #[.map (some bm)] 46)) wr.heap.size 46 #[.map (some bm)] := Blk.new _ _ _
      have hb2 : Below w.heap.size w (wr.alloc (.cells #[.map (some bm)] 46)) := hb.alloc hb.size _
      have kc2 := kc.alloc (.cells #[.map (some bm)] 46)
      have hst2 : Hid ((wr.alloc (.cells #[.map (some bm)] 46)).ownsMap Tryz.prog 3 (plainElem Tryz.prog 29) bm (9 ^ k) D ∧ Rep D (cnt tape k)) := Lib.hid ⟨hst.out.1.alloc _, hst.out.2⟩
      have hp9 := pow9_le (k := k) hn
      have hS := Lib.hid (sorted_call (wr.alloc (.cells #[.map (some bm)] 46)) wr.heap.size bm (9 ^ k) D k2.lt k2.one hst2.out.1 (by omega))
      obtain ⟨W, hW⟩ : ∃ W, W = wr.alloc (.cells #[.map (some bm)] 46) := ⟨_, rfl⟩
      rw [← hW] at k2 hb2 kc2 hst2 hS ⊢
      clear hW kc c0 kt hb hst k2
      go_wp2_with fail
      refine hS.out.mono ?_
      rintro e w3 ⟨v, ss, rfl, hperm, hrow, _, hb3⟩
      have hks := keys_sorted hst2.out.1 hst2.out.2 (fun x hx => by have := cnt_sup tape HF.out.2.1.2.2 k x hx; omega) hperm
      have hpl := (List.mergeSort_perm ss (fun x y => decide (x ≤ y))).length_eq
      obtain ⟨ks, hksd⟩ : ∃ ks, ks = ss.mergeSort (fun x y => decide (x ≤ y)) := ⟨_, rfl⟩
      rw [← hksd] at hks hpl hrow
      rw [← hpl] at hrow
      have hcard : ks.length ≤ 531441 := by
        have h1 := hperm.length_eq
        have h2 := hst2.out.1.size_le
        have h3 : (intKeys D).length = Maps.size D := by
          obtain ⟨es, hD, _⟩ := hst2.out.1.entries keyed3
          subst hD
          simp [intKeys, Maps.size]
        omega
      clear hksd hperm
      obtain ⟨A3, cap3, rfl, hcap3, hrd3, _⟩ := own_rd0 hrow
      have HR3 : Hid (RdI w3 w3.heap.size A3 ks.length ks) := Lib.hid hrd3
      have kc3 := kc2.below hb3 kc2.lt
      have hm3 := hst2.out.1.kept (grown_of_below hb3 none) (by simp)
      have HM3 := Lib.hid (And.intro hm3 (And.intro hst2.out.2 hks))
      have hb03 : Below w.heap.size w w3 := hb2.trans (hb3.mono hb2.size)
      have c3 := kc3.one
      obtain ⟨i0, hi, hz0, hz1, hz2⟩ := info_parts info38
      clear hrow hrd3 hst2 hm3 hks hb3 hb2 hS kc2 hpl
      go_wp2_with fail
      go_loopg [8, 35] ks.length (fun gk s8 s35 wr => ∃ (j : Nat), s35 = .int .i64 j ∧ j ≤ ks.length ∧ gk = ks.length - j ∧ Below w3.heap.size w3 wr ∧ Hid (wr.ownsRow w3.heap.size 38 2 s8 j (ocells (tblOf (ks.take j) (cnt tape k)))))
      case atStart => exact ⟨0, rfl, Nat.zero_le _, rfl, Below.refl _ _, Lib.hid (World.ownsRow_nil _ _ _ _)⟩
      case round =>
        obtain ⟨j, rfl, hj, rfl, hbr, hown⟩ := hrel
        by_cases hjk : j < ks.length
        · obtain ⟨g3, o3, x, rfl, _, ce, hx⟩ := (HR3.out.below hbr).at hjk
          have c4 := (kc3.below hbr kc3.lt).one
          have hmr := HM3.out.1.kept (grown_of_below hbr none) (by simp)
          have hxin : x ∈ ks := by rw [← hx.out, List.getD_eq_getElem?_getD, List.getElem?_eq_getElem hjk]; exact List.getElem_mem _
          have hx0 := (HM3.out.2.2.2 x).1 hxin
          have hxs := cnt_sup tape HF.out.2.1.2.2 k x hx0
          have hwx := wf_i64' x (by omega)
          have hlen : Hid ((ds (cnt tape k x)).size ≤ 9) := Lib.hid (by rw [ds_size]; exact dec_len9 _ (by have := cnt_bd tape HF.out.2.1.2.1 k x; omega))
          go_wp2_with (first
            | (at_lookup; refine wpList_look _ rfl _ _ rfl bm (9 ^ k) D (cnt tape k) rfl hmr HM3.out.2.1 x rfl hwx hx0 ?_)
            | (at_builtin; refine wpList_append_own _ rfl _ _ 25 rfl w3.heap.size 38 i0 (.agg #[.int .i64 0, .string ⟨#[]⟩]) 2 24 Tryz.underlying25 hi hz0 hz1 hz2 rfl (by decide) _ _ _ rfl (hown.out.alloc _) ⟨wr.heap.size, 0, none⟩ 1 1 [.int .i64 x, .string (ds (cnt tape k x))] rfl rfl (cell_two_new _ _ _ _) (by simp [Value.oneCell']) (by unfold maxLen; omega) (by omega) (by have := hbr.size; simp; omega) ?_))
          intro v' w4 hown' hgrow _
          have hb4 : Below w3.heap.size w3 w4 := (hbr.alloc hbr.size _).grown hgrow (by have := hbr.size; simp; omega) (fun q e => (hown.out.lt q e).1)
          have HN : Hid (w4.ownsRow w3.heap.size 38 2 v' (j + 1) (ocells (tblOf (ks.take (j + 1)) (cnt tape k)))) := Lib.hid (by rw [take_snocT ks _ j x hjk hx.out]; exact hown')
          clear hown' hgrow hmr c4
          go_wp2_with fail
          go_roundg (ks.length - (j + 1))
          case measure => omega
          case rel => exact ⟨j + 1, by go_num, by omega, rfl, hb4, HN⟩
        · obtain rfl : j = ks.length := by omega
          have hown1 := hown.out
          rw [List.take_of_length_le (Nat.le_refl _)] at hown1
          obtain ⟨A5, cap5, rfl, hcap5, hrd5, hlow⟩ := own_rdO hown1
          have HR5 := Lib.hid (And.intro hrd5 hlow)
          clear hown1 hrd5 hlow hown
          go_wp2_with fail
          go_ret2
          have hlen : (tblOf ks (cnt tape k)).length = ks.length := by simp [tblOf]
          refine ⟨tblOf ks (cnt tape k), isTbl_of HM3.out.2.2, A5, cap5, by rw [hlen]; rfl, by rw [hlen]; exact hcap5, by rw [hlen]; exact HR5.out.1, fun p e => Nat.le_trans hb03.size (HR5.out.2 p e), hb03.trans (hbr.mono hb03.size)⟩
end Go.Proofs.YtdapflgfocideaaGreatDoor
