/- Contract of the closure that adds one offset to a distribution. -/
import Derived.Test.YtdapflgfocideaaGreatDoorMapNat
namespace Go.Proofs.YtdapflgfocideaaGreatDoor
open Go Go.RowKit Go.Deep
open Go.Lib (decDigits)
open Go.Maps (Keyed)

/-- The part of f whose keys are no longer to come. -/
def part (left : Lit → Bool) (f : Int → Nat) : Int → Nat := fun x => if left (.int .i64 x) = true then 0 else f x
theorem part_le (left : Lit → Bool) (f : Int → Nat) (x : Int) : part left f x ≤ f x := by unfold part; split <;> omega
theorem part_step (left : Lit → Bool) (f : Int → Nat) (x0 : Int) (hl : left (.int .i64 x0) = true) (x : Int) :
    part (fun z => left z && !z.sameKey (.int .i64 x0)) f x = if x = x0 then f x0 else part left f x := by
  unfold part
  by_cases e : x = x0
  · subst e
    have : (Lit.int .i64 x).sameKey (.int .i64 x) = true := WideAt.sameKey_self (by simp [WideAt.IsKeyLit])
    simp [this]
  · have : (Lit.int .i64 x).sameKey (.int .i64 x0) = false := Maps.sameKey_ne (by simpa using e)
    simp [this, e]
theorem wf_i64' (x : Int) (h : -1000000 ≤ x ∧ x ≤ 1000000) : (Lit.int .i64 x).wf = true := WalkArith.wf_i64 (by omega)

set_option maxHeartbeats 1000000 in
set_option maxRecDepth 100000 in
theorem step_any (B Bt : Nat) (w : World) (bc bt bm nm : Nat) (A : Option Addr) (nt ct : Nat) (tape : List Int) (D : DU) (f : Int → Nat)
    (kc : Blk w bc 46 #[.map (some bm)]) (kt : Blk w bt 22 #[.slice A nt ct]) (ht : RdI w Bt A nt tape) (hBt : Bt ≤ w.heap.size)
    (hown : w.ownsMap Tryz.prog 3 (plainElem Tryz.prog 29) bm nm D) (hR : Rep D f) (hsup : ∀ x, f x ≠ 0 → -10000 ≤ x ∧ x ≤ 10000)
    (htape : ∀ o ∈ tape, -50 ≤ o ∧ o ≤ 50) (hnt : nt ≤ 9) (hnm : nm ≤ 1000000) (hbd : ∀ v, conv tape f v < 1000000000) (hE : Env B w) :
    Calls Tryz.prog 22 #[.pointer (some ⟨bc, 0, none⟩), .pointer (some ⟨bt, 0, none⟩)] w fun e w' => e = .returned (.tuple #[]) ∧
      ∃ bm' D', Blk w' bc 46 #[.map (some bm')] ∧ w'.ownsMap Tryz.prog 3 (plainElem Tryz.prog 29) bm' (9 * nm) D' ∧ Rep D' (conv tape f) ∧ w.grownBy w' (some bc) := by
  have hmm := @run_makeMap Tryz.prog
  have HF := Lib.hid (And.intro hsup (And.intro htape (And.intro hbd (And.intro hR hE))))
  have HT := Lib.hid ht
  have c0 := kc.one
  have f0 := kc.free 0
  have KC := Lib.hid kc
  have KT := Lib.hid kt
  have hbm := hown.lt
  have c0' : (w.alloc (.map #[] 0)).cell? ⟨bc, 0, none⟩ = some (.map (some bm)) := (kc.alloc _).one
  clear hsup htape hbd hR hE ht kc kt
  go_enter Tryz.func22, Tryz.ntmps22
  go_wp2_with (at_range; go_loud (refine wpList_range_own _ rfl _ 46 rfl 3 29 keyed3 Tryz.underlying46 (plainElem Tryz.prog 29) bm nm D rfl (hown.alloc _) ?_); intro w0 hrg0 hg0 hs0)
  try go_frame
  have e1 : (w.alloc (.map #[] 0)).heap.size = w.heap.size + 1 := by simp
  rw [e1] at hrg0 hs0 ⊢
  clear e1
  have hb0 : Below w.heap.size w w0 := ((Below.refl _ _).alloc (Nat.le_refl _) _).grown hg0 (by simp) (by simp)
  have hn0 : w0.ownsMap Tryz.prog 3 (plainElem Tryz.prog 29) w.heap.size 0 (.map [] : DU) := (World.ownsMap_made w Tryz.prog 3 (plainElem Tryz.prog 29)).kept hg0 (by simp)
  have hS : Maps.size D ≤ nm := hown.size_le
  go_loopg [12] (Maps.size D) (fun gk s12 wr => ∃ (left : Lit → Bool) (g : Int → Nat) (Dn : DU) (n' : Nat), wr.ranges Tryz.prog 3 (plainElem Tryz.prog 29) bm (w.heap.size + 1) nm D left gk ∧ Hid (wr.ownsMap Tryz.prog 3 (plainElem Tryz.prog 29) w.heap.size n' Dn ∧ Rep Dn g ∧ g = conv tape (part left f) ∧ n' + 9 * gk ≤ 9 * nm) ∧ Below w.heap.size w wr)
  case atStart =>
    refine ⟨_, _, _, 0, hrg0, Lib.hid ⟨hn0, Rep.nil, ?_, by omega⟩, hb0⟩
    rw [← conv_zero tape]
    congr 1
    funext x
    unfold part
    by_cases h0 : f x = 0
    · rw [h0]; simp
    · rw [HF.out.2.2.2.1.has x (wf_i64' x (by have := HF.out.1 x h0; omega))]; simp [h0]
  case round =>
    obtain ⟨left, g, Dn, n', hrg, hst, hb⟩ := hrel
    clear hrg0 hg0 hs0 hn0 hb0
    go_wp2_with (at_next; refine wpList_next_ranges_is _ rfl _ rfl 3 29 .i64 keyed3 Tryz.underlying3 und29 bm (w.heap.size + 1) nm D left gk rfl hrg ?_ ?_)
    · intro hc0 hl0
      have kw := KC.out.below hb KC.out.lt
      have cw := kw.one
      have fw := kw.free 0
      have hbc := KC.out.lt
      have HKW := Lib.hid kw
      have hfin : conv tape (part left f) = conv tape f := by
        congr 1
        funext x
        simp [part, hl0]
      have HH := Lib.hid hfin
      clear kw hl0 hfin
      go_wp2_with fail
      go_end0
      refine ⟨rfl, w.heap.size, Dn, HKW.out.set 0 _, ?_, ?_, ?_⟩
      · exact ((hst.out.1.setCell (a := ⟨bc, 0, none⟩) (by simp; omega) _).mono (by have := hst.out.2.2.2; omega))
      · rw [← HH.out, ← hst.out.2.2.1]; exact hst.out.2.1
      · exact (grown_of_below hb (some bc)).andThen (row' := some bc) ⟨rfl, rfl, rfl, by simp [World.setCell], fun i _ hi => Below.heap_setCell _ _ _ _ (fun e => hi (by rw [e]))⟩ (fun j e => .inr e)
    · intro x c w1 cnt1 hwx hwc hlx hat hrg1 hlt hg1 hs1 hen
      have hfx : f x ≠ 0 ∧ c = ds (f x) := by
        have h := hat .nil
        rw [HF.out.2.2.2.1.at_ x hwx] at h
        by_cases h0 : f x = 0
        · rw [if_pos h0] at h; cases h
        · rw [if_neg h0] at h
          simp only [DataW.lit.injEq, Lit.string.injEq] at h
          exact ⟨h0, bytes_eq h.symm⟩
      obtain ⟨hfx, rfl⟩ := hfx
      have hxs := HF.out.1 x hfx
      have hb1 : Below w.heap.size w w1 := hb.grown hg1 hb.size (fun k e => by cases e; omega)
      have hm1 := hst.out.1.kept hg1 (by simp)
      have k1 := KT.out.below hb1 KT.out.lt
      have c1 := k1.one
      have HM1 : Hid (w1.ownsMap Tryz.prog 3 (plainElem Tryz.prog 29) w.heap.size n' Dn ∧ Rep Dn g) := Lib.hid ⟨hm1, hst.out.2.1⟩
      -- the bound on every partial sum
      have hconv : acc g x (f x) tape = conv tape (part (fun z => left z && !z.sameKey (.int .i64 x)) f) := by
        rw [hst.out.2.2.1]
        exact acc_conv tape _ _ x (f x) (by simp [part, hlx]) (fun y => by rw [part_step left f x hlx y])
      have hall : ∀ j v, acc g x (f x) (tape.take j) v < 1000000000 := by
        intro j v
        have h1 := acc_mono g x (f x) (tape.take j) (tape.drop j) v
        rw [List.take_append_drop, hconv] at h1
        have h2 := conv_mono tape _ f (part_le (fun z => left z && !z.sameKey (.int .i64 x)) f) v
        have h3 := HF.out.2.2.1 v
        omega
      have HA := Lib.hid hall
      have HC := Lib.hid hconv
      have HP := Lib.hid hlx
      have htl := HT.out.length
      have HTL := Lib.hid htl
      clear hat hwc hm1 k1 hall hconv hlx htl hs1 hg1
      go_wp2_with fail
      go_loopg [19] nt (fun gi s19 wi => ∃ (j : Nat) (Di : DU) (ni : Nat), s19 = .int .i64 j ∧ j ≤ nt ∧ gi = nt - j ∧ wi.ranges Tryz.prog 3 (plainElem Tryz.prog 29) bm (w.heap.size + 1) nm D (fun z => left z && !z.sameKey (.int .i64 x)) cnt1 ∧ Hid (wi.ownsMap Tryz.prog 3 (plainElem Tryz.prog 29) w.heap.size ni Di ∧ Rep Di (acc g x (f x) (tape.take j)) ∧ ni ≤ n' + j) ∧ Below w.heap.size w wi)
      case atStart => exact ⟨0, Dn, n', rfl, Nat.zero_le _, rfl, hrg1, Lib.hid ⟨HM1.out.1, by simpa [acc] using HM1.out.2, Nat.le_refl _⟩, hb1⟩
      case round =>
        obtain ⟨j, Di, ni, rfl, hj, rfl, hrgi, hsi, hbi⟩ := hrel
        clear hrg1 hen c1
        by_cases hjn : j < nt
        · obtain ⟨tb, tf, ov, hA, _, ce, ho⟩ := (HT.out.below (hbi.mono hBt)).at hjn
          have hov : -50 ≤ ov ∧ ov ≤ 50 := HF.out.2.1 ov (by rw [← ho.out, List.getD_eq_getElem?_getD, List.getElem?_eq_getElem (by have := HTL.out; omega)]; exact List.getElem_mem _)
          subst hA
          have hk : (Lit.int .i64 (x + ov)).wf = true := wf_i64' _ (by omega)
          obtain ⟨m, hm⟩ : ∃ m, acc g x (f x) (tape.take j) (x + ov) = m := ⟨_, rfl⟩
          have hmb : m + f x < 1000000000 := by
            have h := HA.out (j + 1) (x + ov)
            rw [take_snoc' tape j (by have := HTL.out; omega), acc_snoc, ho.out] at h
            simp only [upd, if_true, hm] at h
            exact h
          have HMB := Lib.hid hmb
          have HM := Lib.hid hm
          have hmi := hsi.out.1
          have hRi := hsi.out.2.1
          have hnib : ni ≤ 10000000 := by have := hsi.out.2.2; have := hst.out.2.2.2; omega
          have hsz : (ds (m + f x)).size ≤ maxLen := by rw [ds_size]; have := dec_len9 _ hmb; unfold maxLen; omega
          clear hmb hm
          have HRi := Lib.hid hRi
          clear hRi
          by_cases hz : m = 0
          · subst hz
            go_wp2_with (at_lookup; refine wpList_look_miss _ rfl _ _ rfl w.heap.size ni Di _ rfl hmi HRi.out (x + ov) rfl hk HM.out ?_)
            have h48 : (⟨#[48]⟩ : ByteArray) = ds 0 := ds0.symm
            rw [h48]
            clear h48
            refine (add_call B _ 0 (f x) HMB.out (HF.out.2.2.2.2.up hbi)).mono ?_
            rintro e w2 ⟨rfl, hb2⟩
            have hm2 := hmi.kept (grown_of_below hb2 none) (by simp)
            have hrg2 := hrgi.kept (grown_of_below hb2 none) (by simp) (by simp)
            have hw2 : Below w.heap.size w w2 := hbi.trans (hb2.mono hbi.size)
            go_wp2_with (at_mapUpdate; refine wpList_store _ rfl _ _ _ rfl w.heap.size ni Di _ rfl hm2 HRi.out (x + ov) (f x) rfl (by rw [HM.out]; first | rfl | (rw [Nat.zero_add]; rfl)) hk (by omega) (by unfold maxLen; omega) (by rw [HM.out]; exact hsz) ?_)
            intro D2 w3 hm3 hR3 hg3
            have hb13 : Below w.heap.size w w3 := hw2.grown hg3 hw2.size (fun k e => by cases e; exact Nat.le_refl _)
            have hr3 := hrg2.kept hg3 (by simp; omega) (by simp)
            have HN : Hid (w3.ownsMap Tryz.prog 3 (plainElem Tryz.prog 29) w.heap.size (ni + 1) D2 ∧ Rep D2 (acc g x (f x) (tape.take (j + 1))) ∧ ni + 1 ≤ n' + (j + 1)) := Lib.hid ⟨hm3, by rw [take_snoc' tape j (by have := HTL.out; omega), acc_snoc, ho.out]; exact hR3, by have := hsi.out.2.2; omega⟩
            clear hm3 hR3 hg3 hm2 hrg2 hw2
            go_wp2_with fail
            go_roundg (nt - (j + 1))
            case measure => omega
            case rel => exact ⟨j + 1, D2, ni + 1, by go_num, by omega, rfl, hr3, HN, hb13⟩
          · go_wp2_with (at_lookup; refine wpList_look_hit _ rfl _ _ rfl w.heap.size ni Di _ rfl hmi HRi.out (x + ov) m rfl hk HM.out hz ?_)
            refine (add_call B _ m (f x) HMB.out (HF.out.2.2.2.2.up hbi)).mono ?_
            rintro e w2 ⟨rfl, hb2⟩
            have hm2 := hmi.kept (grown_of_below hb2 none) (by simp)
            have hrg2 := hrgi.kept (grown_of_below hb2 none) (by simp) (by simp)
            have hw2 : Below w.heap.size w w2 := hbi.trans (hb2.mono hbi.size)
            go_wp2_with (at_mapUpdate; refine wpList_store _ rfl _ _ _ rfl w.heap.size ni Di _ rfl hm2 HRi.out (x + ov) (f x) rfl (by rw [HM.out]; rfl) hk (by omega) (by unfold maxLen; omega) (by rw [HM.out]; exact hsz) ?_)
            intro D2 w3 hm3 hR3 hg3
            have hb13 : Below w.heap.size w w3 := hw2.grown hg3 hw2.size (fun k e => by cases e; exact Nat.le_refl _)
            have hr3 := hrg2.kept hg3 (by simp; omega) (by simp)
            have HN : Hid (w3.ownsMap Tryz.prog 3 (plainElem Tryz.prog 29) w.heap.size (ni + 1) D2 ∧ Rep D2 (acc g x (f x) (tape.take (j + 1))) ∧ ni + 1 ≤ n' + (j + 1)) := Lib.hid ⟨hm3, by rw [take_snoc' tape j (by have := HTL.out; omega), acc_snoc, ho.out]; exact hR3, by have := hsi.out.2.2; omega⟩
            clear hm3 hR3 hg3 hm2 hrg2 hw2
            go_wp2_with fail
            go_roundg (nt - (j + 1))
            case measure => omega
            case rel => exact ⟨j + 1, D2, ni + 1, by go_num, by omega, rfl, hr3, HN, hb13⟩
        · obtain rfl : j = nt := by omega
          have hsi' := hsi.out
          rw [List.take_of_length_le (by have := HTL.out; omega), HC.out] at hsi'
          have HSI := Lib.hid hsi'
          clear hsi'
          go_wp2_with fail
          go_roundg cnt1
          case measure => exact hlt
          case rel => exact ⟨_, _, Di, ni, hrgi, Lib.hid ⟨HSI.out.1, HSI.out.2.1, rfl, by have := HSI.out.2.2; have := hst.out.2.2.2; omega⟩, hbi⟩
end Go.Proofs.YtdapflgfocideaaGreatDoor
