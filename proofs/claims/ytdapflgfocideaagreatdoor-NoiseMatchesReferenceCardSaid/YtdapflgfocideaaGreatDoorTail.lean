/- Contract of noise.Tail. -/
import Derived.Test.YtdapflgfocideaaGreatDoorSame
namespace Go.Proofs.YtdapflgfocideaaGreatDoor
open Go Go.RowKit Go.Deep
open Go.Lib (decDigits)

def sumAll (L : List (Int × Nat)) : Nat := (L.map (·.2)).sum
def sumGe (least : Int) (L : List (Int × Nat)) : Nat := ((L.filter fun p => decide (least ≤ p.1)).map (·.2)).sum
theorem sumGe_le (least : Int) (L : List (Int × Nat)) : sumGe least L ≤ sumAll L := by
  unfold sumGe sumAll
  induction L with
  | nil => exact Nat.le_refl _
  | cons p r ih =>
    simp only [List.filter_cons]
    split
    · simp only [List.map_cons, List.sum_cons]; omega
    · simp only [List.map_cons, List.sum_cons]; omega
theorem take_snocP (L : List (Int × Nat)) (j : Nat) (h : j < L.length) : L.take (j + 1) = L.take j ++ [L.getD j (0, 0)] := by
  rw [List.take_succ_eq_append_getElem h, List.getD_eq_getElem?_getD, List.getElem?_eq_getElem h]; rfl
theorem sumAll_snoc (L : List (Int × Nat)) (j : Nat) (h : j < L.length) (x : Int) (c : Nat) (hx : L.getD j (0, 0) = (x, c)) : sumAll (L.take (j + 1)) = sumAll (L.take j) + c := by
  rw [take_snocP L j h, hx]; simp [sumAll, List.sum_append]
theorem sumGe_snoc (least : Int) (L : List (Int × Nat)) (j : Nat) (h : j < L.length) (x : Int) (c : Nat) (hx : L.getD j (0, 0) = (x, c)) : sumGe least (L.take (j + 1)) = sumGe least (L.take j) + if least ≤ x then c else 0 := by
  rw [take_snocP L j h, hx]
  unfold sumGe
  rw [List.filter_append, List.map_append, List.sum_append]
  by_cases hl : least ≤ x <;> simp [hl]
theorem sumAll_take (L : List (Int × Nat)) (j : Nat) : sumAll (L.take j) ≤ sumAll L := by
  have : sumAll L = sumAll (L.take j) + sumAll (L.drop j) := by
    unfold sumAll
    rw [← List.sum_append, ← List.map_append, List.take_append_drop]
  omega

theorem tbl_len {L : List (Int × Nat)} {f : Int → Nat} (h : IsTbl L f) : L.length ≤ sumAll L := by
  have hp : ∀ p ∈ L, p.2 ≠ 0 := fun p hp => ((h.2 p.1 p.2).1 hp).2
  clear h
  unfold sumAll
  induction L with
  | nil => exact Nat.le_refl _
  | cons p r ih =>
    have := hp p (by simp)
    have := ih fun q hq => hp q (by simp [hq])
    simp only [List.length_cons, List.map_cons, List.sum_cons]; omega

set_option maxHeartbeats 1000000 in
set_option maxRecDepth 100000 in
theorem tail_bad (w : World) (B : Nat) (A : Option Addr) (nt ct : Nat) (tape : List Int) (n least : Int) (h : RdI w B A nt tape) (hB : B ≤ w.heap.size) (hn : nt ≤ 4611686018427387904) (hbad : ¬ (VT tape ∧ 0 ≤ n ∧ n ≤ 40)) :
    Calls Tryz.prog 13 #[.slice A nt ct, .int .i64 n, .int .i64 least] w fun e w' => e = .returned (.tuple #[.agg #[.bool false, .string ⟨#[]⟩, .string ⟨#[]⟩], .int .i64 1]) ∧ Below w.heap.size w w' := by
  have HD := Lib.hid (fun W (hb : Below B w W) => dist_bad W B A nt ct tape n (h.below hb) (Nat.le_trans hB hb.size) hn hbad)
  have HB := Lib.hid hB
  clear h hbad hB hn
  go_enter Tryz.func13, Tryz.ntmps13
  go_wp2_with fail
  have k0 : Blk (w.alloc (.cells #[.bool false, .string ⟨#[]⟩, .string ⟨#[]⟩] 31)) w.heap.size 31 #[.bool false, .string ⟨#[]⟩, .string ⟨#[]⟩] := Blk.new _ _ _
  have b0 : Below w.heap.size w (w.alloc (.cells #[.bool false, .string ⟨#[]⟩, .string ⟨#[]⟩] 31)) := (Below.refl _ _).alloc (Nat.le_refl _) _
  refine (HD.out _ (b0.mono HB.out)).mono ?_
  rintro e w1 ⟨rfl, hb1⟩
  have k1 := k0.below hb1 k0.lt
  have b1 := b0.trans (hb1.mono b0.size)
  have c0 : w1.cell? ⟨w.heap.size, 0, none⟩ = some (.bool false) := by rw [k1.cell]; rfl
  have c1 : w1.cell? ⟨w.heap.size, 1, none⟩ = some (.string ⟨#[]⟩) := by rw [k1.cell]; rfl
  have c2 : w1.cell? ⟨w.heap.size, 2, none⟩ = some (.string ⟨#[]⟩) := by rw [k1.cell]; rfl
  have f0 := k1.free 0
  have f1 := k1.free 1
  have f2 := k1.free 2
  have HK := Lib.hid k1
  have HB1 := Lib.hid b1
  clear k0 b0 k1 b1 hb1
  go_wp2_with fail
  have hlt := HK.out.lt
  refine bodyPost_ret (v := .tuple #[.agg #[.bool false, .string ⟨#[]⟩, .string ⟨#[]⟩], .int .i64 1]) (by simp [results, Tryz.results13, go_sem, hlt, c0, c1, c2]) rfl ⟨rfl, ?_⟩
  exact ((HB1.out.setCell (p := ⟨w.heap.size, 0, none⟩) (Nat.le_refl _) _).setCell (p := ⟨w.heap.size, 1, none⟩) (Nat.le_refl _) _).setCell (p := ⟨w.heap.size, 2, none⟩) (Nat.le_refl _) _

set_option maxHeartbeats 1000000 in
set_option maxRecDepth 100000 in
theorem tail_good (B : Nat) (w : World) (A : Option Addr) (nt ct : Nat) (tape : List Int) (n : Nat) (least : Int) (h : RdI w w.heap.size A nt tape) (hV : VT tape) (hn : n ≤ 6) (hE : Env B w)
    (hpos : ∀ L, IsTbl L (cnt tape n) → 0 < sumAll L ∧ sumAll L < 1000000000) :
    Calls Tryz.prog 13 #[.slice A nt ct, .int .i64 n, .int .i64 least] w fun e w' => ∃ L, IsTbl L (cnt tape n) ∧
      e = .returned (.tuple #[.agg #[.bool (lowS false (sumGe least L)), .string (ds (lowN (sumGe least L) (sumAll L))), .string (ds (lowD (sumGe least L) (sumAll L)))], .int .i64 0]) ∧ Below w.heap.size w w' := by
  have HF := Lib.hid (And.intro h (And.intro hV (And.intro hE hpos)))
  clear h hV hE hpos
  go_enter Tryz.func13, Tryz.ntmps13
  go_wp2_with fail
  have k0 : Blk (w.alloc (.cells #[.bool false, .string ⟨#[]⟩, .string ⟨#[]⟩] 31)) w.heap.size 31 #[.bool false, .string ⟨#[]⟩, .string ⟨#[]⟩] := Blk.new _ _ _
  have b0 : Below w.heap.size w (w.alloc (.cells #[.bool false, .string ⟨#[]⟩, .string ⟨#[]⟩] 31)) := (Below.refl _ _).alloc (Nat.le_refl _) _
  refine (dist_good B _ A nt ct tape n (HF.out.1.up b0) HF.out.2.1 hn (HF.out.2.2.1.up b0)).mono ?_
  rintro e w1 ⟨L, hL, A1, cc1, rfl, hlc, hrd, _, hb1⟩
  have k1 := k0.below hb1 k0.lt
  have b1 := b0.trans (hb1.mono b0.size)
  have HL := Lib.hid (And.intro hL (And.intro hrd (HF.out.2.2.2 L hL)))
  have hll : L.length ≤ 1000000000 := by have := tbl_len hL; have := HF.out.2.2.2 L hL; omega
  have c0 : w1.cell? ⟨w.heap.size, 0, none⟩ = some (.bool false) := by rw [k1.cell]; rfl
  have c1 : w1.cell? ⟨w.heap.size, 1, none⟩ = some (.string ⟨#[]⟩) := by rw [k1.cell]; rfl
  have c2 : w1.cell? ⟨w.heap.size, 2, none⟩ = some (.string ⟨#[]⟩) := by rw [k1.cell]; rfl
  have f0 := k1.free 0
  have f1 := k1.free 1
  have f2 := k1.free 2
  have HK := Lib.hid k1
  have HB1 := Lib.hid b1
  clear k0 b0 k1 b1 hb1 hL hrd
  go_wp2_with fail
  go_loopg [10, 11, 26] L.length (fun gk s10 s11 s26 wr => ∃ j : Nat, s26 = .int .i64 j ∧ j ≤ L.length ∧ gk = L.length - j ∧ s10 = .string (ds (sumGe least (L.take j))) ∧ s11 = .string (ds (sumAll (L.take j))) ∧ Below w1.heap.size w1 wr)
  case atStart => exact ⟨0, rfl, Nat.zero_le _, rfl, by rw [← ds0]; rfl, by rw [← ds0]; rfl, Below.refl _ _⟩
  case round =>
    obtain ⟨j, rfl, hj, rfl, rfl, rfl, hbr⟩ := hrel
    have hsum := sumAll_take L j
    have hge := sumGe_le least (L.take j)
    by_cases hjl : j < L.length
    · obtain ⟨g1, o1, x, c, rfl, _, ce, ce', hx⟩ := (HL.out.2.1.below hbr).at hjl
      have hs1 := sumAll_snoc L j hjl x c hx.out
      have hs2 := sumGe_snoc least L j hjl x c hx.out
      have hs3 := sumAll_take L (j + 1)
      have HS := Lib.hid (And.intro hs1 (And.intro hs2 hs3))
      obtain ⟨sa, hsa⟩ : ∃ x, x = sumAll (L.take j) := ⟨_, rfl⟩
      obtain ⟨sg, hsg⟩ : ∃ x, x = sumGe least (L.take j) := ⟨_, rfl⟩
      rw [← hsa, ← hsg] at HS hge ⊢
      have hlt9 : sa + c < 1000000000 := by have := HS.out.1; have := HS.out.2.2; have := HL.out.2.2.2; omega
      clear hs1 hs2 hs3 hsum hsa hsg
      go_wp2_with fail
      refine (add_call B _ sa c hlt9 (HF.out.2.2.1.up ((HB1.out.trans (hbr.mono HB1.out.size)).alloc (Nat.le_trans HB1.out.size hbr.size) _))).mono ?_
      rintro e w2 ⟨rfl, hb2⟩
      have kb : Blk (wr.alloc (.cells #[.int .i64 x, .string (ds c)] 38)) wr.heap.size 38 #[.int .i64 x, .string (ds c)] := Blk.new _ _ _
      have kb2 := kb.below hb2 kb.lt
      have hb12 : Below w1.heap.size w1 w2 := (hbr.alloc hbr.size _).trans (hb2.mono (by have := hbr.size; simp; omega))
      have d0 : w2.cell? ⟨wr.heap.size, 0, none⟩ = some (.int .i64 x) := by rw [kb2.cell]; rfl
      have d1 : w2.cell? ⟨wr.heap.size, 1, none⟩ = some (.string (ds c)) := by rw [kb2.cell]; rfl
      clear kb kb2 hb2 ce ce'
      by_cases hl : least ≤ x
      · go_wp2_with fail
        refine (add_call B _ sg c (by omega) (HF.out.2.2.1.up (HB1.out.trans (hb12.mono HB1.out.size)))).mono ?_
        rintro e w3 ⟨rfl, hb3⟩
        go_wp2_with fail
        go_roundg (L.length - (j + 1))
        case measure => omega
        case rel => exact ⟨j + 1, by go_num, by omega, rfl, by rw [HS.out.2.1, if_pos hl], by rw [HS.out.1], hb12.trans (hb3.mono hb12.size)⟩
      · go_wp2_with fail
        go_roundg (L.length - (j + 1))
        case measure => omega
        case rel => exact ⟨j + 1, by go_num, by omega, rfl, by rw [HS.out.2.1, if_neg (by omega)]; rfl, by rw [HS.out.1], hb12⟩
    · obtain rfl : j = L.length := by omega
      rw [List.take_of_length_le (Nat.le_refl _)]
      have hge2 := sumGe_le least L
      obtain ⟨sa, hsa⟩ : ∃ x, x = sumAll L := ⟨_, rfl⟩
      obtain ⟨sg, hsg⟩ : ∃ x, x = sumGe least L := ⟨_, rfl⟩
      have HS := Lib.hid (And.intro hsa (And.intro hsg (And.intro hge2 HL.out.2.2)))
      have HSE := Lib.hid (And.intro hsa hsg)
      rw [← hsa, ← hsg]
      rw [← hsa, ← hsg] at HS
      clear hsum hge hge2 hsa hsg
      go_wp2_with fail
      refine (make_call B _ false sg sa (by have := HS.out; omega) HS.out.2.2.2.1 HS.out.2.2.2.2 (HF.out.2.2.1.up (HB1.out.trans (hbr.mono HB1.out.size)))).mono ?_
      rintro e w3 ⟨rfl, hb3⟩
      have hb13 : Below w1.heap.size w1 w3 := hbr.trans (hb3.mono hbr.size)
      have k3 := HK.out.below hb13 HK.out.lt
      have e0 : w3.cell? ⟨w.heap.size, 0, none⟩ = some (.bool false) := by rw [k3.cell]; rfl
      have e1 : w3.cell? ⟨w.heap.size, 1, none⟩ = some (.string ⟨#[]⟩) := by rw [k3.cell]; rfl
      have e2 : w3.cell? ⟨w.heap.size, 2, none⟩ = some (.string ⟨#[]⟩) := by rw [k3.cell]; rfl
      have g0 := k3.free 0
      have g1 := k3.free 1
      have g2 := k3.free 2
      have HK3 := Lib.hid k3
      have HB3 := Lib.hid (HB1.out.trans (hb13.mono HB1.out.size))
      obtain ⟨lx, hlx⟩ : ∃ x, x = lowS false sg := ⟨_, rfl⟩
      obtain ⟨nx, hnx⟩ : ∃ x, x = ds (lowN sg sa) := ⟨_, rfl⟩
      obtain ⟨dx, hdx⟩ : ∃ x, x = ds (lowD sg sa) := ⟨_, rfl⟩
      rw [← hlx, ← hnx, ← hdx]
      have HX := Lib.hid (And.intro hlx (And.intro hnx hdx))
      clear hlx hnx hdx k3 c0 c1 c2 f0 f1 f2
      go_wp2_with fail
      have hlt := HK3.out.lt
      refine bodyPost_ret (v := .tuple #[.agg #[.bool lx, .string nx, .string dx], .int .i64 0]) (by simp [results, Tryz.results13, go_sem, hlt, e0, e1, e2]) rfl ⟨L, HL.out.1, ?_, ?_⟩
      · rw [HX.out.1, HX.out.2.1, HX.out.2.2, ← HSE.out.1, ← HSE.out.2]
      · exact ((HB3.out.setCell (p := ⟨w.heap.size, 0, none⟩) (Nat.le_refl _) _).setCell (p := ⟨w.heap.size, 1, none⟩) (Nat.le_refl _) _).setCell (p := ⟨w.heap.size, 2, none⟩) (Nat.le_refl _) _
end Go.Proofs.YtdapflgfocideaaGreatDoor
