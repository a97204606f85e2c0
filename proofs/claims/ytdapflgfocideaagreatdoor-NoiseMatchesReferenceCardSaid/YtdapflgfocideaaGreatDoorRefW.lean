/- Contract of observatoryref17.Tail. -/
import Derived.Test.YtdapflgfocideaaGreatDoorRefV
namespace Go.Proofs.YtdapflgfocideaaGreatDoor
open Go Go.RowKit Go.Deep
open Go.Lib (decDigits)
attribute [local go_sem] guardO guardR

set_option maxHeartbeats 1000000 in
set_option maxRecDepth 100000 in
theorem rtail_bad (w : World) (B : Nat) (A : Option Addr) (nt ct : Nat) (tape : List Int) (n least : Int) (h : RdI w B A nt tape) (hB : B ≤ w.heap.size) (hn : nt ≤ 4611686018427387904) (hbad : ¬ (VT tape ∧ 0 ≤ n ∧ n ≤ 40)) :
    Calls Tryz.prog 14 #[.slice A nt ct, .int .i64 n, .int .i64 least] w fun e w' => e = .returned (.tuple #[.agg #[.bool false, .string ⟨#[]⟩, .string ⟨#[]⟩], .int .i64 1]) ∧ Below w.heap.size w w' := by
  have HD := Lib.hid (fun W (hb : Below B w W) => rdist_bad W B A nt ct tape n (h.below hb) hn hbad)
  have HB := Lib.hid hB
  clear h hbad hB hn
  have k0 : Blk (w.alloc (.cells #[.bool false, .string ⟨#[]⟩, .string ⟨#[]⟩] 31)) w.heap.size 31 #[.bool false, .string ⟨#[]⟩, .string ⟨#[]⟩] := Blk.new _ _ _
  have b0 : Below w.heap.size w (w.alloc (.cells #[.bool false, .string ⟨#[]⟩, .string ⟨#[]⟩] 31)) := (Below.refl _ _).alloc (Nat.le_refl _) _
  have H := Lib.hid (And.intro b0 k0)
  clear b0 k0
  go_enter Tryz.func14, Tryz.ntmps14
  go_wp2_with fail
  refine (HD.out _ (H.out.1.mono HB.out)).mono ?_
  rintro e w1 ⟨rfl, hw1⟩
  subst hw1
  go_wp2_with fail
  refine bodyPost_ret (v := .tuple #[.agg #[.bool false, .string ⟨#[]⟩, .string ⟨#[]⟩], .int .i64 1]) (by simp [results, Tryz.results14, go_sem]) rfl ⟨rfl, ?_⟩
  exact H.out.1

set_option maxHeartbeats 1000000 in
set_option maxRecDepth 100000 in
theorem rtail_good (w : World) (A : Option Addr) (nt ct : Nat) (tape : List Int) (n : Nat) (least : Int) (h : RdI w w.heap.size A nt tape) (hV : VT tape) (hn : n ≤ 6) :
    Calls Tryz.prog 14 #[.slice A nt ct, .int .i64 n, .int .i64 least] w fun e w' => ∃ L, IsTbl L (cnt tape n) ∧
      e = .returned (.tuple #[.agg #[.bool false, .string (ds (lowN (sumGe least L) (sumAll L))), .string (ds (lowD (sumGe least L) (sumAll L)))], .int .i64 0]) ∧ Below w.heap.size w w' := by
  have k0 : Blk (w.alloc (.cells #[.bool false, .string ⟨#[]⟩, .string ⟨#[]⟩] 31)) w.heap.size 31 #[.bool false, .string ⟨#[]⟩, .string ⟨#[]⟩] := Blk.new _ _ _
  have b0 : Below w.heap.size w (w.alloc (.cells #[.bool false, .string ⟨#[]⟩, .string ⟨#[]⟩] 31)) := (Below.refl _ _).alloc (Nat.le_refl _) _
  have HD := Lib.hid (rdist_good _ A nt ct tape n (h.up b0) hV hn)
  have HV := Lib.hid hV
  have H := Lib.hid (And.intro b0 k0)
  clear b0 k0 h hV
  go_enter Tryz.func14, Tryz.ntmps14
  go_wp2_with fail
  refine HD.out.mono ?_
  rintro e w1 ⟨L, hL, A1, cc1, rfl, hlc, hrd, _, hb1⟩
  have HK := Lib.hid (H.out.2.below hb1 H.out.2.lt)
  have HB1 := Lib.hid (H.out.1.trans (hb1.mono H.out.1.size))
  have HL := Lib.hid (And.intro hL hrd)
  have HP := Lib.hid (cnt_pos HV.out hn L hL)
  have hll : L.length ≤ 1000000000 := by have := tbl_len hL; have := HP.out; omega
  clear hb1 hL hrd
  go_wp2_with fail
  go_loopg [10, 11, 12] L.length (fun gk s10 s11 s12 wr => ∃ j sa sg : Nat, s12 = .int .i64 j ∧ j ≤ L.length ∧ gk = L.length - j ∧ s10 = .string (ds sa) ∧ s11 = .string (ds sg) ∧ Hid (sg = sumGe least (L.take j) ∧ sa = sumAll (L.take j)) ∧ Hid (Below w1.heap.size w1 wr))
  case atStart => exact ⟨0, 0, 0, rfl, Nat.zero_le _, rfl, by rw [ds0], by rw [ds0], Lib.hid ⟨rfl, rfl⟩, Lib.hid (Below.refl _ _)⟩
  case round =>
    obtain ⟨j, sa, sg, rfl, hj, rfl, rfl, rfl, hq, hbx⟩ := hrel
    by_cases hjl : j < L.length
    · obtain ⟨gA, oA, x, c, hA, _, cx, cx', hx⟩ := (HL.out.2.below hbx.out).at hjl
      subst hA
      have hjz : (j : Int) < L.length := by omega
      have hs1 := sumAll_snoc L j hjl x c hx.out
      have hs2 := sumGe_snoc least L j hjl x c hx.out
      have hs3 := sumAll_take L (j + 1)
      have hs4 := HP.out.2
      have hs5 := sumGe_le least (L.take j)
      have hsa : sa + c < 1000000000 := by rw [hq.out.2]; omega
      have hsg : sg ≤ sa := by rw [hq.out.1, hq.out.2]; exact hs5
      have hn1 : Hid (sa + c = sumAll (L.take (j + 1))) := Lib.hid (by rw [hs1, hq.out.2])
      have hn2 : Hid (sumGe least (L.take (j + 1)) = sg + if least ≤ x then c else 0) := Lib.hid (by rw [hs2, hq.out.1])
      clear hs1 hs2 hs3 hs4 hs5
      go_wp2_with fail
      refine (rAdd_call _ sa c (by omega) (by omega)).mono ?_
      rintro e w6 ⟨rfl, b6⟩
      have hbn : Hid (Below w1.heap.size w1 w6) := Lib.hid (hbx.out.trans (b6.mono hbx.out.size))
      obtain ⟨_, _, x', c', hA, _, cy, cy', hx'⟩ := (HL.out.2.below hbn.out).at hjl
      cases hA
      obtain ⟨rfl, rfl⟩ : x' = x ∧ c' = c := by have := hx'.out; rw [hx.out] at this; cases this; exact ⟨rfl, rfl⟩
      clear cx cx' b6
      by_cases hle : least ≤ x'
      · have hn3 : Hid (sg + c' = sumGe least (L.take (j + 1))) := Lib.hid (by rw [hn2.out, if_pos hle])
        go_wp2_with fail
        refine (rAdd_call _ sg c' (by omega) (by omega)).mono ?_
        rintro e w7 ⟨rfl, b7⟩
        have hbm : Hid (Below w1.heap.size w1 w7) := Lib.hid (hbn.out.trans (b7.mono hbn.out.size))
        clear b7
        go_wp2_with fail
        go_roundg (L.length - (j + 1))
        case measure => omega
        case rel => exact ⟨j + 1, sa + c', sg + c', by go_num, by omega, rfl, rfl, rfl, Lib.hid ⟨hn3.out, hn1.out⟩, hbm⟩
      · have hn3 : Hid (sg = sumGe least (L.take (j + 1))) := Lib.hid (by rw [hn2.out, if_neg hle]; rfl)
        go_wp2_with fail
        go_roundg (L.length - (j + 1))
        case measure => omega
        case rel => exact ⟨j + 1, sa + c', sg, by go_num, by omega, rfl, rfl, rfl, Lib.hid ⟨hn3.out, hn1.out⟩, hbn⟩
    · obtain rfl : j = L.length := by omega
      have e1 : sumGe least L = sg := by rw [hq.out.1, List.take_length]
      have e2 : sumAll L = sa := by rw [hq.out.2, List.take_length]
      have hle := sumGe_le least L
      have hm := rmake_call wr sg sa (by have := HP.out; omega) (by have := HP.out; omega) (by have := HP.out; omega)
      obtain ⟨nx, hnx⟩ : ∃ x, x = ds (lowN sg sa) := ⟨_, rfl⟩
      obtain ⟨dx, hdx⟩ : ∃ x, x = ds (lowD sg sa) := ⟨_, rfl⟩
      rw [← hnx, ← hdx] at hm
      have HM := Lib.hid hm
      have HX := Lib.hid (And.intro hnx (And.intro hdx (And.intro e1 e2)))
      clear hm hnx hdx e1 e2 hle
      go_wp2_with fail
      refine HM.out.mono ?_
      rintro e w3 ⟨rfl, hb3⟩
      have hb13 : Below w1.heap.size w1 w3 := hbx.out.trans (hb3.mono hbx.out.size)
      have k3 := HK.out.below hb13 HK.out.lt
      have e0 : w3.cell? ⟨w.heap.size, 0, none⟩ = some (.bool false) := by rw [k3.cell]; rfl
      have e1 : w3.cell? ⟨w.heap.size, 1, none⟩ = some (.string ⟨#[]⟩) := by rw [k3.cell]; rfl
      have e2 : w3.cell? ⟨w.heap.size, 2, none⟩ = some (.string ⟨#[]⟩) := by rw [k3.cell]; rfl
      have g0 := k3.free 0
      have g1 := k3.free 1
      have g2 := k3.free 2
      have HK3 := Lib.hid k3
      have HB3 := Lib.hid (HB1.out.trans (hb13.mono HB1.out.size))
      clear k3 hb3 hb13
      go_wp2_with fail
      have hlt := HK3.out.lt
      refine bodyPost_ret (v := .tuple #[.agg #[.bool false, .string nx, .string dx], .int .i64 0]) (by simp [results, Tryz.results14, go_sem, hlt, e0, e1, e2]) rfl ⟨L, HL.out.1, ?_, ?_⟩
      · rw [HX.out.1, HX.out.2.1, HX.out.2.2.1, HX.out.2.2.2]
      · exact ((HB3.out.setCell (p := ⟨w.heap.size, 0, none⟩) (Nat.le_refl _) _).setCell (p := ⟨w.heap.size, 1, none⟩) (Nat.le_refl _) _).setCell (p := ⟨w.heap.size, 2, none⟩) (Nat.le_refl _) _
end Go.Proofs.YtdapflgfocideaaGreatDoor
