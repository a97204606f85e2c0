/- head() returns true. -/
import Derived.Test.YtdapflgfocideaaGreatDoorTbl
namespace Go.Proofs.YtdapflgfocideaaGreatDoor
open Go Go.RowKit Go.Deep
open Go.Lib (decDigits)
attribute [local go_sem] guardO guardR

theorem blk_tape (w : World) (xs : List Int) : RdI (w.alloc (.cells (ints xs) 3)) (w.alloc (.cells (ints xs) 3)).heap.size (some ⟨w.heap.size, 0, none⟩) xs.length xs :=
  (Blk.new w 3 (ints xs)).rdI (Blk.new w 3 (ints xs)).lt
theorem vt_a : VT [-1, 1] := by decide
theorem vt_b : VT [0, 0, 3] := by decide
theorem vt_c : VT [7, 8] := by decide
def ta : List (Int × Nat) := [(-2, 1), (0, 2), (2, 1)]
def tb : List (Int × Nat) := [(0, 2), (3, 1)]
def tc : List (Int × Nat) := [(0, 1)]
theorem tbl_a : IsTbl ta (cnt [-1, 1] 2) := by rw [cnt_sums]; exact tbl_mk _ _ (by decide) (by decide) (by decide)
theorem tbl_b : IsTbl tb (cnt [0, 0, 3] 1) := by rw [cnt_sums]; exact tbl_mk _ _ (by decide) (by decide) (by decide)
theorem tbl_c : IsTbl tc (cnt [7, 8] 0) := by rw [cnt_sums]; exact tbl_mk _ _ (by decide) (by decide) (by decide)

theorem dist_a (B : Nat) (w : World) (hE : Env B w) : Calls Tryz.prog 11 #[.slice (some ⟨w.heap.size, 0, none⟩) 2 2, .int .i64 2] (w.alloc (.cells #[.int .i64 (-1), .int .i64 1] 3)) fun e w' => RetD w ta e w' := by
  have hb : Below w.heap.size w (w.alloc (.cells (ints [-1, 1]) 3)) := (Below.refl _ _).alloc (Nat.le_refl _) _
  refine (dist_good B (w.alloc (.cells (ints [-1, 1]) 3)) _ 2 2 [-1, 1] 2 (blk_tape w [-1, 1]) vt_a (by omega) (hE.up hb)).mono ?_
  rintro e w' ⟨L, hL, A, c, he, h1, h2, h3, h4⟩
  obtain rfl := tbl_unique hL tbl_a
  exact ⟨A, c, he, h1, h2, fun p e => Nat.le_trans hb.size (h3 p e), hb.trans (h4.mono hb.size)⟩
theorem dist_b (B : Nat) (w : World) (hE : Env B w) : Calls Tryz.prog 11 #[.slice (some ⟨w.heap.size, 0, none⟩) 3 3, .int .i64 1] (w.alloc (.cells #[.int .i64 0, .int .i64 0, .int .i64 3] 3)) fun e w' => RetD w tb e w' := by
  have hb : Below w.heap.size w (w.alloc (.cells (ints [0, 0, 3]) 3)) := (Below.refl _ _).alloc (Nat.le_refl _) _
  refine (dist_good B (w.alloc (.cells (ints [0, 0, 3]) 3)) _ 3 3 [0, 0, 3] 1 (blk_tape w [0, 0, 3]) vt_b (by omega) (hE.up hb)).mono ?_
  rintro e w' ⟨L, hL, A, c, he, h1, h2, h3, h4⟩
  obtain rfl := tbl_unique hL tbl_b
  exact ⟨A, c, he, h1, h2, fun p e => Nat.le_trans hb.size (h3 p e), hb.trans (h4.mono hb.size)⟩
theorem dist_c (B : Nat) (w : World) (hE : Env B w) : Calls Tryz.prog 11 #[.slice (some ⟨w.heap.size, 0, none⟩) 2 2, .int .i64 0] (w.alloc (.cells #[.int .i64 7, .int .i64 8] 3)) fun e w' => RetD w tc e w' := by
  have hb : Below w.heap.size w (w.alloc (.cells (ints [7, 8]) 3)) := (Below.refl _ _).alloc (Nat.le_refl _) _
  refine (dist_good B (w.alloc (.cells (ints [7, 8]) 3)) _ 2 2 [7, 8] 0 (blk_tape w [7, 8]) vt_c (by omega) (hE.up hb)).mono ?_
  rintro e w' ⟨L, hL, A, c, he, h1, h2, h3, h4⟩
  obtain rfl := tbl_unique hL tbl_c
  exact ⟨A, c, he, h1, h2, fun p e => Nat.le_trans hb.size (h3 p e), hb.trans (h4.mono hb.size)⟩
theorem tail_a (B : Nat) (w : World) (hE : Env B w) (least : Int) (s : Bool) (p q : Nat) (h : lowS false (sumGe least ta) = s ∧ lowN (sumGe least ta) (sumAll ta) = p ∧ lowD (sumGe least ta) (sumAll ta) = q) :
    Calls Tryz.prog 13 #[.slice (some ⟨w.heap.size, 0, none⟩) 2 2, .int .i64 2, .int .i64 least] (w.alloc (.cells #[.int .i64 (-1), .int .i64 1] 3)) fun e w' => e = .returned (.tuple #[.agg #[.bool s, .string (ds p), .string (ds q)], .int .i64 0]) ∧ Below w.heap.size w w' := by
  have hb : Below w.heap.size w (w.alloc (.cells (ints [-1, 1]) 3)) := (Below.refl _ _).alloc (Nat.le_refl _) _
  refine (tail_good B (w.alloc (.cells (ints [-1, 1]) 3)) _ 2 2 [-1, 1] 2 least (blk_tape w [-1, 1]) vt_a (by omega) (hE.up hb) (fun L hL => cnt_pos vt_a (by omega) L hL)).mono ?_
  rintro e w' ⟨L, hL, he, h4⟩
  obtain rfl := tbl_unique hL tbl_a
  rw [h.1, h.2.1, h.2.2] at he
  exact ⟨he, hb.trans (h4.mono hb.size)⟩
theorem bad_call (w : World) (x n : Int) (hbad : ¬ (VT [x] ∧ 0 ≤ n ∧ n ≤ 40)) :
    Calls Tryz.prog 11 #[.slice (some ⟨w.heap.size, 0, none⟩) 1 1, .int .i64 n] (w.alloc (.cells #[.int .i64 x] 3)) fun e w' => e = .returned (.tuple #[.slice none 0 0, .int .i64 1]) ∧ Below w.heap.size w w' := by
  have hb : Below w.heap.size w (w.alloc (.cells (ints [x]) 3)) := (Below.refl _ _).alloc (Nat.le_refl _) _
  exact (dist_bad (w.alloc (.cells (ints [x]) 3)) _ _ 1 1 [x] n (blk_tape w [x]) (Nat.le_refl _) (by omega) hbad).mono fun e w' ⟨he, h⟩ => ⟨he, hb.trans (h.mono hb.size)⟩

theorem same_lit (W : World) (A : Option Addr) (n k c : Nat) (L : List (Int × Nat)) (cs : Array Value) (h : RdO W W.heap.size A n L) (hcs : cs = (ocells L).toArray) (hk : k = n) (hn : n ≤ 100) :
    Calls Tryz.prog 17 #[.slice A n c, .slice (some ⟨W.heap.size, 0, none⟩) k k] (W.alloc (.cells cs 38)) fun e w' => e = .returned (.bool true) ∧ Below W.heap.size W w' := by
  subst hk
  subst hcs
  have hb : Below W.heap.size W (W.alloc (.cells (ocells L).toArray 38)) := (Below.refl _ _).alloc (Nat.le_refl _) _
  have hl := h.len
  have k2 : RdO (W.alloc (.cells (ocells L).toArray 38)) (W.alloc (.cells (ocells L).toArray 38)).heap.size (some ⟨W.heap.size, 0, none⟩) k L := by
    have := (Blk.new W 38 (ocells L).toArray).rdO (Blk.new W 38 (ocells L).toArray).lt
    rwa [hl] at this
  refine (same_any _ _ A _ k c k k L L (h.up hb) k2 (by omega) (by omega)).mono fun e w' ⟨he, hw⟩ => ⟨?_, hb.trans (hw.mono hb.size)⟩
  rw [he]; simp
theorem lit_a : (#[.int .i64 (-2), .string ⟨#[49]⟩, .int .i64 0, .string ⟨#[50]⟩, .int .i64 2, .string ⟨#[49]⟩] : Array Value) = (ocells ta).toArray := by simp [ocells, ta, ds1, ds2]
theorem lit_b : (#[.int .i64 0, .string ⟨#[50]⟩, .int .i64 3, .string ⟨#[49]⟩] : Array Value) = (ocells tb).toArray := by simp [ocells, tb, ds1, ds2]
theorem lit_c : (#[.int .i64 0, .string ⟨#[49]⟩] : Array Value) = (ocells tc).toArray := by simp [ocells, tc, ds1]
theorem d3 : (ds 3).toList = [51] := by rw [ds_toList, dec_unfold]; rfl
theorem d4 : (ds 4).toList = [52] := by rw [ds_toList, dec_unfold]; rfl
theorem d0 : (ds 0).toList = [48] := by rw [ds_toList, dec_unfold]; rfl
theorem d1 : (ds 1).toList = [49] := by rw [ds_toList, dec_unfold]; rfl

set_option maxHeartbeats 2000000 in
set_option maxRecDepth 100000 in
theorem head_any (B : Nat) (w : World) (hE : Env B w) : Calls Tryz.prog 9 #[] w fun e w' => e = .returned (.bool true) ∧ Below w.heap.size w w' := by
  have HE := Lib.hid hE
  clear hE
  go_enter Tryz.func9, Tryz.ntmps9
  go_wp2_with fail
  refine (dist_a B w HE.out).mono ?_
  rintro e w1 ⟨A1, c1, rfl, l1, r1, _, b1⟩
  have R1 := Lib.hid r1
  have B1 := Lib.hid b1
  clear r1 b1
  go_wp2_with fail
  refine (dist_b B w1 (HE.out.up B1.out)).mono ?_
  rintro e w2 ⟨A2, c2, rfl, l2, r2, _, b2⟩
  have R2 := Lib.hid r2
  have B2 := Lib.hid (B1.out.trans (b2.mono B1.out.size))
  have R1' := Lib.hid (R1.out.up b2)
  clear r2 b2 R1 B1
  go_wp2_with fail
  refine (dist_c B w2 (HE.out.up B2.out)).mono ?_
  rintro e w3 ⟨A3, c3, rfl, l3, r3, _, b3⟩
  have R3 := Lib.hid r3
  have B3 := Lib.hid (B2.out.trans (b3.mono B2.out.size))
  have R1 := Lib.hid (R1'.out.up b3)
  have R2' := Lib.hid (R2.out.up b3)
  clear r3 b3 R1' R2 B2
  go_wp2_with fail
  refine (tail_a B w3 (HE.out.up B3.out) 0 false 3 4 (by decide)).mono ?_
  rintro e w4 ⟨rfl, b4⟩
  have B4 := Lib.hid (B3.out.trans (b4.mono B3.out.size))
  have T1 := Lib.hid (And.intro (R1.out.up b4) (And.intro (R2'.out.up b4) (R3.out.up b4)))
  clear b4 R1 R2' R3 B3
  go_wp2_with fail
  obtain ⟨v4, hv4⟩ : ∃ v4, v4 = w4.alloc (.cells #[.bool false, .string (ds 3), .string (ds 4)] 31) := ⟨_, rfl⟩
  have X1 : Hid (Blk v4 w4.heap.size 31 #[.bool false, .string (ds 3), .string (ds 4)]) := by rw [hv4]; exact Blk.new _ _ _
  have E4 : Hid (Below w4.heap.size w4 v4 ∧ v4.heap.size = w4.heap.size + 1) := by rw [hv4]; exact Lib.hid ⟨(Below.refl _ _).alloc (Nat.le_refl _) _, by simp⟩
  rw [← hv4, ← E4.out.2]
  clear hv4
  refine (tail_a B v4 ((HE.out.up B4.out).up E4.out.1) 3 false 0 1 (by decide)).mono ?_
  rintro e w5 ⟨rfl, b5⟩
  have B5 := Lib.hid (B4.out.trans ((E4.out.1.trans (b5.mono E4.out.1.size)).mono B4.out.size))
  have hb45 : Below w4.heap.size w4 w5 := E4.out.1.trans (b5.mono E4.out.1.size)
  have T2 := Lib.hid (And.intro (T1.out.1.up hb45) (And.intro (T1.out.2.1.up hb45) (T1.out.2.2.up hb45)))
  have X2 := Lib.hid (X1.out.below b5 X1.out.lt)
  clear hb45 b5 X1 E4 T1
  go_wp2_with fail
  obtain ⟨v5, hv5⟩ : ∃ v5, v5 = w5.alloc (.cells #[.bool false, .string (ds 0), .string (ds 1)] 31) := ⟨_, rfl⟩
  have Y1 : Hid (Blk v5 w5.heap.size 31 #[.bool false, .string (ds 0), .string (ds 1)]) := by rw [hv5]; exact Blk.new _ _ _
  have E5 : Hid (Below w5.heap.size w5 v5) := by rw [hv5]; exact Lib.hid ((Below.refl _ _).alloc (Nat.le_refl _) _)
  rw [← hv5]
  clear hv5
  refine (dist_bad v5 0 none 0 0 [] 2 (Rd.nil _ _ _) (Nat.zero_le _) (by omega) (by decide)).mono ?_
  rintro e w6 ⟨rfl, b6⟩
  have B6 := Lib.hid b6
  clear b6
  go_wp2_with fail
  refine (bad_call w6 51 2 (by decide)).mono ?_
  rintro e w7 ⟨rfl, b7⟩
  have B7 := Lib.hid (B6.out.trans (b7.mono B6.out.size))
  clear b7 B6
  go_wp2_with fail
  refine (bad_call w7 1 41 (by decide)).mono ?_
  rintro e w8 ⟨rfl, b8⟩
  have B8 := Lib.hid (B7.out.trans (b8.mono B7.out.size))
  have B58 := Lib.hid (E5.out.trans (B8.out.mono E5.out.size))
  have T8 := Lib.hid (And.intro (T2.out.1.up B58.out) (And.intro (T2.out.2.1.up B58.out) (T2.out.2.2.up B58.out)))
  have X8 := X2.out.below B58.out X2.out.lt
  have Y8 := Y1.out.below B8.out Y1.out.lt
  have BF := Lib.hid (B5.out.trans (B58.out.mono B5.out.size))
  have XY := Lib.hid (And.intro X8 Y8)
  clear b8 B7 B8 X8 Y8 X2 Y1 T2 E5 B58 B5 B4 HE
  go_wp2_with fail
  refine (same_lit w8 A1 ta.length 3 c1 ta _ T8.out.1 lit_a rfl (by decide)).mono ?_
  rintro e w9 ⟨rfl, b9⟩
  have T9 := Lib.hid (And.intro (T8.out.2.1.up b9) (T8.out.2.2.up b9))
  have BF9 := Lib.hid (BF.out.trans (b9.mono BF.out.size))
  have XY9 := Lib.hid (And.intro (XY.out.1.below b9 XY.out.1.lt) (XY.out.2.below b9 XY.out.2.lt))
  clear b9 T8 BF XY
  go_wp2_with fail
  refine (same_lit w9 A2 tb.length 2 c2 tb _ T9.out.1 lit_b rfl (by decide)).mono ?_
  rintro e w10 ⟨rfl, b10⟩
  have T10 := Lib.hid (T9.out.2.up b10)
  have BF10 := Lib.hid (BF9.out.trans (b10.mono BF9.out.size))
  have XY10 := Lib.hid (And.intro (XY9.out.1.below b10 XY9.out.1.lt) (XY9.out.2.below b10 XY9.out.2.lt))
  clear b10 T9 BF9 XY9
  go_wp2_with fail
  refine (same_lit w10 A3 tc.length 1 c3 tc _ T10.out lit_c rfl (by decide)).mono ?_
  rintro e w11 ⟨rfl, b11⟩
  have k1 := XY10.out.1.below b11 XY10.out.1.lt
  have k2 := XY10.out.2.below b11 XY10.out.2.lt
  have BF11 := Lib.hid (BF10.out.trans (b11.mono BF10.out.size))
  have e0 : w11.cell? ⟨w4.heap.size, 0, none⟩ = some (.bool false) := by rw [k1.cell]; rfl
  have e1 : w11.cell? ⟨w4.heap.size, 1, none⟩ = some (.string (ds 3)) := by rw [k1.cell]; rfl
  have e2 : w11.cell? ⟨w4.heap.size, 2, none⟩ = some (.string (ds 4)) := by rw [k1.cell]; rfl
  have g0 : w11.cell? ⟨w5.heap.size, 0, none⟩ = some (.bool false) := by rw [k2.cell]; rfl
  have g1 : w11.cell? ⟨w5.heap.size, 1, none⟩ = some (.string (ds 0)) := by rw [k2.cell]; rfl
  have g2 : w11.cell? ⟨w5.heap.size, 2, none⟩ = some (.string (ds 1)) := by rw [k2.cell]; rfl
  have s3 := d3
  have s4 := d4
  have s0 := d0
  have s1 := d1
  clear k1 k2 b11
  go_wp2_with fail
  go_ret
  exact ⟨rfl, BF11.out⟩
end Go.Proofs.YtdapflgfocideaaGreatDoor
