/- The walk of NoiseShifts: true. -/
import Derived.Test.YtdapflgfocideaaGreatDoorRows3
namespace Go.Proofs.YtdapflgfocideaaGreatDoor
open Go Go.RowKit Go.Deep
open Go.Lib (decDigits)
attribute [local go_sem] guardO guardR

/-- What the loop of NoiseShifts lays: three rows, of the turned tape. -/
def Laid3 (w : World) (base : Nat) (v1 v2 v3 : Value) (T : List Int) (s : Int) (k : Nat) : Prop :=
  R3 w base v1 k (((T.take k).map (· + s)).map (Value.int .i64)) v2 k (((T.take k).map fun o => -o).map (Value.int .i64)) v3 k ((T.take k).map (Value.int .i64))
theorem take_more (T : List Int) (k : Nat) (x : Int) (h : k < T.length) (hx : T.getD k 0 = x) : T.take (k + 1) = T.take k ++ [x] := by
  rw [List.take_succ_eq_append_getElem h, ← hx, List.getD_eq_getElem?_getD, List.getElem?_eq_getElem h]; rfl
theorem rev_at (t : List Int) (k j : Nat) (h : k < t.length) (hj : j = t.length - 1 - k) : t.reverse.getD k 0 = t.getD j 0 := by
  subst hj
  rw [List.getD_eq_getElem?_getD, List.getD_eq_getElem?_getD, List.getElem?_reverse h]

theorem vt_reverse {t : List Int} (h : VT t) : VT t.reverse := ⟨by simpa using h.1, by simpa using h.2.1, fun x hx => h.2.2 x (by simpa using hx)⟩
theorem vt_neg {t : List Int} (h : VT t) : VT (t.map fun o => -o) := ⟨by simpa using h.1, by simpa using h.2.1, fun x hx => by
  obtain ⟨y, hy, rfl⟩ := List.mem_map.1 hx
  have := h.2.2 y hy
  omega⟩

theorem tbl_mid {t : List Int} {n : Nat} (hV : VT t) (hn : n ≤ 6) {L : List (Int × Nat)} (hL : IsTbl L (cnt t n)) : L.length ≤ 1000000 := by
  have h1 := tbl_len hL
  rw [cnt_total hL] at h1
  have h2 : t.length ^ n ≤ 9 ^ n := Nat.pow_le_pow_left hV.2.1 n
  have h3 := pow9_le hn
  omega
def moveT (d : Int) (L : List (Int × Nat)) : List (Int × Nat) := L.map fun p => (p.1 + d, p.2)
def flipT (L : List (Int × Nat)) : List (Int × Nat) := (L.map fun p => (-p.1, p.2)).reverse
theorem moveT_len (d : Int) (L : List (Int × Nat)) : (moveT d L).length = L.length := by simp [moveT]
theorem flipT_len (L : List (Int × Nat)) : (flipT L).length = L.length := by simp [flipT]
theorem moved_is {t : List Int} {s : Int} {m : Nat} {L M : List (Int × Nat)} (hL : IsTbl L (cnt t m)) (hM : IsTbl M (cnt (t.reverse.map (· + s)) m)) : M = moveT (m * s) L := by
  have e : cnt (t.reverse.map (· + s)) m = fun v => cnt t m (v - m * s) := by funext v; rw [cnt_shift, cnt_reverse]
  rw [e] at hM
  exact tbl_unique hM (tbl_shift hL _)
theorem flipped_is {t : List Int} {m : Nat} {L M : List (Int × Nat)} (hL : IsTbl L (cnt t m)) (hM : IsTbl M (cnt (t.reverse.map fun o => -o) m)) : M = flipT L := by
  have e : cnt (t.reverse.map fun o => -o) m = fun v => cnt t m (-v) := by funext v; rw [cnt_neg, cnt_reverse]
  rw [e] at hM
  exact tbl_unique hM (tbl_neg hL)
theorem back_is {t : List Int} {m : Nat} {L M : List (Int × Nat)} (hL : IsTbl L (cnt t m)) (hM : IsTbl M (cnt t.reverse m)) : M = L := by
  rw [cnt_reverse] at hM
  exact tbl_unique hM hL
theorem moveT_at {d : Int} {L : List (Int × Nat)} {i : Nat} {x : Int} {c : Nat} (hi : i < L.length) (h : L.getD i (0, 0) = (x, c)) : (moveT d L).getD i (0, 0) = (x + d, c) := by
  rw [List.getD_eq_getElem?_getD, List.getElem?_eq_getElem hi] at h
  simp only [Option.getD_some] at h
  unfold moveT
  rw [List.getD_eq_getElem?_getD, List.getElem?_map, List.getElem?_eq_getElem hi, h]
  rfl
theorem flipT_at {L : List (Int × Nat)} {i j : Nat} {x : Int} {c : Nat} (hi : i < L.length) (hj : j = L.length - 1 - i) (h : L.getD i (0, 0) = (x, c)) : (flipT L).getD j (0, 0) = (-x, c) := by
  subst hj
  rw [List.getD_eq_getElem?_getD, List.getElem?_eq_getElem hi] at h
  simp only [Option.getD_some] at h
  unfold flipT
  rw [List.getD_eq_getElem?_getD, List.getElem?_reverse (by simp; omega)]
  rw [List.length_map, show L.length - 1 - (L.length - 1 - i) = i by omega, List.getElem?_map, List.getElem?_eq_getElem hi, h]
  rfl

set_option maxHeartbeats 4000000 in
set_option maxRecDepth 100000 in
theorem shifts_any (B : Nat) (w : World) (A : Option Addr) (nt ct : Nat) (tape : List Int) (n s : Int) (h : RdI w w.heap.size A nt tape) (hE : Env B w) (hn : nt ≤ 4611686018427387904) :
    Calls Tryz.prog 4 #[.slice A nt ct, .int .i64 n, .int .i64 s] w fun e w' => e = .returned (.bool true) ∧ Below w.heap.size w w' := by
  have HH := Lib.hid (head_any B w hE)
  have HF := Lib.hid (And.intro h hE)
  clear h hE
  by_cases hf : nt ≤ 12 ∧ (n ≤ 6 ∨ 40 < n)
  · by_cases hg : VT tape
    · have HV := Lib.hid hg
      have hnt : nt ≤ 9 := by rw [← HF.out.1.length]; exact hg.2.1
      have hnt1 : 1 ≤ nt := by rw [← HF.out.1.length]; exact hg.1
      clear hg
      by_cases hs : -100 ≤ s ∧ s ≤ 100
      · have hs1 : ¬ s < -100 := by omega
        have hs2 : ¬ 100 < s := by omega
        go_enter Tryz.func4, Tryz.ntmps4
        go_wp2_with fail
        refine HH.out.mono ?_
        rintro e w1 ⟨rfl, b1⟩
        have B1 := Lib.hid b1
        clear b1
        go_wp2_with fail
        refine (few_any w1 A nt ct n hn).mono ?_
        rw [decide_eq_true hf]
        rintro e w' ⟨rfl, rfl⟩
        go_wp2_with fail
        refine (validT w1 w.heap.size A nt ct tape (HF.out.1.below B1.out) (by omega)).mono ?_
        rw [decide_eq_true HV.out]
        rintro e w' ⟨rfl, rfl⟩
        go_wp2_with fail
        obtain ⟨T, hT⟩ : ∃ T, T = tape.reverse := ⟨_, rfl⟩
        have HT := Lib.hid hT
        have hTl : T.length = nt := by rw [hT, List.length_reverse, HF.out.1.length]
        have HTL := Lib.hid hTl
        obtain ⟨i0, hi0, hz0, hz1, hz2⟩ := info_parts info3
        clear hT hTl
        go_loopg [8, 9, 10, 11] nt (fun gk s8 s9 s10 s11 wr => ∃ k : Nat, k ≤ nt ∧ gk = nt - k ∧ s11 = .int .i64 ((nt : Int) - 1 - k) ∧ Hid (Laid3 wr w1.heap.size s8 s9 s10 T s k) ∧ Hid (Below w1.heap.size w1 wr))
        case atStart => exact ⟨0, Nat.zero_le _, rfl, by first | rfl | (congr 1; omega), Lib.hid ⟨World.ownsRow_nil _ _ _ _, World.ownsRow_nil _ _ _ _, World.ownsRow_nil _ _ _ _, fun q e => (by cases e), fun q e => (by cases e), fun q e => (by cases e)⟩, Lib.hid (Below.refl _ _)⟩
        case round =>
          obtain ⟨k, hk, rfl, hs11, hst, hbr⟩ := hrel
          by_cases hkn : k < nt
          · obtain ⟨j, hj⟩ : ∃ j : Nat, j = nt - 1 - k := ⟨_, rfl⟩
            have hjz : (nt : Int) - 1 - k = j := by omega
            rw [hjz] at hs11
            subst hs11
            obtain ⟨tb, tf, x, hA, _, cx, hx⟩ := ((HF.out.1.up B1.out).below hbr.out).at (k := j) (by omega)
            have HX : Hid (T.getD k 0 = x) := Lib.hid (by rw [HT.out, rev_at tape k j (by rw [HF.out.1.length]; omega) (by rw [HF.out.1.length]; exact hj), hx.out])
            have hxm : x ∈ tape := by
              rw [← hx.out, List.getD_eq_getElem?_getD, List.getElem?_eq_getElem (by have := HF.out.1.length; omega)]; exact List.getElem_mem _
            have hx50 := HV.out.2.2 x hxm
            subst hA
            have hwxs : IntKind.i64.wrap (x + s) = x + s := IntWalk.i64_in _ (by omega)
            have hwn : IntKind.i64.wrap (-x) = -x := IntWalk.i64_in _ (by omega)
            have hj0 : (0 : Int) ≤ j := by omega
            have hsz := hbr.out.size
            obtain ⟨W, hW⟩ : ∃ W, W = wr := ⟨_, rfl⟩
            rw [← hW] at hst hbr hsz cx ⊢
            have hR := hst.out
            unfold Laid3 at hR
            have HJ := Lib.hid hjz
            have hjn : j < nt := by omega
            have hjnz : (j : Int) < nt := by omega
            clear hxm hW hst hj hjz
            go_wp2_with (at_builtin; refine wpList_append_own_at _ rfl _ _ 22 rfl w1.heap.size 3 i0 (.int .i64 0) 1 8 Tryz.underlying22 hi0 hz0 hz1 hz2 rfl (by decide) _ _ _ rfl (hR.alloc _).o1 ⟨W.heap.size, 0, none⟩ 1 1 [.int .i64 (x + s)] rfl rfl (cell_one_new _ _ _) (by simp [Value.oneCell']) (by unfold maxLen; omega) (by omega) (by simp; omega) ?_)
            intro v1 W1 ho1 hg1 _ hd1
            have hR1 := (hR.alloc _).step ho1 hg1 (by simpa using hd1)
            have hb1 : Below w1.heap.size w1 W1 := (hbr.out.alloc hsz _).grown hg1 (by simp; omega) (fun q e => (hR.o1.lt q e).1)
            have hsz1 := hb1.size
            have cx1 : W1.cell? ⟨tb, tf + j, none⟩ = some (.int .i64 x) := by
              obtain ⟨_, _, x', hA, _, cx', hx'⟩ := ((HF.out.1.up B1.out).below hb1).at (k := j) (by omega)
              cases hA
              rw [cx', ← hx.out, hx'.out]
            clear ho1 hg1 hd1 hR cx hbr hsz
            go_wp2_with (at_builtin; refine wpList_append_own_at _ rfl _ _ 22 rfl w1.heap.size 3 i0 (.int .i64 0) 1 8 Tryz.underlying22 hi0 hz0 hz1 hz2 rfl (by decide) _ _ _ rfl (hR1.alloc _).o1 ⟨W1.heap.size, 0, none⟩ 1 1 [.int .i64 (-x)] rfl rfl (cell_one_new _ _ _) (by simp [Value.oneCell']) (by unfold maxLen; omega) (by omega) (by simp; omega) ?_)
            intro v2 W2 ho2 hg2 _ hd2
            have hR2 := (hR1.alloc _).step ho2 hg2 (by simpa using hd2)
            have hb2 : Below w1.heap.size w1 W2 := (hb1.alloc hsz1 _).grown hg2 (by simp; omega) (fun q e => (hR1.o1.lt q e).1)
            have hsz2 := hb2.size
            have cx2 : W2.cell? ⟨tb, tf + j, none⟩ = some (.int .i64 x) := by
              obtain ⟨_, _, x', hA, _, cx', hx'⟩ := ((HF.out.1.up B1.out).below hb2).at (k := j) (by omega)
              cases hA
              rw [cx', ← hx.out, hx'.out]
            clear ho2 hg2 hd2 hR1 cx1 hb1 hsz1
            go_wp2_with (at_builtin; refine wpList_append_own_at _ rfl _ _ 22 rfl w1.heap.size 3 i0 (.int .i64 0) 1 8 Tryz.underlying22 hi0 hz0 hz1 hz2 rfl (by decide) _ _ _ rfl (hR2.alloc _).o1 ⟨W2.heap.size, 0, none⟩ 1 1 [.int .i64 x] rfl rfl (cell_one_new _ _ _) (by simp [Value.oneCell']) (by unfold maxLen; omega) (by omega) (by simp; omega) ?_)
            intro v3 W3 ho3 hg3 _ hd3
            have hR3 := (hR2.alloc _).step ho3 hg3 (by simpa using hd3)
            have hb3 : Below w1.heap.size w1 W3 := (hb2.alloc hsz2 _).grown hg3 (by simp; omega) (fun q e => (hR2.o1.lt q e).1)
            have hfin : Hid (Laid3 W3 w1.heap.size v1 v2 v3 T s (k + 1)) := Lib.hid (by
              unfold Laid3
              rw [take_more T k x (by rw [HTL.out]; exact hkn) HX.out]
              simpa using hR3)
            have HB3 := Lib.hid hb3
            clear ho3 hg3 hd3 hR2 cx2 hb2 hsz2 hR3 hb3
            go_wp2_with fail
            go_roundg (nt - (k + 1))
            case measure => omega
            case rel => exact ⟨k + 1, by omega, rfl, by have := HJ.out; first | go_num | (congr 1; omega), hfin, HB3⟩
          · obtain rfl : k = nt := by omega
            subst hs11
            have hR := hst.out
            unfold Laid3 at hR
            rw [← HTL.out, List.take_length, HTL.out] at hR
            obtain ⟨A8, c8, rfl, _, rd8, _⟩ := own_rd0 hR.o1
            obtain ⟨A9, c9, rfl, _, rd9, _⟩ := own_rd0 hR.o2
            obtain ⟨A10, c10, rfl, _, rd10, _⟩ := own_rd0 hR.o3
            have R8 : Hid (RdI wr wr.heap.size A8 k (T.map (· + s))) := Lib.hid rd8
            have R9 : Hid (RdI wr wr.heap.size A9 k (T.map fun o => -o)) := Lib.hid rd9
            have R10 : Hid (RdI wr wr.heap.size A10 k T) := Lib.hid rd10
            have BR := Lib.hid (B1.out.trans (hbr.out.mono B1.out.size))
            have v9 : Hid (VT (T.map fun o => -o)) := Lib.hid (by rw [HT.out]; exact vt_neg (vt_reverse HV.out))
            have v10 : Hid (VT T) := Lib.hid (by rw [HT.out]; exact vt_reverse HV.out)
            clear rd8 rd9 rd10 hR hst hbr
            have hz : ((k : Int) - 1 - k) = -1 := by omega
            rw [hz]
            by_cases hn0 : 0 ≤ n ∧ n ≤ 40
            · obtain ⟨m, rfl⟩ : ∃ m : Nat, n = m := ⟨n.toNat, by omega⟩
              have hm : m ≤ 6 := by omega
              go_wp2_with fail
              refine (dist_good B wr A k ct tape m (HF.out.1.up BR.out) HV.out hm (HF.out.2.up BR.out)).mono ?_
              rintro e w2 ⟨L, hL, A2, c2, rfl, l2, r2, _, b2⟩
              have D2 := Lib.hid b2
              have TL := Lib.hid hL
              have R2 := Lib.hid r2
              have nl := tbl_mid HV.out hm TL.out
              clear b2 hL r2
              by_cases hM : VT (T.map (· + s))
              · go_wp2_with fail
                refine (dist_good B w2 A8 k c8 _ m (R8.out.up D2.out) hM hm (HF.out.2.up (BR.out.trans (D2.out.mono BR.out.size)))).mono ?_
                rintro e w3 ⟨La, hLa, A3, c3, he3, l3, r3, _, b3⟩
                rw [HT.out] at hLa
                obtain rfl := moved_is TL.out hLa
                rw [moveT_len] at he3 r3
                subst he3
                have D3 := Lib.hid (D2.out.trans (b3.mono D2.out.size))
                have S3 := Lib.hid b3
                have R3 := Lib.hid r3
                clear b3 hLa r3
                go_wp2_with fail
                refine (dist_good B w3 A9 k c9 _ m (R9.out.up D3.out) v9.out hm (HF.out.2.up (BR.out.trans (D3.out.mono BR.out.size)))).mono ?_
                rintro e w4 ⟨Lb, hLb, A4, c4, he4, l4, r4, _, b4⟩
                rw [HT.out] at hLb
                obtain rfl := flipped_is TL.out hLb
                rw [flipT_len] at he4 r4
                subst he4
                have D4 := Lib.hid (D3.out.trans (b4.mono D3.out.size))
                have S4 := Lib.hid b4
                have R4 := Lib.hid r4
                clear b4 hLb r4
                go_wp2_with fail
                refine (dist_good B w4 A10 k c10 _ m (R10.out.up D4.out) v10.out hm (HF.out.2.up (BR.out.trans (D4.out.mono BR.out.size)))).mono ?_
                rintro e w5 ⟨Lc, hLc, A5, c5, he5, l5, r5, _, b5⟩
                rw [HT.out] at hLc
                obtain rfl := back_is TL.out hLc
                subst he5
                have D5 := Lib.hid (D4.out.trans (b5.mono D4.out.size))
                have S5 := Lib.hid b5
                have R5 := Lib.hid r5
                have F2 := Lib.hid (((R2.out.up S3.out).up S4.out).up S5.out)
                have F3 := Lib.hid ((R3.out.up S4.out).up S5.out)
                have F4 := Lib.hid (R4.out.up S5.out)
                have HMM := Lib.hid hM
                clear b5 hLc r5 hM
                go_wp2_with fail
                refine (same_any w5 w5.heap.size A5 A2 _ c5 _ c2 Lc Lc R5.out F2.out nl nl).mono ?_
                rw [decide_eq_true rfl]
                rintro e w6 ⟨rfl, b6⟩
                have D6 := Lib.hid (D5.out.trans (b6.mono D5.out.size))
                have G2 := Lib.hid (F2.out.up b6)
                have G3 := Lib.hid (F3.out.up b6)
                have G4 := Lib.hid (F4.out.up b6)
                clear b6
                go_wp2_with fail
                refine (validT w6 wr.heap.size A8 k c8 _ (R8.out.below D6.out) (by omega)).mono ?_
                rw [decide_eq_true HMM.out]
                rintro e w' ⟨rfl, rfl⟩
                go_wp2_with fail
                go_loopg [20] Lc.length (fun gk s20 wy => ∃ i : Nat, s20 = .int .i64 i ∧ i ≤ Lc.length ∧ gk = Lc.length - i ∧ Hid (Below w6.heap.size w6 wy))
                case atStart => exact ⟨0, rfl, Nat.zero_le _, rfl, Lib.hid (Below.refl _ _)⟩
                case round =>
                  obtain ⟨i, rfl, hi, rfl, hby⟩ := hrel
                  by_cases hil : i < Lc.length
                  · have hilz : (i : Int) < Lc.length := by omega
                    obtain ⟨g2, o2, x, c, hA2, _, cx, cc, hx⟩ := (G2.out.below hby.out).at hil
                    obtain ⟨j, hj⟩ : ∃ j, j = Lc.length - 1 - i := ⟨_, rfl⟩
                    have hjl : j < Lc.length := by omega
                    obtain ⟨g3, o3, x3, c3', hA3, _, cx3, cc3, hx3⟩ := (G3.out.below hby.out).at hil
                    obtain ⟨g4, o4, x4, c4', hA4, _, cx4, cc4, hx4⟩ := (G4.out.below hby.out).at hjl
                    have e3 := moveT_at (d := m * s) hil hx.out
                    rw [hx3.out] at e3
                    cases e3
                    have e4 := flipT_at hil hj hx.out
                    rw [hx4.out] at e4
                    cases e4
                    subst hA2
                    subst hA3
                    subst hA4
                    have hxb := cnt_sup tape HV.out.2.2 m x (tbl_ne TL.out hil hx.out)
                    obtain ⟨d, hd⟩ : ∃ d, d = (m : Int) * s := ⟨_, rfl⟩
                    have hd1 : -600 ≤ d ∧ d ≤ 600 := by
                      rw [hd]
                      rcases (show m = 0 ∨ m = 1 ∨ m = 2 ∨ m = 3 ∨ m = 4 ∨ m = 5 ∨ m = 6 by omega) with h | h | h | h | h | h | h <;> subst h <;> omega
                    rw [← hd] at cx3
                    have hwms : IntKind.i64.wrap ((m : Int) * s) = d := by rw [← hd]; exact IntWalk.i64_in _ (by omega)
                    have hwxd : IntKind.i64.wrap (x + d) = x + d := IntWalk.i64_in _ (by omega)
                    have hwnx : IntKind.i64.wrap (-x) = -x := IntWalk.i64_in _ (by omega)
                    have hji : (Lc.length : Int) - 1 - i = j := by omega
                    have hjlz : (j : Int) < Lc.length := by omega
                    clear hxb hd hj hx hx3 hx4 hd1
                    go_wp2_with fail
                    go_quiet (fail)
                    go_wp2_with fail
                    go_roundg (Lc.length - (i + 1))
                    case measure => omega
                    case rel => exact ⟨i + 1, by go_num, by omega, rfl, Lib.hid (below_drewN hby.out _)⟩
                  · obtain rfl : i = Lc.length := by omega
                    go_wp2_with fail
                    go_ret
                    exact ⟨by simp, BR.out.trans ((D6.out.trans (hby.out.mono D6.out.size)).mono BR.out.size)⟩
              · go_wp2_with fail
                refine (dist_bad w2 wr.heap.size A8 k c8 _ m (R8.out.below D2.out) D2.out.size (by omega) (fun h => hM h.1)).mono ?_
                rintro e w3 ⟨rfl, b3⟩
                have D3 := Lib.hid (D2.out.trans (b3.mono D2.out.size))
                have S3 := Lib.hid b3
                clear b3
                go_wp2_with fail
                refine (dist_good B w3 A9 k c9 _ m (R9.out.up D3.out) v9.out hm (HF.out.2.up (BR.out.trans (D3.out.mono BR.out.size)))).mono ?_
                rintro e w4 ⟨Lb, hLb, A4, c4, he4, l4, r4, _, b4⟩
                rw [HT.out] at hLb
                obtain rfl := flipped_is TL.out hLb
                rw [flipT_len] at he4 r4
                subst he4
                have D4 := Lib.hid (D3.out.trans (b4.mono D3.out.size))
                have S4 := Lib.hid b4
                have R4 := Lib.hid r4
                clear b4 hLb r4
                go_wp2_with fail
                refine (dist_good B w4 A10 k c10 _ m (R10.out.up D4.out) v10.out hm (HF.out.2.up (BR.out.trans (D4.out.mono BR.out.size)))).mono ?_
                rintro e w5 ⟨Lc, hLc, A5, c5, he5, l5, r5, _, b5⟩
                rw [HT.out] at hLc
                obtain rfl := back_is TL.out hLc
                subst he5
                have D5 := Lib.hid (D4.out.trans (b5.mono D4.out.size))
                have S5 := Lib.hid b5
                have R5 := Lib.hid r5
                have F2 := Lib.hid (((R2.out.up S3.out).up S4.out).up S5.out)
                have F4 := Lib.hid (R4.out.up S5.out)
                have HMM := Lib.hid hM
                clear b5 hLc r5 hM
                go_wp2_with fail
                refine (same_any w5 w5.heap.size A5 A2 _ c5 _ c2 Lc Lc R5.out F2.out nl nl).mono ?_
                rw [decide_eq_true rfl]
                rintro e w6 ⟨rfl, b6⟩
                have D6 := Lib.hid (D5.out.trans (b6.mono D5.out.size))
                have G2 := Lib.hid (F2.out.up b6)
                have G4 := Lib.hid (F4.out.up b6)
                clear b6
                go_wp2_with fail
                refine (validT w6 wr.heap.size A8 k c8 _ (R8.out.below D6.out) (by omega)).mono ?_
                rw [decide_eq_false HMM.out]
                rintro e w' ⟨rfl, rfl⟩
                go_wp2_with fail
                go_loopg [20] Lc.length (fun gk s20 wy => ∃ i : Nat, s20 = .int .i64 i ∧ i ≤ Lc.length ∧ gk = Lc.length - i ∧ Hid (Below w6.heap.size w6 wy))
                case atStart => exact ⟨0, rfl, Nat.zero_le _, rfl, Lib.hid (Below.refl _ _)⟩
                case round =>
                  obtain ⟨i, rfl, hi, rfl, hby⟩ := hrel
                  by_cases hil : i < Lc.length
                  · have hilz : (i : Int) < Lc.length := by omega
                    obtain ⟨g2, o2, x, c, hA2, _, cx, cc, hx⟩ := (G2.out.below hby.out).at hil
                    obtain ⟨j, hj⟩ : ∃ j, j = Lc.length - 1 - i := ⟨_, rfl⟩
                    have hjl : j < Lc.length := by omega
                    obtain ⟨g4, o4, x4, c4', hA4, _, cx4, cc4, hx4⟩ := (G4.out.below hby.out).at hjl
                    have e4 := flipT_at hil hj hx.out
                    rw [hx4.out] at e4
                    cases e4
                    subst hA2
                    subst hA4
                    have hxb := cnt_sup tape HV.out.2.2 m x (tbl_ne TL.out hil hx.out)
                    have hwnx : IntKind.i64.wrap (-x) = -x := IntWalk.i64_in _ (by omega)
                    have hji : (Lc.length : Int) - 1 - i = j := by omega
                    have hjlz : (j : Int) < Lc.length := by omega
                    clear hxb hj hx hx4
                    go_wp2_with fail
                    go_quiet (fail)
                    go_wp2_with fail
                    go_roundg (Lc.length - (i + 1))
                    case measure => omega
                    case rel => exact ⟨i + 1, by go_num, by omega, rfl, Lib.hid (below_drewN hby.out _)⟩
                  · obtain rfl : i = Lc.length := by omega
                    go_wp2_with fail
                    go_ret
                    exact ⟨by simp, BR.out.trans ((D6.out.trans (hby.out.mono D6.out.size)).mono BR.out.size)⟩
            · have hbad : ∀ t : List Int, ¬ (VT t ∧ 0 ≤ n ∧ n ≤ 40) := fun t h => hn0 h.2
              have HB := Lib.hid hbad
              clear hbad
              go_wp2_with fail
              refine (dist_bad wr w.heap.size A k ct tape n (HF.out.1.below BR.out) BR.out.size (by omega) (HB.out _)).mono ?_
              rintro e w2 ⟨rfl, b2⟩
              have B2 := Lib.hid (BR.out.trans (b2.mono BR.out.size))
              have D2 := Lib.hid b2
              clear b2
              go_wp2_with fail
              refine (dist_bad w2 wr.heap.size A8 k c8 _ n (R8.out.below D2.out) D2.out.size (by omega) (HB.out _)).mono ?_
              rintro e w3 ⟨rfl, b3⟩
              have D3 := Lib.hid (D2.out.trans (b3.mono D2.out.size))
              clear b3
              go_wp2_with fail
              refine (dist_bad w3 wr.heap.size A9 k c9 _ n (R9.out.below D3.out) D3.out.size (by omega) (HB.out _)).mono ?_
              rintro e w4 ⟨rfl, b4⟩
              have D4 := Lib.hid (D3.out.trans (b4.mono D3.out.size))
              clear b4
              go_wp2_with fail
              refine (dist_bad w4 wr.heap.size A10 k c10 _ n (R10.out.below D4.out) D4.out.size (by omega) (HB.out _)).mono ?_
              rintro e w5 ⟨rfl, b5⟩
              have D5 := Lib.hid (D4.out.trans (b5.mono D4.out.size))
              clear b5
              go_wp2_with fail
              go_ret
              exact ⟨rfl, BR.out.trans (D5.out.mono BR.out.size)⟩
      · by_cases hs1 : s < -100
        · go_enter Tryz.func4, Tryz.ntmps4
          go_wp2_with fail
          refine HH.out.mono ?_
          rintro e w1 ⟨rfl, b1⟩
          go_wp2_with fail
          refine (few_any w1 A nt ct n hn).mono ?_
          rw [decide_eq_true hf]
          rintro e w' ⟨rfl, rfl⟩
          go_wp2_with fail
          refine (validT w1 w.heap.size A nt ct tape (HF.out.1.below b1) (by omega)).mono ?_
          rw [decide_eq_true HV.out]
          rintro e w' ⟨rfl, rfl⟩
          go_wp2_with fail
          go_ret
          exact ⟨rfl, b1⟩
        · have hs2 : 100 < s := by omega
          go_enter Tryz.func4, Tryz.ntmps4
          go_wp2_with fail
          refine HH.out.mono ?_
          rintro e w1 ⟨rfl, b1⟩
          go_wp2_with fail
          refine (few_any w1 A nt ct n hn).mono ?_
          rw [decide_eq_true hf]
          rintro e w' ⟨rfl, rfl⟩
          go_wp2_with fail
          refine (validT w1 w.heap.size A nt ct tape (HF.out.1.below b1) (by omega)).mono ?_
          rw [decide_eq_true HV.out]
          rintro e w' ⟨rfl, rfl⟩
          go_wp2_with fail
          go_ret
          exact ⟨rfl, b1⟩
    · have HV := Lib.hid hg
      clear hg
      go_enter Tryz.func4, Tryz.ntmps4
      go_wp2_with fail
      refine HH.out.mono ?_
      rintro e w1 ⟨rfl, b1⟩
      go_wp2_with fail
      refine (few_any w1 A nt ct n hn).mono ?_
      rw [decide_eq_true hf]
      rintro e w' ⟨rfl, rfl⟩
      go_wp2_with fail
      refine (validT w1 w.heap.size A nt ct tape (HF.out.1.below b1) (by omega)).mono ?_
      rw [decide_eq_false HV.out]
      rintro e w' ⟨rfl, rfl⟩
      go_wp2_with fail
      go_ret
      exact ⟨rfl, b1⟩
  · go_enter Tryz.func4, Tryz.ntmps4
    go_wp2_with fail
    refine HH.out.mono ?_
    rintro e w1 ⟨rfl, b1⟩
    go_wp2_with fail
    refine (few_any w1 A nt ct n hn).mono ?_
    rw [decide_eq_false hf]
    rintro e w' ⟨rfl, rfl⟩
    go_wp2_with fail
    go_ret
    exact ⟨rfl, b1⟩
end Go.Proofs.YtdapflgfocideaaGreatDoor
