/- The walk of NoiseConvolves: true. -/
import Derived.Test.YtdapflgfocideaaGreatDoorCases
namespace Go.Proofs.YtdapflgfocideaaGreatDoor
open Go Go.RowKit Go.Deep
open Go.Lib (decDigits)

theorem tbl_few {t : List Int} {n : Nat} (hV : VT t) (hn : n ≤ 6) {L : List (Int × Nat)} (hL : IsTbl L (cnt t n)) : L.length ≤ 1000000000 := by
  have := tbl_len hL; have := cnt_pos hV hn L hL; omega
theorem tbl_small' {t : List Int} {n : Nat} (hV : VT t) (hn : n ≤ 6) {L : List (Int × Nat)} (hL : IsTbl L (cnt t n)) {k : Nat} (hk : L.length = k) (j : Nat) (hj : j < k) : (L.getD j (0, 0)).2 < 1000000000 := tbl_small hV hn hL j (by omega)

theorem tbl_ne {t : List Int} {n : Nat} {L : List (Int × Nat)} (hL : IsTbl L (cnt t n)) {j : Nat} {x : Int} {c : Nat} (hj : j < L.length) (hx : L.getD j (0, 0) = (x, c)) : cnt t n x ≠ 0 := by
  have hm : (x, c) ∈ L := by rw [← hx, List.getD_eq_getElem?_getD, List.getElem?_eq_getElem hj]; exact List.getElem_mem _
  have := (hL.2 x c).1 hm
  omega
theorem cnt_lt {t : List Int} {n : Nat} (hV : VT t) (hn : n ≤ 6) (v : Int) : cnt t n v ≤ 531441 := Nat.le_trans (cnt_bd t hV.2.1 n v) (pow9_le hn)
theorem cnt_lt3 {t : List Int} {n : Nat} (hV : VT t) (hn : n ≤ 3) (v : Int) : cnt t n v ≤ 729 := Nat.le_trans (cnt_bd t hV.2.1 n v) (Nat.le_trans (Nat.pow_le_pow_right (by omega) hn) (by decide))
/-- count's contract in a world of a drawn region. -/
theorem count_regrown {t : List Int} {n : Nat} (hV : VT t) (hn : n ≤ 6) (w : World) (A : Option Addr) (c : Nat) (L : List (Int × Nat)) (v : Int) (K : Nat) (hL : IsTbl L (cnt t n)) (hK : cnt t n v = K) (h : RdO w w.heap.size A L.length L) (d : Nat) (os : Array Obj) :
    Calls Tryz.prog 19 #[.slice A L.length c, .int .i64 v] (Go.Sort.grow (redrawn w d) os) fun e w'' => e = .returned (.int .i64 K) ∧ ∃ p : Regrown, w'' = Go.Sort.grow (redrawn w p.d) p.os := by
  have h1 := count_any (Go.Sort.grow (redrawn w d) os) w.heap.size A L.length c L v (h.below (below_regrown w d os)) (below_regrown w d os).size (tbl_few hV hn hL) (fun j hj => tbl_small hV hn hL j hj)
  rw [lk_tbl hL, hK] at h1
  exact Calls.regrown_of h1

set_option maxHeartbeats 2000000 in
set_option maxRecDepth 100000 in
theorem convs_any (B : Nat) (w : World) (A : Option Addr) (nt ct : Nat) (tape : List Int) (rn rm : Nat) (h : RdI w w.heap.size A nt tape) (hE : Env B w) (hn : nt ≤ 4611686018427387904) (hr : rn < 256) (hs : rm < 256) :
    Calls Tryz.prog 6 #[.slice A nt ct, .int .u8 rn, .int .u8 rm] w fun e w' => e = .returned (.bool true) ∧ Below w.heap.size w w' := by
  have HH := Lib.hid (head_any B w hE)
  have HF := Lib.hid (And.intro h hE)
  obtain ⟨n, hn4⟩ : ∃ n : Nat, n = rn % 4 := ⟨_, rfl⟩
  obtain ⟨m, hm4⟩ : ∃ m : Nat, m = rm % 4 := ⟨_, rfl⟩
  have hw1 : IntKind.i64.wrap (rn : Int) = rn := IntWalk.i64_in _ (by omega)
  have hw2 : IntKind.i64.wrap (rm : Int) = rm := IntWalk.i64_in _ (by omega)
  have hmod1 : (rn : Int).tmod 4 = (n : Int) := by rw [hn4, Int.tmod_eq_emod_of_nonneg (by omega)]; omega
  have hmod2 : (rm : Int).tmod 4 = (m : Int) := by rw [hm4, Int.tmod_eq_emod_of_nonneg (by omega)]; omega
  have hn3 : n ≤ 3 := by omega
  have hm3 : m ≤ 3 := by omega
  clear hn4 hm4 h hE
  by_cases hf : nt ≤ 12
  · by_cases hg : VT tape
    · have HV := Lib.hid hg
      have hnt : nt ≤ 9 := by rw [← HF.out.1.length]; exact hg.2.1
      have hnt1 : 1 ≤ nt := by rw [← HF.out.1.length]; exact hg.1
      clear hg
      go_enter Tryz.func6, Tryz.ntmps6
      go_wp2_with fail
      refine HH.out.mono ?_
      rintro e w1 ⟨rfl, b1⟩
      have B1 := Lib.hid b1
      clear b1
      go_wp2_with fail
      refine (few_any w1 A nt ct _ hn).mono ?_
      rw [decide_eq_true ⟨hf, .inl (by omega)⟩]
      rintro e w' ⟨rfl, rfl⟩
      go_wp2_with fail
      refine (validT w1 w.heap.size A nt ct tape (HF.out.1.below B1.out) (by omega)).mono ?_
      rw [decide_eq_true HV.out]
      rintro e w' ⟨rfl, rfl⟩
      go_wp2_with fail
      refine (dist_good B w1 A nt ct tape n (HF.out.1.up B1.out) HV.out (by omega) (HF.out.2.up B1.out)).mono ?_
      rintro e w2 ⟨La, hLa, Aa, ca, rfl, la, ra, _, b2⟩
      have B2 := Lib.hid (B1.out.trans (b2.mono B1.out.size))
      have TA := Lib.hid hLa
      have RA := Lib.hid ra
      clear b2 hLa ra
      go_wp2_with fail
      refine (dist_good B w2 A nt ct tape m (HF.out.1.up B2.out) HV.out (by omega) (HF.out.2.up B2.out)).mono ?_
      rintro e w3 ⟨Lb, hLb, Ab, cb, rfl, lb, rb, _, b3⟩
      have B23 := Lib.hid b3
      have B3 := Lib.hid (B2.out.trans (b3.mono B2.out.size))
      have TB := Lib.hid hLb
      have RB := Lib.hid rb
      clear b3 hLb rb
      go_wp2_with fail
      refine (dist_good B w3 A nt ct tape (n + m) (HF.out.1.up B3.out) HV.out (by omega) (HF.out.2.up B3.out)).mono ?_
      rintro e w4 ⟨Lc, hLc, Ac, cc, rfl, lc, rc, _, b4⟩
      have B34 := Lib.hid b4
      have B4 := Lib.hid (B3.out.trans (b4.mono B3.out.size))
      have TC := Lib.hid hLc
      have RC := Lib.hid rc
      have FA := Lib.hid ((RA.out.up B23.out).up B34.out)
      have FB := Lib.hid (RB.out.up B34.out)
      have na := tbl_few HV.out (by omega) TA.out
      have nb := tbl_few HV.out (by omega) TB.out
      have nc := tbl_few HV.out (by omega) TC.out
      clear b4 hLc rc
      go_wp2_with fail
      go_loopg [16] La.length (fun gk s16 wr => ∃ i : Nat, s16 = .int .i64 i ∧ i ≤ La.length ∧ gk = La.length - i ∧ Hid (Below w4.heap.size w4 wr))
      case atStart => exact ⟨0, rfl, Nat.zero_le _, rfl, Lib.hid (Below.refl _ _)⟩
      case round =>
        obtain ⟨i, rfl, hi, rfl, hbr⟩ := hrel
        by_cases hil : i < La.length
        · have hilz : (i : Int) < La.length := by omega
          obtain ⟨wq, hwq⟩ : ∃ W, W = wr := ⟨_, rfl⟩
          rw [← hwq] at hbr ⊢
          clear hwq
          go_wp2_with fail
          go_loopg [17] Lb.length (fun gk s17 wr => ∃ k : Nat, s17 = .int .i64 k ∧ k ≤ Lb.length ∧ gk = Lb.length - k ∧ Hid (Below w4.heap.size w4 wr))
          case atStart => exact ⟨0, rfl, Nat.zero_le _, rfl, hbr⟩
          case round =>
            obtain ⟨k, rfl, hk, rfl, hbx⟩ := hrel
            by_cases hkl : k < Lb.length
            · have hklz : (k : Int) < Lb.length := by omega
              obtain ⟨ga, oa, x, cx, hA1, _, c1, _, hx⟩ := (FA.out.below hbx.out).at hil
              obtain ⟨gb, ob, y, cy, hB1, _, c2, _, hy⟩ := (FB.out.below hbx.out).at hkl
              subst hA1
              subst hB1
              have k1 := cell_regrown c1
              have k2 := cell_regrown c2
              obtain ⟨K, hK⟩ : ∃ K, cnt tape (n + m) (x + y) = K := ⟨_, rfl⟩
              have hK0 : K ≠ 0 := by rw [← hK]; exact sums_add_mem (tbl_ne TA.out hil hx.out) (tbl_ne TB.out hkl hy.out)
              have hKb : ((K : Int) == 0) = false := by rw [beq_eq_false_iff_ne]; omega
              have cQ := count_regrown HV.out (by omega) wr Ac cc Lc (x + y) K TC.out hK (RC.out.up hbx.out)
              have v1 := cnt_sup tape HV.out.2.2 n x (tbl_ne TA.out hil hx.out)
              have v2 := cnt_sup tape HV.out.2.2 m y (tbl_ne TB.out hkl hy.out)
              have v3 : -300 ≤ x ∧ x ≤ 300 := by omega
              have v4 : -300 ≤ y ∧ y ≤ 300 := by omega
              have hwxy : IntKind.i64.wrap (x + y) = x + y := IntWalk.i64_in _ (by omega)
              clear v1 v2 v3 v4 hK
              go_wp2_with fail
              refine wp_region_quiet_below (by kernel_rfl) (by kernel_rfl) ?_
              repeat (quiet_step (with_reducible exact cQ _ _))
              refine wpQuiet_nil ?_
              intro _ hw'
              obtain ⟨⟨dq, osq⟩, hw''⟩ := hw'
              subst hw''
              have hbn : Hid (Below w4.heap.size w4 (Go.Sort.grow (redrawn wr dq) osq)) := Lib.hid (hbx.out.trans ((below_regrown wr dq osq).mono hbx.out.size))
              go_wp2_with fail
              go_roundg (Lb.length - (k + 1))
              case measure => omega
              case rel => exact ⟨k + 1, by go_num, by omega, rfl, hbn⟩
            · obtain rfl : k = Lb.length := by omega
              go_wp2_with fail
              go_roundg (La.length - (i + 1))
              case measure => omega
              case rel => exact ⟨i + 1, by go_num, by omega, rfl, hbx⟩
        · obtain rfl : i = La.length := by omega
          obtain ⟨wq, hwq⟩ : ∃ W, W = wr := ⟨_, rfl⟩
          rw [← hwq] at hbr ⊢
          clear hwq
          go_wp2_with fail
          go_loopg [18] Lc.length (fun gk s18 wr => ∃ j : Nat, s18 = .int .i64 j ∧ j ≤ Lc.length ∧ gk = Lc.length - j ∧ Hid (Below w4.heap.size w4 wr))
          case atStart => exact ⟨0, rfl, Nat.zero_le _, rfl, hbr⟩
          case round =>
            obtain ⟨j, rfl, hj, rfl, hbj⟩ := hrel
            by_cases hjl : j < Lc.length
            · have hjlz : (j : Int) < Lc.length := by omega
              obtain ⟨z, hz⟩ : ∃ z, z = (Lc.getD j (0, 0)).1 := ⟨_, rfl⟩
              have HZ := Lib.hid hz
              have z0 : cnt tape (n + m) z ≠ 0 := by rw [hz]; exact tbl_ne (c := (Lc.getD j (0, 0)).2) TC.out hjl rfl
              have v0 := cnt_sup tape HV.out.2.2 (n + m) z z0
              have HPZ := Lib.hid (prods_tbl (m := m) TA.out z)
              have vz : -300 ≤ z ∧ z ≤ 300 := by omega
              have hzb := cnt_lt HV.out (show n + m ≤ 6 by omega) z
              clear z0 v0 hz
              go_wp2_with fail
              go_loopg [19, 20] La.length (fun gk s19 s20 wr => ∃ i q : Nat, s20 = .int .i64 i ∧ i ≤ La.length ∧ gk = La.length - i ∧ s19 = .int .i64 q ∧ Hid (q = prods (cnt tape n) (cnt tape m) z (La.take i)) ∧ Hid (Below w4.heap.size w4 wr))
              case atStart => exact ⟨0, 0, rfl, Nat.zero_le _, rfl, rfl, Lib.hid rfl, hbj⟩
              case round =>
                obtain ⟨i, q, rfl, hi, rfl, rfl, hq, hbx⟩ := hrel
                by_cases hil : i < La.length
                · have hilz : (i : Int) < La.length := by omega
                  obtain ⟨ga, oa, x, cx, hA1, _, c1, _, hx⟩ := (FA.out.below hbx.out).at hil
                  obtain ⟨gc, oc, z', cz, hC1, _, c2, _, hz'⟩ := (RC.out.below hbx.out).at hjl
                  obtain rfl : z' = z := by rw [HZ.out, hz'.out]
                  subst hA1
                  subst hC1
                  have k1 := cell_regrown c1
                  have k2 := cell_regrown c2
                  obtain ⟨K1, hK1⟩ : ∃ K, cnt tape n x = K := ⟨_, rfl⟩
                  obtain ⟨K2, hK2⟩ : ∃ K, cnt tape m (z' - x) = K := ⟨_, rfl⟩
                  obtain ⟨P, hP⟩ : ∃ P, P = K1 * K2 := ⟨_, rfl⟩
                  have hb1 : P ≤ 531441 := by
                    have e1 : K1 ≤ 729 := by rw [← hK1]; exact cnt_lt3 HV.out hn3 x
                    have e2 : K2 ≤ 729 := by rw [← hK2]; exact cnt_lt3 HV.out hm3 _
                    rw [hP]
                    exact Nat.le_trans (Nat.mul_le_mul e1 e2) (by decide)
                  have hs1 := prods_snoc (cnt tape n) (cnt tape m) z' La i hil x cx hx.out
                  rw [hK1, hK2, ← hP, ← hq.out] at hs1
                  have hs2 := prods_take (cnt tape n) (cnt tape m) z' La (i + 1)
                  rw [hs1, HPZ.out] at hs2
                  have hqb : q + P ≤ 531441 := Nat.le_trans hs2 hzb
                  have hwm : IntKind.i64.wrap ((K1 : Int) * K2) = ((P : Nat) : Int) := by
                    rw [← Int.natCast_mul, ← hP]; exact IntWalk.i64_in _ (by omega)
                  have hws : IntKind.i64.wrap ((q : Int) + P) = ((q + P : Nat) : Int) := IntWalk.i64_in _ (by omega)
                  have cQ := count_regrown HV.out (by omega) wr (some ⟨ga, oa, none⟩) ca La x K1 TA.out hK1 (FA.out.up hbx.out)
                  have cR := count_regrown HV.out (by omega) wr Ab cb Lb (z' - x) K2 TB.out hK2 (FB.out.up hbx.out)
                  have v1 := cnt_sup tape HV.out.2.2 n x (tbl_ne TA.out hil hx.out)
                  have hwzx : IntKind.i64.wrap (z' - x) = z' - x := IntWalk.i64_in _ (by omega)
                  have hnew : Hid (q + P = prods (cnt tape n) (cnt tape m) z' (La.take (i + 1))) := Lib.hid hs1.symm
                  clear v1 hK1 hK2 hP hs1 hs2 hb1 hqb
                  go_wp2_with fail
                  refine wp_region_quiet_below (by kernel_rfl) (by kernel_rfl) ?_
                  repeat (quiet_step (first | with_reducible exact cQ _ _ | with_reducible exact cR _ _))
                  refine wpQuiet_nil ?_
                  intro _ hw'
                  obtain ⟨⟨dq, osq⟩, hw''⟩ := hw'
                  subst hw''
                  have hbn : Hid (Below w4.heap.size w4 (Go.Sort.grow (redrawn wr dq) osq)) := Lib.hid (hbx.out.trans ((below_regrown wr dq osq).mono hbx.out.size))
                  go_wp2_with fail
                  go_roundg (La.length - (i + 1))
                  case measure => omega
                  case rel => exact ⟨i + 1, q + P, by go_num, by omega, rfl, by first | rfl | rw [hws], hnew, hbn⟩
                · obtain rfl : i = La.length := by omega
                  have hqz : cnt tape (n + m) z = q := by rw [hq.out, List.take_of_length_le (Nat.le_refl _), HPZ.out]
                  obtain ⟨gc, oc, z', cz, hC1, _, c2, _, hz'⟩ := (RC.out.below hbx.out).at hjl
                  obtain rfl : z' = z := by rw [HZ.out, hz'.out]
                  have cc1 := count_any wr w4.heap.size Ac Lc.length cc Lc z' (RC.out.below hbx.out) hbx.out.size (tbl_few HV.out (by omega) TC.out) (fun j hj => tbl_small HV.out (by omega) TC.out j hj)
                  rw [lk_tbl TC.out, hqz] at cc1
                  have CC := Lib.hid cc1
                  subst hC1
                  clear cc1 hqz
                  go_wp2_with fail
                  refine CC.out.mono ?_
                  rintro e w5 ⟨rfl, b5⟩
                  have hbn : Hid (Below w4.heap.size w4 w5) := Lib.hid (hbx.out.trans (b5.mono hbx.out.size))
                  have hqq : ((q : Int) != q) = false := by simp
                  clear b5
                  go_wp2_with fail
                  go_roundg (Lc.length - (j + 1))
                  case measure => omega
                  case rel => exact ⟨j + 1, by go_num, by omega, rfl, hbn⟩
            · obtain rfl : j = Lc.length := by omega
              go_wp2_with fail
              go_ret
              exact ⟨by simp, B4.out.trans (hbj.out.mono B4.out.size)⟩
    · have HV := Lib.hid hg
      clear hg
      go_enter Tryz.func6, Tryz.ntmps6
      go_wp2_with fail
      refine HH.out.mono ?_
      rintro e w1 ⟨rfl, b1⟩
      go_wp2_with fail
      refine (few_any w1 A nt ct _ hn).mono ?_
      rw [decide_eq_true ⟨hf, .inl (by omega)⟩]
      rintro e w' ⟨rfl, rfl⟩
      go_wp2_with fail
      refine (validT w1 w.heap.size A nt ct tape (HF.out.1.below b1) (by omega)).mono ?_
      rw [decide_eq_false HV.out]
      rintro e w' ⟨rfl, rfl⟩
      go_wp2_with fail
      go_ret
      exact ⟨rfl, b1⟩
  · go_enter Tryz.func6, Tryz.ntmps6
    go_wp2_with fail
    refine HH.out.mono ?_
    rintro e w1 ⟨rfl, b1⟩
    go_wp2_with fail
    refine (few_any w1 A nt ct _ hn).mono ?_
    rw [decide_eq_false (fun h => hf h.1)]
    rintro e w' ⟨rfl, rfl⟩
    go_wp2_with fail
    go_ret
    exact ⟨rfl, b1⟩
end Go.Proofs.YtdapflgfocideaaGreatDoor
