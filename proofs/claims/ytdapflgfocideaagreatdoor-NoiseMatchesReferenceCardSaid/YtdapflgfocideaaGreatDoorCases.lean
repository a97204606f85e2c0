/- The walk of NoiseCases: true. -/
import Derived.Test.YtdapflgfocideaaGreatDoorCaseLaw
namespace Go.Proofs.YtdapflgfocideaaGreatDoor
open Go Go.RowKit Go.Deep
open Go.Lib (decDigits)

theorem tbl_small {t : List Int} {n : Nat} (hV : VT t) (hn : n ≤ 6) {L : List (Int × Nat)} (hL : IsTbl L (cnt t n)) (j : Nat) (hj : j < L.length) : (L.getD j (0, 0)).2 < 1000000000 := by
  have hm : L.getD j (0, 0) ∈ L := by rw [List.getD_eq_getElem?_getD, List.getElem?_eq_getElem hj]; exact List.getElem_mem _
  generalize L.getD j (0, 0) = p at hm
  have h1 := ((hL.2 _ _).1 hm).1
  have h2 := cnt_bd t hV.2.1 n p.1
  have h3 := pow9_le hn
  omega

theorem wrap_div (r nt : Nat) (h : r ≤ 1000000) : wrap64 ((r : Int) / nt) = ((r / nt : Nat) : Int) := by
  have h2 := Nat.div_le_self r nt
  rw [← Int.natCast_ediv]
  obtain ⟨y, hy⟩ : ∃ y, y = r / nt := ⟨_, rfl⟩
  rw [← hy] at h2 ⊢
  clear hy
  exact IntWalk.wrap64_in _ (by omega)

set_option maxHeartbeats 2000000 in
set_option maxRecDepth 100000 in
theorem cases_any (B : Nat) (w : World) (A : Option Addr) (nt ct : Nat) (tape : List Int) (rn : Nat) (v : Int) (h : RdI w w.heap.size A nt tape) (hE : Env B w) (hn : nt ≤ 4611686018427387904) (hr : rn < 256) :
    Calls Tryz.prog 7 #[.slice A nt ct, .int .u8 rn, .int .i64 v] w fun e w' => e = .returned (.bool true) ∧ Below w.heap.size w w' := by
  have HH := Lib.hid (head_any B w hE)
  have HF := Lib.hid (And.intro h hE)
  obtain ⟨m, hm⟩ : ∃ m : Nat, m = rn % 5 := ⟨_, rfl⟩
  have hw : IntKind.i64.wrap (rn : Int) = rn := IntWalk.i64_in _ (by omega)
  have hmod : (rn : Int).tmod 5 = (m : Int) := by rw [hm, Int.tmod_eq_emod_of_nonneg (by omega)]; omega
  have hm5 : m ≤ 4 := by omega
  clear hm h hE
  by_cases hg : VT tape
  · have HV := Lib.hid hg
    have hnt : nt ≤ 9 := by rw [← HF.out.1.length]; exact hg.2.1
    have hnt1 : 1 ≤ nt := by rw [← HF.out.1.length]; exact hg.1
    clear hg
    go_enter Tryz.func7, Tryz.ntmps7
    go_wp2_with fail
    refine HH.out.mono ?_
    rintro e w1 ⟨rfl, b1⟩
    have B1 := Lib.hid b1
    clear b1
    go_wp2_with fail
    refine (validT w1 w.heap.size A nt ct tape (HF.out.1.below B1.out) (by omega)).mono ?_
    rw [decide_eq_true HV.out]
    rintro e w' ⟨rfl, rfl⟩
    go_wp2_with fail
    refine (dist_good B w1 A nt ct tape m (HF.out.1.up B1.out) HV.out (by omega) (HF.out.2.up B1.out)).mono ?_
    rintro e w2 ⟨L, hL, A2, c2, rfl, l2, r2, _, b2⟩
    have B2 := Lib.hid (B1.out.trans (b2.mono B1.out.size))
    have HL := Lib.hid (And.intro hL r2)
    have hll : L.length ≤ 1000000000 := by have := tbl_len hL; have := cnt_pos HV.out (by omega) L hL; omega
    have z2 : ((nt : Int) == 0) = false := by rw [beq_eq_false_iff_ne]; omega
    clear b2 hL r2
    go_wp2_with fail
    have hi9 : nt = tape.length := HF.out.1.length.symm
    have HI9 := Lib.hid hi9
    have HT := Lib.hid (HF.out.1.up B2.out)
    clear hi9
    go_loopg [11, 12] m (fun gk s11 s12 wr => ∃ (k p : Nat), s12 = .int .i64 k ∧ k ≤ m ∧ gk = m - k ∧ s11 = .int .i64 p ∧ p ≤ 531441 ∧ Hid (p = tape.length ^ k) ∧ w2 = wr)
    case atStart => exact ⟨0, 1, rfl, Nat.zero_le _, rfl, rfl, by omega, Lib.hid rfl, rfl⟩
    case round =>
      obtain ⟨k, p, rfl, hk, rfl, rfl, hp, hpk, rfl⟩ := hrel
      by_cases hkm : k < m
      · have hpn : p * nt ≤ 531441 := by
          rw [hpk.out, HI9.out, ← Nat.pow_succ]
          exact Nat.le_trans (Nat.pow_le_pow_left HV.out.2.1 (k + 1)) (pow9_le (by omega))
        have hwp : IntKind.i64.wrap ((p : Int) * nt) = ((p * nt : Nat) : Int) := by
          rw [← Int.natCast_mul]; exact IntWalk.i64_in _ (by omega)
        have HPN := Lib.hid hpn
        clear hpn
        go_wp2_with fail
        go_roundg (m - (k + 1))
        case measure => omega
        case rel => exact ⟨k + 1, p * nt, by go_num, by omega, rfl, by first | rfl | rw [hwp], HPN.out, Lib.hid (by rw [hpk.out, HI9.out, ← Nat.pow_succ]), rfl⟩
      · obtain rfl : k = m := by omega
        go_wp2_with fail
        go_loopg [13, 14] p (fun gk s13 s14 wx => ∃ (c q : Nat), s14 = .int .i64 c ∧ c ≤ p ∧ gk = p - c ∧ s13 = .int .i64 q ∧ q ≤ c ∧ Hid (q = cases tape k v c) ∧ w2 = wx)
        case atStart => exact ⟨0, 0, rfl, Nat.zero_le _, rfl, rfl, Nat.le_refl _, Lib.hid rfl, rfl⟩
        case round =>
          obtain ⟨c, q, rfl, hc, rfl, rfl, hq, hqc, rfl⟩ := hrel
          by_cases hcp : c < p
          · have hcz : (c : Int) < p := by omega
            go_wp2_with fail
            go_loopg [15, 16, 17] k (fun gk s15 s16 s17 wy => ∃ (i r : Nat) (s : Int), s17 = .int .i64 i ∧ i ≤ k ∧ gk = k - i ∧ s15 = .int .i64 s ∧ s16 = .int .i64 r ∧ r ≤ c ∧ -50 * (i : Int) ≤ s ∧ s ≤ 50 * i ∧ Hid (s + digs tape (k - i) r = digs tape k c) ∧ w2 = wy)
            case atStart => exact ⟨0, c, 0, rfl, Nat.zero_le _, rfl, rfl, rfl, Nat.le_refl _, by omega, by omega, Lib.hid (by simp), rfl⟩
            case round =>
              obtain ⟨i, r, s, rfl, hi, rfl, rfl, rfl, hr, hs1, hs2, hsum, rfl⟩ := hrel
              by_cases hik : i < k
              · have hikz : (i : Int) < k := by omega
                have hlt : r % nt < nt := Nat.mod_lt _ (by omega)
                obtain ⟨tb, tf, x, hA, _, cx, hx⟩ := HT.out.at hlt
                subst hA
                have hm1 : (r : Int).tmod nt = ((r % nt : Nat) : Int) := by rw [Int.tmod_eq_emod_of_nonneg (by omega)]; omega
                have hd1 : (r : Int).tdiv nt = ((r / nt : Nat) : Int) := by rw [Int.tdiv_eq_ediv_of_nonneg (by omega)]; omega
                have hd2 : r / nt ≤ r := Nat.div_le_self _ _
                have hd3 := wrap_div r nt (by omega)
                have hxm : x ∈ tape := by
                  rw [← hx.out, List.getD_eq_getElem?_getD, List.getElem?_eq_getElem (by have := HI9.out; omega)]; exact List.getElem_mem _
                have hx50 := HV.out.2.2 x hxm
                have hnew : Hid (s + x + digs tape (k - (i + 1)) (r / nt) = digs tape k c) := Lib.hid (by
                  have e1 := hsum.out
                  rw [show k - i = (k - (i + 1)) + 1 by omega, digs, ← HI9.out, hx.out] at e1
                  omega)
                have HNZ := Lib.hid hxm
                have hb1 : -50 * ((i + 1 : Nat) : Int) ≤ s + x := by omega
                have hb2 : s + x ≤ 50 * ((i + 1 : Nat) : Int) := by omega
                have hrc : r / nt ≤ c := Nat.le_trans hd2 hr
                clear hxm hsum
                have hnz : ¬ ((nt : Int) = 0) := by omega
                have hnt0 : (0 : Int) < nt := by omega
                go_wp2_with fail
                go_roundg (k - (i + 1))
                case measure => omega
                case rel => exact ⟨i + 1, r / nt, s + x, by go_num, by omega, rfl, by first | rfl | go_num, congrArg (Value.int .i64) hd3, hrc, hb1, hb2, hnew, rfl⟩
              · obtain rfl : i = k := by omega
                have hdone : s = digs tape i c := by have := hsum.out; rw [Nat.sub_self] at this; simp only [digs] at this; omega
                have hcs := cases_succ tape i v c
                rw [← hdone] at hcs
                have HCS := Lib.hid hcs
                clear hcs hsum hdone
                by_cases hsv : s = v
                · have hnew : Hid (q + 1 = cases tape i v (c + 1)) := Lib.hid (by rw [HCS.out, if_pos hsv, hqc.out])
                  have hsb : (s == v) = true := by rw [beq_iff_eq]; exact hsv
                  go_wp2_with fail
                  go_roundg (p - (c + 1))
                  case measure => omega
                  case rel => exact ⟨c + 1, q + 1, by go_num, by omega, rfl, by first | rfl | go_num, by omega, hnew, rfl⟩
                · have hnew : Hid (q = cases tape i v (c + 1)) := Lib.hid (by rw [HCS.out, if_neg hsv, hqc.out]; rfl)
                  have hsb : (s == v) = false := by rw [beq_eq_false_iff_ne]; exact hsv
                  go_wp2_with fail
                  go_roundg (p - (c + 1))
                  case measure => omega
                  case rel => exact ⟨c + 1, q, by go_num, by omega, rfl, rfl, by omega, hnew, rfl⟩
          · obtain rfl : c = p := by omega
            have hq : lk v L = q := by
              rw [lk_tbl HL.out.1, hqc.out, hpk.out, cases_all]
            have HQ := Lib.hid hq
            clear hq
            go_wp2_with fail
            refine (count_any w2 w2.heap.size A2 L.length c2 L v HL.out.2 (Nat.le_refl _) hll (fun j hj => tbl_small HV.out (by omega) HL.out.1 j hj)).mono ?_
            rw [HQ.out]
            rintro e w5 ⟨rfl, b5⟩
            go_wp2_with fail
            go_ret
            exact ⟨by simp, B2.out.trans (b5.mono B2.out.size)⟩
  · have HV := Lib.hid hg
    clear hg
    go_enter Tryz.func7, Tryz.ntmps7
    go_wp2_with fail
    refine HH.out.mono ?_
    rintro e w1 ⟨rfl, b1⟩
    go_wp2_with fail
    refine (validT w1 w.heap.size A nt ct tape (HF.out.1.below b1) (by omega)).mono ?_
    rw [decide_eq_false HV.out]
    rintro e w' ⟨rfl, rfl⟩
    go_wp2_with fail
    go_ret
    exact ⟨rfl, b1⟩
end Go.Proofs.YtdapflgfocideaaGreatDoor
