/- The walk of NoiseTotals: true. -/
import Derived.Test.YtdapflgfocideaaGreatDoorFew
namespace Go.Proofs.YtdapflgfocideaaGreatDoor
open Go Go.RowKit Go.Deep
open Go.Lib (decDigits)

set_option maxHeartbeats 2000000 in
set_option maxRecDepth 100000 in
theorem totals_any (B Bt : Nat) (w : World) (A : Option Addr) (nt ct : Nat) (tape : List Int) (n : Int) (h : RdI w w.heap.size A nt tape) (hE : Env B w) (hn : nt ≤ 4611686018427387904) :
    Calls Tryz.prog 5 #[.slice A nt ct, .int .i64 n] w fun e w' => e = .returned (.bool true) ∧ Below w.heap.size w w' := by
  have HH := Lib.hid (head_any B w hE)
  have HF := Lib.hid (And.intro h hE)
  by_cases hf : nt ≤ 12 ∧ (n ≤ 6 ∨ 40 < n)
  · by_cases hg : VT tape ∧ 0 ≤ n ∧ n ≤ 40
    · obtain ⟨m, rfl⟩ : ∃ m : Nat, n = m := ⟨n.toNat, by omega⟩
      have hm : m ≤ 6 := by omega
      have HV := Lib.hid hg.1
      have hnt : nt ≤ 9 := by rw [← h.length]; exact hg.1.2.1
      have hnt1 : 1 ≤ nt := by rw [← h.length]; exact hg.1.1
      clear hg h hE hf
      go_enter Tryz.func5, Tryz.ntmps5
      go_wp2_with fail
      refine HH.out.mono ?_
      rintro e w1 ⟨rfl, b1⟩
      have B1 := Lib.hid b1
      clear b1
      go_wp2_with fail
      refine (few_any w1 A nt ct m hn).mono ?_
      rw [decide_eq_true ⟨by omega, .inl (by omega)⟩]
      rintro e w' ⟨rfl, rfl⟩
      go_wp2_with fail
      refine (dist_good B w1 A nt ct tape m (HF.out.1.up B1.out) HV.out hm (HF.out.2.up B1.out)).mono ?_
      rintro e w2 ⟨L, hL, A2, c2, rfl, l2, r2, _, b2⟩
      have B2 := Lib.hid (B1.out.trans (b2.mono B1.out.size))
      have HL := Lib.hid (And.intro hL r2)
      have hll : L.length ≤ 1000000000 := by have := tbl_len hL; have := cnt_pos HV.out hm L hL; omega
      have hl0 : 0 < L.length := by
        have h1 := (cnt_pos HV.out hm L hL).1
        rcases Nat.eq_zero_or_pos L.length with h0 | h0
        · rw [List.eq_nil_of_length_eq_zero h0] at h1; simp [sumAll] at h1
        · exact h0
      have z1 : ((L.length : Int) == 0) = false := by rw [beq_eq_false_iff_ne]; omega
      have z2 : ((nt : Int) == 0) = false := by rw [beq_eq_false_iff_ne]; omega
      clear b2 hL r2
      go_wp2_with fail
      obtain ⟨tb', tf, t0, hA, _, ce, ht0⟩ := (HF.out.1.up B2.out).at (k := 0) (by omega)
      subst hA
      rw [Nat.add_zero] at ce
      have hnt2 : (0 : Int) < nt := by omega
      go_quiet (fail)
      go_wp2_with fail
      have ht0m : t0 ∈ tape := by
        rw [← ht0.out, List.getD_eq_getElem?_getD, List.getElem?_eq_getElem (by have := HF.out.1.length; omega)]; exact List.getElem_mem _
      have HT0 := Lib.hid ht0m
      clear ht0m ce
      go_loopg [8, 9, 10] nt (fun gk s8 s9 s10 wr => ∃ (i : Nat) (lo hi : Int), s10 = .int .i64 i ∧ i ≤ nt ∧ gk = nt - i ∧ s8 = .int .i64 lo ∧ s9 = .int .i64 hi ∧ lo ≤ hi ∧ Hid (lo ∈ tape ∧ hi ∈ tape ∧ ∀ j, j < i → lo ≤ tape.getD j 0 ∧ tape.getD j 0 ≤ hi) ∧ Below w2.heap.size w2 wr)
      case atStart => exact ⟨0, t0, t0, rfl, Nat.zero_le _, rfl, rfl, rfl, Int.le_refl _, Lib.hid ⟨HT0.out, HT0.out, fun j hj => absurd hj (by omega)⟩, below_drewN (Below.refl _ _) _⟩
      case round =>
        obtain ⟨i, lo, hi, rfl, hi1, rfl, rfl, rfl, hlh, hinv, hbr⟩ := hrel
        by_cases hin : i < nt
        · obtain ⟨tb2, tf2, x, hA, _, cx, hx⟩ := ((HF.out.1.up B2.out).below hbr).at hin
          cases hA
          have hinz : (i : Int) < nt := by omega
          have hxm : x ∈ tape := by
            rw [← hx.out, List.getD_eq_getElem?_getD, List.getElem?_eq_getElem (by have := HF.out.1.length; omega)]; exact List.getElem_mem _
          have HX := Lib.hid hxm
          clear hxm
          by_cases d1 : x < lo
          · by_cases d2 : hi < x
            · omega
            · go_wp2_with fail
              go_quiet (fail)
              go_wp2_with fail
              go_roundg (nt - (i + 1))
              case measure => omega
              case rel => exact ⟨i + 1, x, hi, by go_num, by omega, rfl, by first | rfl | (congr 1; omega), by first | rfl | (congr 1; omega), by omega, Lib.hid ⟨HX.out, hinv.out.2.1, fun j hj => by by_cases e : j = i; (subst e; rw [hx.out]; omega); (have := hinv.out.2.2 j (by omega); omega)⟩, below_drewN hbr _⟩
          · by_cases d2 : hi < x
            · go_wp2_with fail
              go_quiet (fail)
              go_wp2_with fail
              go_roundg (nt - (i + 1))
              case measure => omega
              case rel => exact ⟨i + 1, lo, x, by go_num, by omega, rfl, by first | rfl | (congr 1; omega), by first | rfl | (congr 1; omega), by omega, Lib.hid ⟨hinv.out.1, HX.out, fun j hj => by by_cases e : j = i; (subst e; rw [hx.out]; omega); (have := hinv.out.2.2 j (by omega); omega)⟩, below_drewN hbr _⟩
            · go_wp2_with fail
              go_quiet (fail)
              go_wp2_with fail
              go_roundg (nt - (i + 1))
              case measure => omega
              case rel => exact ⟨i + 1, lo, hi, by go_num, by omega, rfl, by first | rfl | (congr 1; omega), by first | rfl | (congr 1; omega), by omega, Lib.hid ⟨hinv.out.1, hinv.out.2.1, fun j hj => by by_cases e : j = i; (subst e; rw [hx.out]; omega); (have := hinv.out.2.2 j (by omega); omega)⟩, below_drewN hbr _⟩
        · obtain rfl : i = nt := by omega
          have hall : ∀ o ∈ tape, lo ≤ o ∧ o ≤ hi := fun o ho => by
            obtain ⟨j, hj, e⟩ := List.getElem_of_mem ho
            have := hinv.out.2.2 j (by have := HF.out.1.length; omega)
            rw [List.getD_eq_getElem?_getD, List.getElem?_eq_getElem hj] at this
            simp only [Option.getD_some, e] at this
            exact this
          have HLO := Lib.hid (And.intro hinv.out.1 (And.intro hinv.out.2.1 hall))
          obtain ⟨W3, hW3⟩ : ∃ W3, W3 = wr := ⟨_, rfl⟩
          rw [← hW3] at hbr ⊢
          clear hinv hall hW3 hlh
          go_wp2_with fail
          have hi9 : i = tape.length := HF.out.1.length.symm
          have HI9 := Lib.hid hi9
          clear hi9
          go_loopg [11, 12] m (fun gk s11 s12 wr => ∃ (k p : Nat), s12 = .int .i64 k ∧ k ≤ m ∧ gk = m - k ∧ s11 = .int .i64 p ∧ p ≤ 531441 ∧ Hid (p = tape.length ^ k) ∧ wr = W3)
          case atStart => exact ⟨0, 1, rfl, Nat.zero_le _, rfl, rfl, by omega, Lib.hid rfl, rfl⟩
          case round =>
            obtain ⟨k, p, rfl, hk, rfl, rfl, hp, hpk, rfl⟩ := hrel
            by_cases hkm : k < m
            · have hpn : p * i ≤ 531441 := by
                rw [hpk.out, HI9.out, ← Nat.pow_succ]
                exact Nat.le_trans (Nat.pow_le_pow_left HV.out.2.1 (k + 1)) (pow9_le (by omega))
              have hw : IntKind.i64.wrap ((p : Int) * i) = ((p * i : Nat) : Int) := by
                rw [← Int.natCast_mul]; exact IntWalk.i64_in _ (by omega)
              have HPN := Lib.hid hpn
              clear hpn
              go_wp2_with fail
              go_roundg (m - (k + 1))
              case measure => omega
              case rel => exact ⟨k + 1, p * i, by go_num, by omega, rfl, by first | rfl | rw [hw], HPN.out, Lib.hid (by rw [hpk.out, HI9.out, ← Nat.pow_succ]), rfl⟩
            · obtain rfl : k = m := by omega
              have HTOT : Hid (p = sumAll L) := Lib.hid (by rw [hpk.out, cnt_total HL.out.1])
              go_wp2_with fail
              go_loopg [13, 14] L.length (fun gk s13 s14 wx => ∃ (j q : Nat), s14 = .int .i64 j ∧ j ≤ L.length ∧ gk = L.length - j ∧ s13 = .int .i64 q ∧ Hid (q = sumAll (L.take j)) ∧ Below w2.heap.size w2 wx)
              case atStart => exact ⟨0, 0, rfl, Nat.zero_le _, rfl, rfl, Lib.hid rfl, hbr⟩
              case round =>
                obtain ⟨j, q, rfl, hj, rfl, rfl, hq, hbx⟩ := hrel
                by_cases hjl : j < L.length
                · obtain ⟨gA, oA, x, c, hA, _, cx, cx', hx⟩ := (HL.out.2.below hbx).at hjl
                  subst hA
                  have hjz : (j : Int) < L.length := by omega
                  have hs1 := sumAll_snoc L j hjl x c hx.out
                  have hs2 := sumAll_take L (j + 1)
                  have hs3 := cnt_pos HV.out hm L HL.out.1
                  have hc0 : c ≠ 0 := by
                    have hmem : (x, c) ∈ L := by rw [← hx.out, List.getD_eq_getElem?_getD, List.getElem?_eq_getElem hjl]; exact List.getElem_mem _
                    exact ((HL.out.1.2 x c).1 hmem).2
                  have hqc : q + c < 1000000000 := by rw [hq.out]; omega
                  have hcb : c < 1000000000 := by omega
                  have HS := Lib.hid hs1
                  clear hs1 hs2 hs3
                  go_wp2_with fail
                  refine (int_call _ c hcb).mono ?_
                  rintro e w4 ⟨rfl, hb4⟩
                  have hb24 : Below w2.heap.size w2 w4 := hbx.trans (hb4.mono hbx.size)
                  have g1 : decide ((c : Int) < 1) = false := by rw [decide_eq_false_iff_not]; omega
                  obtain ⟨_, _, x', c', hA, _, cy, _, hx'⟩ := (HL.out.2.below hb24).at hjl
                  cases hA
                  obtain rfl : x' = x := by have := hx'.out; rw [hx.out] at this; exact (congrArg Prod.fst this).symm
                  clear cx cx' hb4
                  rcases j with _ | j
                  · go_wp2_with fail
                    go_quiet (fail)
                    go_wp2_with fail
                    go_roundg (L.length - (0 + 1))
                    case measure => omega
                    case rel => exact ⟨0 + 1, q + c, by go_num, by omega, rfl, by go_num, Lib.hid (by rw [HS.out, hq.out]), below_drewN hb24 _⟩
                  · obtain ⟨_, _, y, d, hA, _, cp, _, hy⟩ := (HL.out.2.below hb24).at (k := j) (by omega)
                    cases hA
                    have hyx : y < x' := by
                      have hp := HL.out.1.1
                      rw [List.pairwise_iff_getElem] at hp
                      have := hp j (j + 1) (by omega) hjl (by omega)
                      have e1 := hy.out
                      have e2 := hx.out
                      rw [List.getD_eq_getElem?_getD, List.getElem?_eq_getElem (by omega)] at e1
                      rw [List.getD_eq_getElem?_getD, List.getElem?_eq_getElem hjl] at e2
                      simp only [Option.getD_some] at e1 e2
                      rw [e1, e2] at this
                      exact this
                    have g2 : decide (x' ≤ y) = false := by rw [decide_eq_false_iff_not]; omega
                    have g3 : decide ((0 : Int) < ((j + 1 : Nat) : Int)) = true := by rw [decide_eq_true_iff]; omega
                    have g4 : (((j + 1 : Nat) : Int) - 1) = j := by omega
                    go_wp2_with fail
                    go_quiet (fail)
                    go_wp2_with fail
                    go_roundg (L.length - ((j + 1) + 1))
                    case measure => omega
                    case rel => exact ⟨(j + 1) + 1, q + c, by go_num, by omega, rfl, by go_num, Lib.hid (by rw [HS.out, hq.out]), below_drewN hb24 _⟩
                · obtain rfl : j = L.length := by omega
                  have hqp : q = p := by rw [hq.out, HTOT.out, List.take_of_length_le (Nat.le_refl _)]
                  subst hqp
                  obtain ⟨gA, oA, x0, c0, hA, _, cx, _, hx0⟩ := (HL.out.2.below hbx).at hl0
                  obtain ⟨_, _, x1, c1', hA1, _, cz, _, hx1⟩ := (HL.out.2.below hbx).at (k := L.length - 1) (by omega)
                  subst hA
                  cases hA1
                  rw [Nat.zero_mul, Nat.add_zero] at cx
                  have hf := (tbl_first HL.out.1 HLO.out.1 (fun o ho => (HLO.out.2.2 o ho).1)).2
                  have hlst := tbl_last HL.out.1 HLO.out.2.1 (fun o ho => (HLO.out.2.2 o ho).2)
                  rw [hx0.out] at hf
                  rw [hx1.out] at hlst
                  simp only at hf hlst
                  subst hf
                  subst hlst
                  have v1 := HV.out.2.2 lo HLO.out.1
                  have v2 := HV.out.2.2 hi HLO.out.2.1
                  have hw1 : IntKind.i64.wrap ((k : Int) * lo) = (k : Int) * lo := by
                    have h1 : (k : Int) * lo ≤ 6 * 50 := by
                      have := Int.mul_le_mul_of_nonneg_left v1.2 (show (0 : Int) ≤ k by omega)
                      omega
                    have h2 : 6 * (-50) ≤ (k : Int) * lo := by
                      have := Int.mul_le_mul_of_nonneg_left v1.1 (show (0 : Int) ≤ k by omega)
                      omega
                    exact IntWalk.i64_in _ (by omega)
                  have hw2 : IntKind.i64.wrap ((k : Int) * hi) = (k : Int) * hi := by
                    have h1 : (k : Int) * hi ≤ 6 * 50 := by
                      have := Int.mul_le_mul_of_nonneg_left v2.2 (show (0 : Int) ≤ k by omega)
                      omega
                    have h2 : 6 * (-50) ≤ (k : Int) * hi := by
                      have := Int.mul_le_mul_of_nonneg_left v2.1 (show (0 : Int) ≤ k by omega)
                      omega
                    exact IntWalk.i64_in _ (by omega)
                  have hlz : (0 : Int) < L.length := by omega
                  clear v1 v2 hx0 hx1
                  go_wp2_with fail
                  go_ret
                  exact ⟨by simp [hw1, hw2], B2.out.trans (hbx.mono B2.out.size)⟩
    · have hbad : ¬ (VT tape ∧ 0 ≤ n ∧ n ≤ 40) := hg
      have HD := Lib.hid (fun W (hb : Below w.heap.size w W) => dist_bad W w.heap.size A nt ct tape n (h.below hb) hb.size hn hbad)
      clear hg h hE hbad
      go_enter Tryz.func5, Tryz.ntmps5
      go_wp2_with fail
      refine HH.out.mono ?_
      rintro e w1 ⟨rfl, b1⟩
      go_wp2_with fail
      refine (few_any w1 A nt ct n hn).mono ?_
      rw [decide_eq_true hf]
      rintro e w' ⟨rfl, rfl⟩
      go_wp2_with fail
      refine (HD.out w1 b1).mono ?_
      rintro e w2 ⟨rfl, b2⟩
      go_wp2_with fail
      go_ret
      exact ⟨rfl, b1.trans (b2.mono b1.size)⟩
  · clear h hE
    go_enter Tryz.func5, Tryz.ntmps5
    go_wp2_with fail
    refine HH.out.mono ?_
    rintro e w1 ⟨rfl, b1⟩
    go_wp2_with fail
    refine (few_any w1 A nt ct n hn).mono ?_
    rw [decide_eq_false hf]
    rintro e w' ⟨rfl, rfl⟩
    go_wp2_with fail
    go_ret
    exact ⟨rfl, b1⟩
end Go.Proofs.YtdapflgfocideaaGreatDoor
