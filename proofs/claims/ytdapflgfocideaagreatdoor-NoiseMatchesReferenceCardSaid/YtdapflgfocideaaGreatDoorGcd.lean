/- Contracts of natural.Div, Gcd, rational.lowest, Make at numerals. Conditions: numbers below 10^9. -/
import Derived.Test.YtdapflgfocideaaGreatDoorDiv
import Derived.Deep.LoopGhost
namespace Go.Proofs.YtdapflgfocideaaGreatDoor
open Go Go.RowKit Go.Deep
open Go.Lib (decDigits)

theorem ds_toList (m : Nat) : (ds m).toList = decDigits m := by rw [Lib.toList_data, ds_list]
theorem ds_is0 (m : Nat) : ((ds m).toList == [48]) = decide (m = 0) := by
  rw [ds_toList]
  have e : decDigits 0 = [48] := by rw [dec_unfold]; rfl
  rw [← e, Bool.eq_iff_iff]
  simp only [beq_iff_eq, decide_eq_true_eq]
  exact ⟨fun h => dec_inj h, fun h => by rw [h]⟩
theorem ds_is1 (m : Nat) : ((ds m).toList == [49]) = decide (m = 1) := by
  rw [ds_toList]
  have e : decDigits 1 = [49] := by rw [dec_unfold]; rfl
  rw [← e, Bool.eq_iff_iff]
  simp only [beq_iff_eq, decide_eq_true_eq]
  exact ⟨fun h => dec_inj h, fun h => by rw [h]⟩

set_option maxHeartbeats 1000000 in
theorem divn_aux (B : Nat) (w : World) (a b q r : Nat) (hQ : Hid (q = a / b ∧ r = a % b)) (ha : a < 1000000000) (hb0 : 0 < b) (hb : b < 1000000000) (hE : Env B w) :
    Calls Tryz.prog 37 #[.string (ds a), .string (ds b)] w fun e w' => e = .returned (.tuple #[.string (ds q), .string (ds r), .int .i64 0]) ∧ Below w.heap.size w w' := by
  have V1 := Lib.hid (valid_any a (by omega))
  have V2 := Lib.hid (valid_any b (by omega))
  have R1 := Lib.hid (fun W => read_any W a (by omega))
  have R2 := Lib.hid (fun W => read_any W b (by omega))
  have HE := Lib.hid hE
  have HF := Lib.hid (And.intro ha (And.intro hb0 hb))
  have hne : ((ds b).toList == [48]) = false := by rw [ds_is0]; simp; omega
  clear ha hb0 hb hE
  go_enter Tryz.func37, Tryz.ntmps37
  go_wp2_with fail
  refine (V1.out _).mono ?_
  rintro e w1 ⟨rfl, hb1⟩
  go_wp2_with fail
  refine (V2.out _).mono ?_
  rintro e w2 ⟨rfl, hb2⟩
  go_wp2_with fail
  refine (R1.out _).mono ?_
  rintro e w3 ⟨A1, n1, c1, rfl, hc1, hr1, hb3⟩
  have Q1 := Lib.hid hr1
  clear hr1
  go_wp2_with fail
  refine (R2.out _).mono ?_
  rintro e w4 ⟨A2, n2, c2, rfl, hc2, hr2, hb4⟩
  have Q2 := Lib.hid hr2
  clear hr2
  go_wp2_with fail
  refine (div_any w4 A1 A2 n1 c1 n2 c2 a b (Q1.out.up hb4) Q2.out HF.out.1 HF.out.2.1 HF.out.2.2).mono ?_
  rintro e w5 ⟨A3, n3, c3, A4, n4, c4, rfl, hc3, hc4, hr3, hr4, hb5⟩
  have Q3 := Lib.hid hr3
  have Q4 := Lib.hid hr4
  clear hr3 hr4
  have hall : Below w.heap.size w w5 := (((hb1.trans (hb2.mono hb1.size)).trans (hb3.mono (Nat.le_trans hb1.size hb2.size))).trans (hb4.mono (by have := hb1.size; have := hb2.size; have := hb3.size; omega))).trans (hb5.mono (by have := hb1.size; have := hb2.size; have := hb3.size; have := hb4.size; omega))
  have HQM : Hid (q < 1000000000 ∧ r < 1000000000) := by
    rw [hQ.out.1, hQ.out.2]
    exact Lib.hid ⟨Nat.lt_of_le_of_lt (Nat.div_le_self _ _) HF.out.1, Nat.lt_of_lt_of_le (Nat.mod_lt _ HF.out.2.1) (by have := HF.out.2.2; omega)⟩
  rw [← hQ.out.1] at Q3
  rw [← hQ.out.2] at Q4
  go_wp2_with fail
  refine (text_any B w5 A3 n3 c3 q Q3.out HQM.out.1 (HE.out.up hall)).mono ?_
  rintro e w6 ⟨rfl, hb6⟩
  go_wp2_with fail
  refine (text_any B w6 A4 n4 c4 r (Q4.out.up hb6) HQM.out.2 (HE.out.up (hall.trans (hb6.mono hall.size)))).mono ?_
  rintro e w7 ⟨rfl, hb7⟩
  go_wp2_with fail
  go_ret3
  exact ⟨rfl, (hall.trans (hb6.mono hall.size)).trans (hb7.mono (Nat.le_trans hall.size hb6.size))⟩

theorem divn_call (B : Nat) (w : World) (a b : Nat) (ha : a < 1000000000) (hb0 : 0 < b) (hb : b < 1000000000) (hE : Env B w) :
    Calls Tryz.prog 37 #[.string (ds a), .string (ds b)] w fun e w' => e = .returned (.tuple #[.string (ds (a / b)), .string (ds (a % b)), .int .i64 0]) ∧ Below w.heap.size w w' :=
  divn_aux B w a b _ _ (Lib.hid ⟨rfl, rfl⟩) ha hb0 hb hE

set_option maxHeartbeats 1000000 in
theorem gcdL_any (w : World) (A1 A2 : Option Addr) (n1 c1 n2 c2 a b : Nat) (h1 : RdI w w.heap.size A1 n1 (lm a)) (h2 : RdI w w.heap.size A2 n2 (lm b)) (hc1 : n1 ≤ c1) (hc2 : n2 ≤ c2) (ha : a < 1000000000) (hb : b < 1000000000) :
    Calls Tryz.prog 83 #[.slice A1 n1 c1, .slice A2 n2 c2] w fun e w' => ∃ A n c, e = .returned (.slice A n c) ∧ RdI w' w'.heap.size A n (lm (Nat.gcd a b)) ∧ Below w.heap.size w w' := by
  have H1 := Lib.hid h1
  have H2 := Lib.hid h2
  have HF := Lib.hid (And.intro ha hb)
  clear h1 h2 ha hb
  go_enter Tryz.func83, Tryz.ntmps83
  go_wp2
  go_loopg [0, 1] b (fun gk x y wr => ∃ A n c A' n' c', ∃ p q : Nat, x = .slice A n c ∧ y = .slice A' n' c' ∧ Below w.heap.size w wr ∧ n' ≤ 1 ∧ Hid (q ≤ gk ∧ n' = (lm q).length ∧ q < 1000000000 ∧ p < 1000000000 ∧ Nat.gcd p q = Nat.gcd a b ∧ RdI wr wr.heap.size A n (lm p) ∧ RdI wr wr.heap.size A' n' (lm q)))
  case atStart => exact ⟨A1, n1, c1, A2, n2, c2, a, b, rfl, rfl, Below.refl _ _, by rw [← H2.out.length]; exact lm_len1 b HF.out.2, Lib.hid ⟨Nat.le_refl _, H2.out.length.symm, HF.out.2, HF.out.1, rfl, H1.out, H2.out⟩⟩
  case round =>
    obtain ⟨A, n, c, A', n', c', p, q, rfl, rfl, hbr, hn1, hinv⟩ := hrel
    rcases n' with _ | n'
    · have hq : q = 0 := by
        have := hinv.out.2.1
        rw [lm_len] at this
        by_cases h : q = 0
        · exact h
        · rw [if_neg h, if_pos hinv.out.2.2.1] at this; omega
      have hg : Nat.gcd a b = p := by rw [← hinv.out.2.2.2.2.1, hq, Nat.gcd_zero_right]
      have HG := Lib.hid hg
      clear hg hq
      go_wp2_with fail
      go_ret
      exact ⟨_, _, _, rfl, by rw [HG.out]; exact hinv.out.2.2.2.2.2.1, hbr⟩
    · obtain rfl : n' = 0 := by omega
      have hq : 0 < q := by
        rcases Nat.eq_zero_or_pos q with h | h
        · have := hinv.out.2.1; rw [h] at this; simp [lm] at this
        · exact h
      go_wp2_with fail
      refine (div_any wr A A' n c _ c' p q hinv.out.2.2.2.2.2.1 hinv.out.2.2.2.2.2.2 hinv.out.2.2.2.1 hq hinv.out.2.2.1).mono ?_
      rintro e w5 ⟨A3, n3, c3, A4, n4, c4, rfl, hc3, hc4, hr3, hr4, hb5⟩
      have Q4 := Lib.hid hr4
      clear hr3 hr4
      have hmq : p % q < q := Nat.mod_lt _ hq
      have hn4 : n4 ≤ 1 := by rw [← Q4.out.length]; exact lm_len1 _ (by have := hinv.out.2.2.1; omega)
      have HMQ := Lib.hid hmq
      clear hmq
      go_wp2_with fail
      go_roundg (q - 1)
      case measure => have := hinv.out.1; omega
      case rel =>
        refine ⟨_, _, _, _, _, _, q, p % q, rfl, rfl, hbr.trans (hb5.mono hbr.size), hn4, Lib.hid ⟨by have := HMQ.out; omega, Q4.out.length.symm, by have := HMQ.out; have := hinv.out.2.2.1; omega, hinv.out.2.2.1, ?_, ?_, Q4.out⟩⟩
        · rw [← hinv.out.2.2.2.2.1, Nat.gcd_comm p q, Nat.gcd_rec q p, Nat.gcd_comm]
        · exact hinv.out.2.2.2.2.2.2.up hb5
end Go.Proofs.YtdapflgfocideaaGreatDoor
