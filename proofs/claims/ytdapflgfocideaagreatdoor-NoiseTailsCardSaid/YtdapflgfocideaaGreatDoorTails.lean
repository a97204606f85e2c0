/- The walk of NoiseTails: true. -/
import Derived.Test.YtdapflgfocideaaGreatDoorCmp
namespace Go.Proofs.YtdapflgfocideaaGreatDoor
open Go Go.RowKit Go.Deep
open Go.Lib (decDigits)
attribute [local go_sem] guardO guardR

theorem low_of (a b : Nat) (ha : a < 1000000000) (hb0 : 0 < b) (hb : b < 1000000000) : Low (lowN a b) (lowD a b) := by
  unfold lowN lowD
  by_cases h : a = 0
  · rw [if_pos h, if_pos h]
    exact ⟨by omega, by omega, by omega, fun _ => rfl, by simp⟩
  · rw [if_neg h, if_neg h]
    have hg : 0 < Nat.gcd a b := Nat.gcd_pos_of_pos_right _ hb0
    have h1 : a / Nat.gcd a b ≤ a := Nat.div_le_self _ _
    have h2 : b / Nat.gcd a b ≤ b := Nat.div_le_self _ _
    refine ⟨by omega, Nat.div_pos (Nat.le_of_dvd hb0 (Nat.gcd_dvd_right a b)) hg, by omega, fun e => ?_, Nat.coprime_div_gcd_div_gcd hg⟩
    have : 0 < a / Nat.gcd a b := Nat.div_pos (Nat.le_of_dvd (by omega) (Nat.gcd_dvd_left a b)) hg
    omega
theorem low_cross (a b : Nat) (hb0 : 0 < b) : lowN a b * b = a * lowD a b := by
  unfold lowN lowD
  by_cases h : a = 0
  · simp [h]
  · rw [if_neg h, if_neg h]
    obtain ⟨c, hc⟩ := Nat.gcd_dvd_left a b
    obtain ⟨d, hd⟩ := Nat.gcd_dvd_right a b
    have hg : 0 < Nat.gcd a b := Nat.gcd_pos_of_pos_right _ hb0
    generalize Nat.gcd a b = g at *
    subst hc
    subst hd
    rw [Nat.mul_div_cancel_left _ hg, Nat.mul_div_cancel_left _ hg]
    rw [Nat.mul_left_comm, Nat.mul_assoc]
theorem low_le {a a' b : Nat} (h : a ≤ a') (hb0 : 0 < b) : lowN a b * lowD a' b ≤ lowN a' b * lowD a b := by
  have e1 := low_cross a b hb0
  have e2 := low_cross a' b hb0
  have h1 : lowN a b * lowD a' b * b ≤ lowN a' b * lowD a b * b := by
    have f1 : lowN a b * lowD a' b * b = a * lowD a b * lowD a' b := by rw [Nat.mul_right_comm, e1]
    have f2 : lowN a' b * lowD a b * b = a' * lowD a' b * lowD a b := by rw [Nat.mul_right_comm, e2]
    rw [f1, f2, Nat.mul_right_comm]
    exact Nat.mul_le_mul_right _ (Nat.mul_le_mul_right _ h)
  exact Nat.le_of_mul_le_mul_right h1 hb0
theorem low_same {p q r s : Nat} (h1 : Low p q) (h2 : Low r s) (h : p * s = r * q) : p = r ∧ q = s := by
  have c1 : Nat.Coprime p q := h1.cop
  have c2 : Nat.Coprime r s := h2.cop
  have d1 : q ∣ s := c1.symm.dvd_of_dvd_mul_left ⟨r, by rw [h, Nat.mul_comm]⟩
  have d2 : s ∣ q := c2.symm.dvd_of_dvd_mul_left ⟨p, by rw [← h, Nat.mul_comm]⟩
  have hq := Nat.dvd_antisymm d1 d2
  subst hq
  exact ⟨Nat.eq_of_mul_eq_mul_right h1.q0 h, rfl⟩
theorem sumGe_mono (least : Int) (L : List (Int × Nat)) : sumGe (least + 1) L ≤ sumGe least L := by
  induction L with
  | nil => simp [sumGe]
  | cons p L ih =>
    unfold sumGe at ih ⊢
    rw [List.filter_cons, List.filter_cons]
    by_cases h1 : least + 1 ≤ p.1
    · have h2 : least ≤ p.1 := by omega
      rw [if_pos (by simp [h1]), if_pos (by simp [h2])]
      simp only [List.map_cons, List.sum_cons]; omega
    · rw [if_neg (by simp; omega)]
      by_cases h2 : least ≤ p.1
      · rw [if_pos (by simp [h2])]
        simp only [List.map_cons, List.sum_cons]; omega
      · rw [if_neg (by simp; omega)]
        exact ih
theorem lowS_false (a : Nat) : lowS false a = false := by unfold lowS; split <;> rfl

set_option maxHeartbeats 1000000 in
theorem rcmp_same (B : Nat) (p q : Nat) (h1 : Low p q) (w : World) (hE : Env B w) :
    Calls Tryz.prog 21 #[.agg #[.bool false, .string (ds p), .string (ds q)], .agg #[.bool false, .string (ds p), .string (ds q)]] w fun e w' => e = .returned (.int .i64 0) ∧ Below w.heap.size w w' := by
  have HE := Lib.hid hE
  have H1 := Lib.hid h1
  have k0 : Blk ((w.alloc (.cells #[.bool false, .string (ds p), .string (ds q)] 31)).alloc (.cells #[.bool false, .string (ds p), .string (ds q)] 31)) w.heap.size 31 #[.bool false, .string (ds p), .string (ds q)] := (Blk.new _ _ _).alloc _
  have k1 : Blk ((w.alloc (.cells #[.bool false, .string (ds p), .string (ds q)] 31)).alloc (.cells #[.bool false, .string (ds p), .string (ds q)] 31)) (w.heap.size + 1) 31 #[.bool false, .string (ds p), .string (ds q)] := by
    have := Blk.new (w.alloc (.cells #[.bool false, .string (ds p), .string (ds q)] 31)) 31 #[.bool false, .string (ds p), .string (ds q)]
    simpa using this
  have b0 : Below w.heap.size w ((w.alloc (.cells #[.bool false, .string (ds p), .string (ds q)] 31)).alloc (.cells #[.bool false, .string (ds p), .string (ds q)] 31)) := ((Below.refl _ _).alloc (Nat.le_refl _) _).alloc (by simp) _
  obtain ⟨W0, hW0⟩ : ∃ W, W = (w.alloc (.cells #[.bool false, .string (ds p), .string (ds q)] 31)).alloc (.cells #[.bool false, .string (ds p), .string (ds q)] 31) := ⟨_, rfl⟩
  rw [← hW0] at k0 k1 b0
  have K0 := Lib.hid k0
  have K1 := Lib.hid k1
  have B0 := Lib.hid b0
  clear hE h1 k0 k1 b0
  go_enter Tryz.func21, Tryz.ntmps21
  go_wp2_with fail
  rw [← hW0]
  clear hW0
  refine (ratvalid_any B p q H1.out W0 (HE.out.up B0.out)).mono ?_
  rintro e w1 ⟨rfl, hb1⟩
  have B1 := Lib.hid hb1
  have kk := K1.out.below hb1 K1.out.lt
  have d0 : w1.cell? ⟨w.heap.size + 1, 0, none⟩ = some (.bool false) := by rw [kk.cell]; rfl
  have d1 : w1.cell? ⟨w.heap.size + 1, 1, none⟩ = some (.string (ds p)) := by rw [kk.cell]; rfl
  have d2 : w1.cell? ⟨w.heap.size + 1, 2, none⟩ = some (.string (ds q)) := by rw [kk.cell]; rfl
  clear hb1 kk
  go_wp2_with fail
  refine (ratvalid_any B p q H1.out w1 ((HE.out.up B0.out).up B1.out)).mono ?_
  rintro e w2 ⟨rfl, hb2⟩
  have B2 := Lib.hid (B1.out.trans (hb2.mono B1.out.size))
  have kk := K1.out.below B2.out K1.out.lt
  have kj := K0.out.below B2.out K0.out.lt
  have e0 : w2.cell? ⟨w.heap.size + 1, 0, none⟩ = some (.bool false) := by rw [kk.cell]; rfl
  have e1 : w2.cell? ⟨w.heap.size + 1, 1, none⟩ = some (.string (ds p)) := by rw [kk.cell]; rfl
  have e2 : w2.cell? ⟨w.heap.size + 1, 2, none⟩ = some (.string (ds q)) := by rw [kk.cell]; rfl
  have c0 : w2.cell? ⟨w.heap.size, 0, none⟩ = some (.bool false) := by rw [kj.cell]; rfl
  have c1 : w2.cell? ⟨w.heap.size, 1, none⟩ = some (.string (ds p)) := by rw [kj.cell]; rfl
  have c2 : w2.cell? ⟨w.heap.size, 2, none⟩ = some (.string (ds q)) := by rw [kj.cell]; rfl
  clear hb2 kk kj d0 d1 d2
  go_wp2_with fail
  go_ret
  exact ⟨rfl, B0.out.trans (B2.out.mono B0.out.size)⟩
theorem rcmp_call (B : Nat) (p q r s : Nat) (h1 : Low p q) (h2 : Low r s) (hle : p * s ≤ r * q) (w : World) (hE : Env B w) :
    Calls Tryz.prog 21 #[.agg #[.bool false, .string (ds p), .string (ds q)], .agg #[.bool false, .string (ds r), .string (ds s)]] w fun e w' => ∃ x : Int, e = .returned (.int .i64 x) ∧ x ≤ 0 ∧ Below w.heap.size w w' := by
  by_cases h : p * s = r * q
  · obtain ⟨rfl, rfl⟩ := low_same h1 h2 h
    exact (rcmp_same B p q h1 w hE).mono fun e w' ⟨he, hb⟩ => ⟨0, he, Int.le_refl _, hb⟩
  · exact (rcmp_less B p q r s h1 h2 (by omega) w hE).mono fun e w' ⟨he, hb⟩ => ⟨-1, he, by omega, hb⟩

set_option maxHeartbeats 2000000 in
set_option maxRecDepth 100000 in
theorem tails_any (B : Nat) (w : World) (A : Option Addr) (nt ct : Nat) (tape : List Int) (n least : Int) (h : RdI w w.heap.size A nt tape) (hE : Env B w) (hn : nt ≤ 4611686018427387904) :
    Calls Tryz.prog 8 #[.slice A nt ct, .int .i64 n, .int .i64 least] w fun e w' => e = .returned (.bool true) ∧ Below w.heap.size w w' := by
  have HH := Lib.hid (head_any B w hE)
  have HF := Lib.hid (And.intro h hE)
  clear h hE
  by_cases hf : nt ≤ 12 ∧ (n ≤ 6 ∨ 40 < n)
  · by_cases hs : -10000 ≤ least ∧ least ≤ 10000
    · have hs1 : ¬ least < -10000 := by omega
      have hs2 : ¬ 10000 < least := by omega
      have hwl : IntKind.i64.wrap (least + 1) = least + 1 := IntWalk.i64_in _ (by omega)
      by_cases hg : VT tape ∧ 0 ≤ n ∧ n ≤ 40
      · obtain ⟨m, rfl⟩ : ∃ m : Nat, n = m := ⟨n.toNat, by omega⟩
        have hm : m ≤ 6 := by omega
        have HV := Lib.hid hg.1
        clear hg
        go_enter Tryz.func8, Tryz.ntmps8
        go_wp2_with fail
        refine HH.out.mono ?_
        rintro e w1 ⟨rfl, b1⟩
        have B1 := Lib.hid b1
        clear b1
        go_wp2_with fail
        refine (few_any w1 A nt ct m hn).mono ?_
        rw [decide_eq_true hf]
        rintro e w' ⟨rfl, rfl⟩
        go_wp2_with fail
        refine (dist_good B w1 A nt ct tape m (HF.out.1.up B1.out) HV.out hm (HF.out.2.up B1.out)).mono ?_
        rintro e w2 ⟨L, hL, A2, c2, rfl, l2, r2, _, b2⟩
        have B2 := Lib.hid (B1.out.trans (b2.mono B1.out.size))
        have HL := Lib.hid (And.intro hL r2)
        have hpos := cnt_pos HV.out hm L hL
        have nl := tbl_few HV.out hm hL
        have HP := Lib.hid (fun M (hM : IsTbl M (cnt tape m)) => cnt_pos HV.out hm M hM)
        obtain ⟨P, hP⟩ : ∃ x, x = lowN (sumGe least L) (sumAll L) := ⟨_, rfl⟩
        obtain ⟨Q, hQ⟩ : ∃ x, x = lowD (sumGe least L) (sumAll L) := ⟨_, rfl⟩
        obtain ⟨R, hR⟩ : ∃ x, x = lowN (sumGe (least + 1) L) (sumAll L) := ⟨_, rfl⟩
        obtain ⟨S, hS⟩ : ∃ x, x = lowD (sumGe (least + 1) L) (sumAll L) := ⟨_, rfl⟩
        have LA : Hid (Low P Q) := Lib.hid (by rw [hP, hQ]; exact low_of _ _ (by have := sumGe_le least L; omega) hpos.1 hpos.2)
        have LB : Hid (Low R S) := Lib.hid (by rw [hR, hS]; exact low_of _ _ (by have := sumGe_le (least + 1) L; omega) hpos.1 hpos.2)
        have LE : Hid (R * Q ≤ P * S) := Lib.hid (by rw [hP, hQ, hR, hS]; exact low_le (sumGe_mono least L) hpos.1)
        have HA : Hid (∀ W, Below w.heap.size w W → Calls Tryz.prog 13 #[.slice A nt ct, .int .i64 m, .int .i64 least] W fun e w' => e = .returned (.tuple #[.agg #[.bool false, .string (ds P), .string (ds Q)], .int .i64 0]) ∧ Below W.heap.size W w') :=
          Lib.hid fun W hb => (tail_good B W A nt ct tape m least (HF.out.1.up hb) HV.out hm (HF.out.2.up hb) HP.out).mono fun e w' ⟨M, hM, he, hb'⟩ => by
            rw [tbl_unique hM hL, lowS_false, ← hP, ← hQ] at he
            exact ⟨he, hb'⟩
        have HB : Hid (∀ W, Below w.heap.size w W → Calls Tryz.prog 13 #[.slice A nt ct, .int .i64 m, .int .i64 (least + 1)] W fun e w' => e = .returned (.tuple #[.agg #[.bool false, .string (ds R), .string (ds S)], .int .i64 0]) ∧ Below W.heap.size W w') :=
          Lib.hid fun W hb => (tail_good B W A nt ct tape m (least + 1) (HF.out.1.up hb) HV.out hm (HF.out.2.up hb) HP.out).mono fun e w' ⟨M, hM, he, hb'⟩ => by
            rw [tbl_unique hM hL, lowS_false, ← hR, ← hS] at he
            exact ⟨he, hb'⟩
        have HO : Hid (∀ W, Below w.heap.size w W → Calls Tryz.prog 20 #[.int .i64 (sumGe least L), .int .i64 (sumAll L)] W fun e w' => e = .returned (.tuple #[.agg #[.bool false, .string (ds P), .string (ds Q)], .int .i64 0]) ∧ Below W.heap.size W w') :=
          Lib.hid fun W hb => by
            have h := of_any B (sumGe least L) (sumAll L) (by have := sumGe_le least L; omega) hpos.1 hpos.2 W (HF.out.2.up hb)
            rw [lowS_false, ← hP, ← hQ] at h
            exact h
        have HPOS := Lib.hid hpos
        clear hL r2 b2 hP hQ hR hS hpos
        go_wp2_with fail
        refine (HA.out w2 B2.out).mono ?_
        rintro e w3 ⟨rfl, b3⟩
        have B3 := Lib.hid (B2.out.trans (b3.mono B2.out.size))
        have B23 := Lib.hid b3
        clear b3
        go_wp2_with fail
        refine (HB.out _ (B3.out.alloc B3.out.size _)).mono ?_
        rintro e w4 ⟨rfl, b4⟩
        have kA : Blk w4 w3.heap.size 31 #[.bool false, .string (ds P), .string (ds Q)] := (Blk.new w3 31 #[.bool false, .string (ds P), .string (ds Q)]).below b4 (by simp)
        have B4 := Lib.hid ((B3.out.alloc B3.out.size (.cells #[.bool false, .string (ds P), .string (ds Q)] 31)).trans (b4.mono (by have := B3.out.size; simp; omega)))
        have B24 := Lib.hid ((B23.out.alloc B23.out.size (.cells #[.bool false, .string (ds P), .string (ds Q)] 31)).trans (b4.mono (by have := B23.out.size; simp; omega)))
        have KA := Lib.hid kA
        clear b4 kA
        go_wp2_with fail
        obtain ⟨W5, hW5⟩ : ∃ W, W = w4.alloc (.cells #[.bool false, .string (ds R), .string (ds S)] 31) := ⟨_, rfl⟩
        have kb : Blk W5 w4.heap.size 31 #[.bool false, .string (ds R), .string (ds S)] := by rw [hW5]; exact Blk.new _ _ _
        have ka : Blk W5 w3.heap.size 31 #[.bool false, .string (ds P), .string (ds Q)] := by rw [hW5]; exact KA.out.alloc _
        have b5 : Below w.heap.size w W5 := by rw [hW5]; exact B4.out.alloc B4.out.size _
        have b25 : Below w2.heap.size w2 W5 := by rw [hW5]; exact B24.out.alloc B24.out.size _
        have K5 := Lib.hid (And.intro ka kb)
        have B5 := Lib.hid b5
        have RL := Lib.hid (And.intro HL.out.1 (HL.out.2.up b25))
        rw [← hW5]
        clear hW5 ka kb b5 b25
        go_loopg [14, 15, 16] L.length (fun gk s14 s15 s16 wr => ∃ j sg sa : Nat, s16 = .int .i64 j ∧ j ≤ L.length ∧ gk = L.length - j ∧ s14 = .int .i64 sg ∧ s15 = .int .i64 sa ∧ Hid (sg = sumGe least (L.take j) ∧ sa = sumAll (L.take j)) ∧ Hid (Below W5.heap.size W5 wr))
        case atStart => exact ⟨0, 0, 0, rfl, Nat.zero_le _, rfl, rfl, rfl, Lib.hid ⟨rfl, rfl⟩, Lib.hid (Below.refl _ _)⟩
        case round =>
          obtain ⟨j, sg, sa, rfl, hj, rfl, rfl, rfl, hq, hbx⟩ := hrel
          by_cases hjl : j < L.length
          · obtain ⟨gA, oA, x, c, hA, _, cx, cx', hx⟩ := (RL.out.2.below hbx.out).at hjl
            subst hA
            have hjz : (j : Int) < L.length := by omega
            have hs1 := sumAll_snoc L j hjl x c hx.out
            have hs2 := sumGe_snoc least L j hjl x c hx.out
            have hs3 := sumAll_take L (j + 1)
            have hs4 := HPOS.out.2
            have hs5 := sumGe_le least (L.take j)
            have hsa : sa + c < 1000000000 := by rw [hq.out.2]; omega
            have hsg : sg ≤ sa := by rw [hq.out.1, hq.out.2]; exact hs5
            have hcb : c < 1000000000 := by omega
            have hn1 : Hid (sa + c = sumAll (L.take (j + 1))) := Lib.hid (by rw [hs1, hq.out.2])
            have hn2 : Hid (sumGe least (L.take (j + 1)) = sg + if least ≤ x then c else 0) := Lib.hid (by rw [hs2, hq.out.1])
            clear hs1 hs2 hs3 hs4 hs5
            go_wp2_with fail
            refine (int_call _ c hcb).mono ?_
            rintro e w6 ⟨rfl, b6⟩
            have hbn : Hid (Below W5.heap.size W5 w6) := Lib.hid (hbx.out.trans (b6.mono hbx.out.size))
            obtain ⟨_, _, x', c', hA, _, cy, _, hx'⟩ := (RL.out.2.below hbn.out).at hjl
            cases hA
            obtain rfl : x' = x := by have := hx'.out; rw [hx.out] at this; exact (congrArg Prod.fst this).symm
            clear cx cx' b6
            by_cases hle : least ≤ x'
            · have hn3 : Hid (sg + c = sumGe least (L.take (j + 1))) := Lib.hid (by rw [hn2.out, if_pos hle])
              go_wp2_with fail
              go_roundg (L.length - (j + 1))
              case measure => omega
              case rel => exact ⟨j + 1, sg + c, sa + c, by go_num, by omega, rfl, by go_num, by go_num, Lib.hid ⟨hn3.out, hn1.out⟩, hbn⟩
            · have hn3 : Hid (sg = sumGe least (L.take (j + 1))) := Lib.hid (by rw [hn2.out, if_neg hle]; rfl)
              go_wp2_with fail
              go_roundg (L.length - (j + 1))
              case measure => omega
              case rel => exact ⟨j + 1, sg, sa + c, by go_num, by omega, rfl, rfl, by go_num, Lib.hid ⟨hn3.out, hn1.out⟩, hbn⟩
          · obtain rfl : j = L.length := by omega
            have e1 : sumGe least L = sg := by rw [hq.out.1, List.take_length]
            have e2 : sumAll L = sa := by rw [hq.out.2, List.take_length]
            have ho := HO.out wr (B5.out.trans (hbx.out.mono B5.out.size))
            rw [e1, e2] at ho
            have HO2 := Lib.hid ho
            have k1 := K5.out.1.below hbx.out K5.out.1.lt
            have k2 := K5.out.2.below hbx.out K5.out.2.lt
            have K6 := Lib.hid (And.intro k1 k2)
            have B6 := Lib.hid (B5.out.trans (hbx.out.mono B5.out.size))
            clear ho k1 k2 e1 e2
            go_wp2_with fail
            refine HO2.out.mono ?_
            rintro e w7 ⟨rfl, b7⟩
            have k1 := K6.out.1.below b7 K6.out.1.lt
            have k2 := K6.out.2.below b7 K6.out.2.lt
            have k3 := k1.alloc (.cells #[.bool false, .string (ds P), .string (ds Q)] 31)
            have k4 := k2.alloc (.cells #[.bool false, .string (ds P), .string (ds Q)] 31)
            have c10 : (w7.alloc (.cells #[.bool false, .string (ds P), .string (ds Q)] 31)).cell? ⟨w3.heap.size, 0, none⟩ = some (.bool false) := by rw [k3.cell]; rfl
            have c11 : (w7.alloc (.cells #[.bool false, .string (ds P), .string (ds Q)] 31)).cell? ⟨w3.heap.size, 1, none⟩ = some (.string (ds P)) := by rw [k3.cell]; rfl
            have c12 : (w7.alloc (.cells #[.bool false, .string (ds P), .string (ds Q)] 31)).cell? ⟨w3.heap.size, 2, none⟩ = some (.string (ds Q)) := by rw [k3.cell]; rfl
            have d10 : (w7.alloc (.cells #[.bool false, .string (ds P), .string (ds Q)] 31)).cell? ⟨w4.heap.size, 0, none⟩ = some (.bool false) := by rw [k4.cell]; rfl
            have d11 : (w7.alloc (.cells #[.bool false, .string (ds P), .string (ds Q)] 31)).cell? ⟨w4.heap.size, 1, none⟩ = some (.string (ds R)) := by rw [k4.cell]; rfl
            have d12 : (w7.alloc (.cells #[.bool false, .string (ds P), .string (ds Q)] 31)).cell? ⟨w4.heap.size, 2, none⟩ = some (.string (ds S)) := by rw [k4.cell]; rfl
            have B7 := Lib.hid (B6.out.trans (b7.mono B6.out.size))
            clear b7 k1 k2 k3 k4
            go_wp2_with fail
            refine (rcmp_call B R S P Q LB.out LA.out LE.out _ (HF.out.2.up (B7.out.alloc B7.out.size _))).mono ?_
            rintro e w8 ⟨z, rfl, hz, b8⟩
            go_wp2_with fail
            go_ret
            exact ⟨by simp [hz], (B7.out.alloc B7.out.size _).trans (b8.mono (by have := B7.out.size; simp; omega))⟩
      · have hbad : ¬ (VT tape ∧ 0 ≤ n ∧ n ≤ 40) := hg
        have HD := Lib.hid (fun W (hb : Below w.heap.size w W) => dist_bad W w.heap.size A nt ct tape n (HF.out.1.below hb) hb.size hn hbad)
        have HA := Lib.hid (fun W (hb : Below w.heap.size w W) l => tail_bad W w.heap.size A nt ct tape n l (HF.out.1.below hb) hb.size hn hbad)
        clear hg hbad
        go_enter Tryz.func8, Tryz.ntmps8
        go_wp2_with fail
        refine HH.out.mono ?_
        rintro e w1 ⟨rfl, b1⟩
        have B1 := Lib.hid b1
        clear b1
        go_wp2_with fail
        refine (few_any w1 A nt ct n hn).mono ?_
        rw [decide_eq_true hf]
        rintro e w' ⟨rfl, rfl⟩
        go_wp2_with fail
        refine (HD.out w1 B1.out).mono ?_
        rintro e w2 ⟨rfl, b2⟩
        have B2 := Lib.hid (B1.out.trans (b2.mono B1.out.size))
        clear b2
        go_wp2_with fail
        refine (HA.out w2 B2.out _).mono ?_
        rintro e w3 ⟨rfl, b3⟩
        have B3 := Lib.hid (B2.out.trans (b3.mono B2.out.size))
        clear b3
        go_wp2_with fail
        refine (HA.out _ (B3.out.alloc B3.out.size _) _).mono ?_
        rintro e w4 ⟨rfl, b4⟩
        have kA : Blk w4 w3.heap.size 31 #[.bool false, .string ⟨#[]⟩, .string ⟨#[]⟩] := (Blk.new w3 31 #[.bool false, .string ⟨#[]⟩, .string ⟨#[]⟩]).below b4 (by simp)
        have B4 := Lib.hid ((B3.out.alloc B3.out.size (.cells #[.bool false, .string ⟨#[]⟩, .string ⟨#[]⟩] 31)).trans (b4.mono (by have := B3.out.size; simp; omega)))
        have k5 := kA.alloc (.cells #[.bool false, .string ⟨#[]⟩, .string ⟨#[]⟩] 31)
        have c10 : (w4.alloc (.cells #[.bool false, .string ⟨#[]⟩, .string ⟨#[]⟩] 31)).cell? ⟨w3.heap.size, 0, none⟩ = some (.bool false) := by rw [k5.cell]; rfl
        have c11 : (w4.alloc (.cells #[.bool false, .string ⟨#[]⟩, .string ⟨#[]⟩] 31)).cell? ⟨w3.heap.size, 1, none⟩ = some (.string ⟨#[]⟩) := by rw [k5.cell]; rfl
        have c12 : (w4.alloc (.cells #[.bool false, .string ⟨#[]⟩, .string ⟨#[]⟩] 31)).cell? ⟨w3.heap.size, 2, none⟩ = some (.string ⟨#[]⟩) := by rw [k5.cell]; rfl
        clear b4 kA k5
        go_wp2_with fail
        go_ret
        exact ⟨by simp, B4.out.alloc B4.out.size _⟩
    · by_cases hs1 : least < -10000
      · go_enter Tryz.func8, Tryz.ntmps8
        go_wp2_with fail
        refine HH.out.mono ?_
        rintro e w1 ⟨rfl, b1⟩
        go_wp2_with fail
        refine (few_any w1 A nt ct n hn).mono ?_
        rw [decide_eq_true hf]
        rintro e w' ⟨rfl, rfl⟩
        go_wp2_with fail
        go_ret
        exact ⟨rfl, b1⟩
      · have hs2 : 10000 < least := by omega
        go_enter Tryz.func8, Tryz.ntmps8
        go_wp2_with fail
        refine HH.out.mono ?_
        rintro e w1 ⟨rfl, b1⟩
        go_wp2_with fail
        refine (few_any w1 A nt ct n hn).mono ?_
        rw [decide_eq_true hf]
        rintro e w' ⟨rfl, rfl⟩
        go_wp2_with fail
        go_ret
        exact ⟨rfl, b1⟩
  · go_enter Tryz.func8, Tryz.ntmps8
    go_wp2_with fail
    refine HH.out.mono ?_
    rintro e w1 ⟨rfl, b1⟩
    go_wp2_with fail
    refine (few_any w1 A nt ct n hn).mono ?_
    rw [decide_eq_false hf]
    rintro e w' ⟨rfl, rfl⟩
    go_wp2_with fail
    go_ret
    exact ⟨rfl, b1⟩
end Go.Proofs.YtdapflgfocideaaGreatDoor
