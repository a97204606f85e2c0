/- The walk of NoiseMatchesReference: true. -/
import Derived.Test.YtdapflgfocideaaGreatDoorRefW
namespace Go.Proofs.YtdapflgfocideaaGreatDoor
open Go Go.RowKit Go.Deep
open Go.Lib (decDigits)
attribute [local go_sem] guardO guardR

theorem lowS_falseM (a : Nat) : lowS false a = false := by unfold lowS; split <;> rfl
theorem rdO_none (w : World) (B : Nat) : RdO w B none 0 [] := ⟨rfl, fun k h => absurd h (by omega)⟩

set_option maxHeartbeats 2000000 in
set_option maxRecDepth 100000 in
theorem match_any (B : Nat) (w : World) (A : Option Addr) (nt ct : Nat) (tape : List Int) (n least : Int) (h : RdI w w.heap.size A nt tape) (hE : Env B w) (hn : nt ≤ 4611686018427387904) :
    Calls Tryz.prog 3 #[.slice A nt ct, .int .i64 n, .int .i64 least] w fun e w' => e = .returned (.bool true) ∧ Below w.heap.size w w' := by
  have HH := Lib.hid (head_any B w hE)
  have HF := Lib.hid (And.intro h hE)
  clear h hE
  by_cases hf : nt ≤ 12 ∧ (n ≤ 6 ∨ 40 < n)
  · by_cases hg : VT tape ∧ 0 ≤ n ∧ n ≤ 40
    · obtain ⟨m, rfl⟩ : ∃ m : Nat, n = m := ⟨n.toNat, by omega⟩
      have hm : m ≤ 6 := by omega
      have HV := Lib.hid hg.1
      have HP := Lib.hid (fun M (hM : IsTbl M (cnt tape m)) => cnt_pos HV.out hm M hM)
      clear hg
      go_enter Tryz.func3, Tryz.ntmps3
      go_wp2_with fail
      refine HH.out.mono ?_
      rintro e w1 ⟨rfl, b1⟩
      have B1 := Lib.hid b1
      clear b1
      go_wp2_with fail
      refine (few_any w1 A nt ct m hn).mono ?_
      rw [decide_eq_true hf]
      rintro e w' ⟨rfl, rfl⟩
      go_wp2_with fail
      refine (dist_good B w1 A nt ct tape m (HF.out.1.up B1.out) HV.out hm (HF.out.2.up B1.out)).mono ?_
      rintro e w2 ⟨L, hL, A2, c2, rfl, l2, r2, _, b2⟩
      have B2 := Lib.hid (B1.out.trans (b2.mono B1.out.size))
      have HL := Lib.hid (And.intro hL r2)
      have nl := tbl_mid2 HV.out hm hL
      clear hL r2 b2
      go_wp2_with fail
      refine (rdist_good w2 A nt ct tape m (HF.out.1.up B2.out) HV.out hm).mono ?_
      rintro e w3 ⟨M, hM, A3, c3, rfl, l3, r3, _, b3⟩
      obtain rfl := tbl_unique hM HL.out.1
      have B3 := Lib.hid (B2.out.trans (b3.mono B2.out.size))
      have R3 := Lib.hid (And.intro (HL.out.2.up b3) r3)
      clear hM r3 b3
      obtain ⟨P, hP⟩ : ∃ x, x = ds (lowN (sumGe least M) (sumAll M)) := ⟨_, rfl⟩
      obtain ⟨Q, hQ⟩ : ∃ x, x = ds (lowD (sumGe least M) (sumAll M)) := ⟨_, rfl⟩
      have HA : Hid (∀ W, Below w.heap.size w W → Calls Tryz.prog 13 #[.slice A nt ct, .int .i64 m, .int .i64 least] W fun e w' => e = .returned (.tuple #[.agg #[.bool false, .string P, .string Q], .int .i64 0]) ∧ Below W.heap.size W w') :=
        Lib.hid fun W hb => (tail_good B W A nt ct tape m least (HF.out.1.up hb) HV.out hm (HF.out.2.up hb) HP.out).mono fun e w' ⟨N, hN, he, hb'⟩ => by
          rw [tbl_unique hN HL.out.1, lowS_falseM, ← hP, ← hQ] at he
          exact ⟨he, hb'⟩
      have HB : Hid (∀ W, Below w.heap.size w W → Calls Tryz.prog 14 #[.slice A nt ct, .int .i64 m, .int .i64 least] W fun e w' => e = .returned (.tuple #[.agg #[.bool false, .string P, .string Q], .int .i64 0]) ∧ Below W.heap.size W w') :=
        Lib.hid fun W hb => (rtail_good W A nt ct tape m least (HF.out.1.up hb) HV.out hm).mono fun e w' ⟨N, hN, he, hb'⟩ => by
          rw [tbl_unique hN HL.out.1, ← hP, ← hQ] at he
          exact ⟨he, hb'⟩
      clear hP hQ
      go_wp2_with fail
      refine (HA.out w3 B3.out).mono ?_
      rintro e w4 ⟨rfl, b4⟩
      have B4 := Lib.hid (B3.out.trans (b4.mono B3.out.size))
      have R4 := Lib.hid (And.intro (R3.out.1.up b4) (R3.out.2.up b4))
      clear b4
      go_wp2_with fail
      refine (HB.out _ (B4.out.alloc B4.out.size _)).mono ?_
      rintro e w5 ⟨rfl, b5⟩
      have k5 : Blk w5 w4.heap.size 31 #[.bool false, .string P, .string Q] := (Blk.new w4 31 #[.bool false, .string P, .string Q]).below b5 (by simp)
      have B5 := Lib.hid ((B4.out.alloc B4.out.size (.cells #[.bool false, .string P, .string Q] 31)).trans (b5.mono (by have := B4.out.size; simp; omega)))
      have B45 := Lib.hid (((Below.refl _ _).alloc (Nat.le_refl _) (.cells #[.bool false, .string P, .string Q] 31)).trans (b5.mono (by simp)) : Below w4.heap.size w4 w5)
      have K5 := Lib.hid k5
      clear b5 k5
      go_wp2_with fail
      have B6 := Lib.hid (B5.out.alloc B5.out.size (.cells #[.bool false, .string P, .string Q] 31))
      have B46 := Lib.hid (B45.out.alloc B45.out.size (.cells #[.bool false, .string P, .string Q] 31))
      obtain ⟨W6, hW6⟩ : ∃ W, W = w5.alloc (.cells #[.bool false, .string P, .string Q] 31) := ⟨_, rfl⟩
      have ka : Blk W6 w4.heap.size 31 #[.bool false, .string P, .string Q] := by rw [hW6]; exact K5.out.alloc _
      have kb : Blk W6 w5.heap.size 31 #[.bool false, .string P, .string Q] := by rw [hW6]; exact Blk.new _ _ _
      rw [← hW6] at B6 B46 ⊢
      have K6 := Lib.hid (And.intro ka kb)
      clear ka kb hW6
      refine (validT W6 w.heap.size A nt ct tape (HF.out.1.below B6.out) hn).mono ?_
      rw [decide_eq_true HV.out]
      rintro e w' ⟨rfl, rfl⟩
      go_wp2_with fail
      refine (rvalidT W6 w.heap.size A nt ct tape (HF.out.1.below B6.out) hn).mono ?_
      rw [decide_eq_true HV.out]
      rintro e w' ⟨rfl, rfl⟩
      go_wp2_with fail
      refine (same_any W6 W6.heap.size A2 A3 _ c2 _ c3 M M (R4.out.1.up B46.out) (R4.out.2.up B46.out) nl nl).mono ?_
      rw [decide_eq_true rfl]
      rintro e w7 ⟨rfl, b7⟩
      have k1 := K6.out.1.below b7 K6.out.1.lt
      have k2 := K6.out.2.below b7 K6.out.2.lt
      have c10 : w7.cell? ⟨w4.heap.size, 0, none⟩ = some (.bool false) := by rw [k1.cell]; rfl
      have c11 : w7.cell? ⟨w4.heap.size, 1, none⟩ = some (.string P) := by rw [k1.cell]; rfl
      have c12 : w7.cell? ⟨w4.heap.size, 2, none⟩ = some (.string Q) := by rw [k1.cell]; rfl
      have d10 : w7.cell? ⟨w5.heap.size, 0, none⟩ = some (.bool false) := by rw [k2.cell]; rfl
      have d11 : w7.cell? ⟨w5.heap.size, 1, none⟩ = some (.string P) := by rw [k2.cell]; rfl
      have d12 : w7.cell? ⟨w5.heap.size, 2, none⟩ = some (.string Q) := by rw [k2.cell]; rfl
      have B7 := Lib.hid (B6.out.trans (b7.mono B6.out.size))
      clear b7 k1 k2
      go_wp2_with fail
      go_ret
      exact ⟨by simp, B7.out⟩
    · have V0 := fun W (hb : Below w.heap.size w W) => validT W w.heap.size A nt ct tape (HF.out.1.below hb) hn
      have V1 := fun W (hb : Below w.heap.size w W) => rvalidT W w.heap.size A nt ct tape (HF.out.1.below hb) hn
      generalize decide (VT tape) = bb at V0 V1
      have HVa := Lib.hid V0
      have HVb := Lib.hid V1
      have HBD := Lib.hid (fun W (hb : Below w.heap.size w W) => dist_bad W w.heap.size A nt ct tape n (HF.out.1.below hb) hb.size hn hg)
      have HRD := Lib.hid (fun W (hb : Below w.heap.size w W) => rdist_bad W w.heap.size A nt ct tape n (HF.out.1.below hb) hn hg)
      have HBT := Lib.hid (fun W (hb : Below w.heap.size w W) => tail_bad W w.heap.size A nt ct tape n least (HF.out.1.below hb) hb.size hn hg)
      have HRT := Lib.hid (fun W (hb : Below w.heap.size w W) => rtail_bad W w.heap.size A nt ct tape n least (HF.out.1.below hb) hb.size hn hg)
      clear V0 V1 hg
      cases bb
      all_goals
        go_enter Tryz.func3, Tryz.ntmps3
        go_wp2_with fail
        refine HH.out.mono ?_
        rintro e w1 ⟨rfl, b1⟩
        have B1 := Lib.hid b1
        clear b1
        go_wp2_with fail
        refine (few_any w1 A nt ct n hn).mono ?_
        rw [decide_eq_true hf]
        rintro e w' ⟨rfl, rfl⟩
        go_wp2_with fail
        refine (HBD.out w1 B1.out).mono ?_
        rintro e w2 ⟨rfl, b2⟩
        have B2 := Lib.hid (B1.out.trans (b2.mono B1.out.size))
        clear b2
        go_wp2_with fail
        refine (HRD.out w2 B2.out).mono ?_
        rintro e w' ⟨rfl, rfl⟩
        go_wp2_with fail
        refine (HBT.out w2 B2.out).mono ?_
        rintro e w4 ⟨rfl, b4⟩
        have B4 := Lib.hid (B2.out.trans (b4.mono B2.out.size))
        clear b4
        go_wp2_with fail
        refine (HRT.out _ (B4.out.alloc B4.out.size _)).mono ?_
        rintro e w5 ⟨rfl, b5⟩
        have k5 : Blk w5 w4.heap.size 31 #[.bool false, .string ⟨#[]⟩, .string ⟨#[]⟩] := (Blk.new w4 31 #[.bool false, .string ⟨#[]⟩, .string ⟨#[]⟩]).below b5 (by simp)
        have B5 := Lib.hid ((B4.out.alloc B4.out.size (.cells #[.bool false, .string ⟨#[]⟩, .string ⟨#[]⟩] 31)).trans (b5.mono (by have := B4.out.size; simp; omega)))
        have K5 := Lib.hid k5
        clear b5 k5
        go_wp2_with fail
        have B6 := Lib.hid (B5.out.alloc B5.out.size (.cells #[.bool false, .string ⟨#[]⟩, .string ⟨#[]⟩] 31))
        obtain ⟨W6, hW6⟩ : ∃ W, W = w5.alloc (.cells #[.bool false, .string ⟨#[]⟩, .string ⟨#[]⟩] 31) := ⟨_, rfl⟩
        have ka : Blk W6 w4.heap.size 31 #[.bool false, .string ⟨#[]⟩, .string ⟨#[]⟩] := by rw [hW6]; exact K5.out.alloc _
        have kb : Blk W6 w5.heap.size 31 #[.bool false, .string ⟨#[]⟩, .string ⟨#[]⟩] := by rw [hW6]; exact Blk.new _ _ _
        rw [← hW6] at B6 ⊢
        have K6 := Lib.hid (And.intro ka kb)
        clear ka kb hW6
        refine (HVa.out W6 B6.out).mono ?_
        rintro e w' ⟨rfl, rfl⟩
        go_wp2_with fail
        refine (HVb.out W6 B6.out).mono ?_
        rintro e w' ⟨rfl, rfl⟩
        go_wp2_with fail
        refine (same_any W6 W6.heap.size none none 0 0 0 0 [] [] (rdO_none _ _) (rdO_none _ _) (by omega) (by omega)).mono ?_
        rw [decide_eq_true rfl]
        rintro e w7 ⟨rfl, b7⟩
        have k1 := K6.out.1.below b7 K6.out.1.lt
        have k2 := K6.out.2.below b7 K6.out.2.lt
        have c10 : w7.cell? ⟨w4.heap.size, 0, none⟩ = some (.bool false) := by rw [k1.cell]; rfl
        have c11 : w7.cell? ⟨w4.heap.size, 1, none⟩ = some (.string ⟨#[]⟩) := by rw [k1.cell]; rfl
        have c12 : w7.cell? ⟨w4.heap.size, 2, none⟩ = some (.string ⟨#[]⟩) := by rw [k1.cell]; rfl
        have d10 : w7.cell? ⟨w5.heap.size, 0, none⟩ = some (.bool false) := by rw [k2.cell]; rfl
        have d11 : w7.cell? ⟨w5.heap.size, 1, none⟩ = some (.string ⟨#[]⟩) := by rw [k2.cell]; rfl
        have d12 : w7.cell? ⟨w5.heap.size, 2, none⟩ = some (.string ⟨#[]⟩) := by rw [k2.cell]; rfl
        have B7 := Lib.hid (B6.out.trans (b7.mono B6.out.size))
        clear b7 k1 k2
        go_wp2_with fail
        go_ret
        exact ⟨by simp, B7.out⟩
  · go_enter Tryz.func3, Tryz.ntmps3
    go_wp2_with fail
    refine HH.out.mono ?_
    rintro e w1 ⟨rfl, b1⟩
    go_wp2_with fail
    refine (few_any w1 A nt ct n hn).mono ?_
    rw [decide_eq_false hf]
    rintro e w' ⟨rfl, rfl⟩
    go_wp2_with fail
    go_ret
    exact ⟨rfl, b1⟩
end Go.Proofs.YtdapflgfocideaaGreatDoor
