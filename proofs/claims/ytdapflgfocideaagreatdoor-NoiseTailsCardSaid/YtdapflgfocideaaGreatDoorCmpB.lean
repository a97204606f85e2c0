/- The walk of rational.Compare at a first number that is less: one numerator, other denominators. -/
import Derived.Test.YtdapflgfocideaaGreatDoorCmpH
namespace Go.Proofs.YtdapflgfocideaaGreatDoor
open Go Go.RowKit Go.Deep
open Go.Lib (decDigits)
attribute [local go_sem] guardO guardR

set_option maxHeartbeats 2000000 in
theorem rcmp_den (B : Nat) (p q s : Nat) (hv : ¬ (ds q).toList = (ds s).toList) (h1 : Low p q) (h2 : Low p s) (hlt : p * s < p * q) (w : World) (hE : Env B w) :
    Calls Tryz.prog 21 #[.agg #[.bool false, .string (ds p), .string (ds q)], .agg #[.bool false, .string (ds p), .string (ds s)]] w fun e w' => e = .returned (.int .i64 (-1)) ∧ Below w.heap.size w w' := by
  have HE := Lib.hid hE
  have H1 := Lib.hid h1
  have H2 := Lib.hid h2
  have HL := Lib.hid hlt
  have k0 : Blk ((w.alloc (.cells #[.bool false, .string (ds p), .string (ds q)] 31)).alloc (.cells #[.bool false, .string (ds p), .string (ds s)] 31)) w.heap.size 31 #[.bool false, .string (ds p), .string (ds q)] := (Blk.new _ _ _).alloc _
  have k1 : Blk ((w.alloc (.cells #[.bool false, .string (ds p), .string (ds q)] 31)).alloc (.cells #[.bool false, .string (ds p), .string (ds s)] 31)) (w.heap.size + 1) 31 #[.bool false, .string (ds p), .string (ds s)] := by
    have := Blk.new (w.alloc (.cells #[.bool false, .string (ds p), .string (ds q)] 31)) 31 #[.bool false, .string (ds p), .string (ds s)]
    simpa using this
  have b0 : Below w.heap.size w ((w.alloc (.cells #[.bool false, .string (ds p), .string (ds q)] 31)).alloc (.cells #[.bool false, .string (ds p), .string (ds s)] 31)) := ((Below.refl _ _).alloc (Nat.le_refl _) _).alloc (by simp) _
  obtain ⟨W0, hW0⟩ : ∃ W, W = (w.alloc (.cells #[.bool false, .string (ds p), .string (ds q)] 31)).alloc (.cells #[.bool false, .string (ds p), .string (ds s)] 31) := ⟨_, rfl⟩
  rw [← hW0] at k0 k1 b0
  have K0 := Lib.hid k0
  have K1 := Lib.hid k1
  have B0 := Lib.hid b0
  have c0 : W0.cell? ⟨w.heap.size, 0, none⟩ = some (.bool false) := by rw [k0.cell]; rfl
  clear hE h1 h2 hlt k0 k1 b0
  go_enter Tryz.func21, Tryz.ntmps21
  go_wp2_with fail
  rw [← hW0]
  clear hW0
  refine (ratvalid_any B p q H1.out W0 (HE.out.up B0.out)).mono ?_
  rintro e w1 ⟨rfl, hb1⟩
  have B1 := Lib.hid hb1
  have kk := K1.out.below hb1 K1.out.lt
  have d0 : w1.cell? ⟨w.heap.size + 1, 0, none⟩ = some (.bool false) := by rw [kk.cell]; rfl
  have d1 : w1.cell? ⟨w.heap.size + 1, 1, none⟩ = some (.string (ds p)) := by rw [kk.cell]; rfl
  have d2 : w1.cell? ⟨w.heap.size + 1, 2, none⟩ = some (.string (ds s)) := by rw [kk.cell]; rfl
  clear hb1 kk c0
  go_wp2_with fail
  refine (ratvalid_any B p s H2.out w1 ((HE.out.up B0.out).up B1.out)).mono ?_
  rintro e w2 ⟨rfl, hb2⟩
  have B2 := Lib.hid (B1.out.trans (hb2.mono B1.out.size))
  have kk := K1.out.below B2.out K1.out.lt
  have kj := K0.out.below B2.out K0.out.lt
  have d0 : w2.cell? ⟨w.heap.size + 1, 0, none⟩ = some (.bool false) := by rw [kk.cell]; rfl
  have d1 : w2.cell? ⟨w.heap.size + 1, 1, none⟩ = some (.string (ds p)) := by rw [kk.cell]; rfl
  have d2 : w2.cell? ⟨w.heap.size + 1, 2, none⟩ = some (.string (ds s)) := by rw [kk.cell]; rfl
  have c0 : w2.cell? ⟨w.heap.size, 0, none⟩ = some (.bool false) := by rw [kj.cell]; rfl
  have c1 : w2.cell? ⟨w.heap.size, 1, none⟩ = some (.string (ds p)) := by rw [kj.cell]; rfl
  have c2 : w2.cell? ⟨w.heap.size, 2, none⟩ = some (.string (ds q)) := by rw [kj.cell]; rfl
  have g1 : ∀ o, (w2.alloc o).cell? ⟨w.heap.size, 1, none⟩ = some (.string (ds p)) := fun o => by rw [(kj.alloc o).cell]; rfl
  have i1 : ∀ o o', ((w2.alloc o).alloc o').cell? ⟨w.heap.size, 1, none⟩ = some (.string (ds p)) := fun o o' => by rw [((kj.alloc o).alloc o').cell]; rfl
  have g2 : ∀ o, (w2.alloc o).cell? ⟨w.heap.size, 2, none⟩ = some (.string (ds q)) := fun o => by rw [(kj.alloc o).cell]; rfl
  have i2 : ∀ o o', ((w2.alloc o).alloc o').cell? ⟨w.heap.size, 2, none⟩ = some (.string (ds q)) := fun o o' => by rw [((kj.alloc o).alloc o').cell]; rfl
  have g3 : ∀ o, (w2.alloc o).cell? ⟨w.heap.size + 1, 1, none⟩ = some (.string (ds p)) := fun o => by rw [(kk.alloc o).cell]; rfl
  have i3 : ∀ o o', ((w2.alloc o).alloc o').cell? ⟨w.heap.size + 1, 1, none⟩ = some (.string (ds p)) := fun o o' => by rw [((kk.alloc o).alloc o').cell]; rfl
  have g4 : ∀ o, (w2.alloc o).cell? ⟨w.heap.size + 1, 2, none⟩ = some (.string (ds s)) := fun o => by rw [(kk.alloc o).cell]; rfl
  have i4 : ∀ o o', ((w2.alloc o).alloc o').cell? ⟨w.heap.size + 1, 2, none⟩ = some (.string (ds s)) := fun o o' => by rw [((kk.alloc o).alloc o').cell]; rfl
  have klt := kk.lt
  have hw2 : w.heap.size ≤ w2.heap.size := by omega
  have BW2 := B0.out.trans (B2.out.mono B0.out.size)
  have FA := Lib.hid (show Blk ((w2.alloc (.cells #[.string (ds p), .string (ds q)] 65)).alloc (.cells #[.string (ds p), .string (ds s)] 65)).drew w2.heap.size 65 #[.string (ds p), .string (ds q)] ∧ Blk ((w2.alloc (.cells #[.string (ds p), .string (ds q)] 65)).alloc (.cells #[.string (ds p), .string (ds s)] 65)).drew (w2.heap.size + 1) 65 #[.string (ds p), .string (ds s)] ∧ Below w.heap.size w ((w2.alloc (.cells #[.string (ds p), .string (ds q)] 65)).alloc (.cells #[.string (ds p), .string (ds s)] 65)).drew ∧ w.heap.size ≤ w2.heap.size ∧ w.heap.size ≤ w2.heap.size + 1 ∧ w2.heap.size ≠ w2.heap.size + 1 from
    ⟨((Blk.new w2 65 #[.string (ds p), .string (ds q)]).alloc _).drew, by have := Blk.new (w2.alloc (.cells #[.string (ds p), .string (ds q)] 65)) 65 #[.string (ds p), .string (ds s)]; simp at this; exact this.drew, ((BW2.alloc hw2 _).alloc (by simp; omega) _).drew, hw2, by omega, by omega⟩)
  have FB := Lib.hid (show Blk ((w2.alloc (.cells #[.string (ds p), .string (ds s)] 65)).alloc (.cells #[.string (ds p), .string (ds q)] 65)).drew (w2.heap.size + 1) 65 #[.string (ds p), .string (ds q)] ∧ Blk ((w2.alloc (.cells #[.string (ds p), .string (ds s)] 65)).alloc (.cells #[.string (ds p), .string (ds q)] 65)).drew w2.heap.size 65 #[.string (ds p), .string (ds s)] ∧ Below w.heap.size w ((w2.alloc (.cells #[.string (ds p), .string (ds s)] 65)).alloc (.cells #[.string (ds p), .string (ds q)] 65)).drew ∧ w.heap.size ≤ w2.heap.size + 1 ∧ w.heap.size ≤ w2.heap.size ∧ w2.heap.size + 1 ≠ w2.heap.size from
    ⟨by have := Blk.new (w2.alloc (.cells #[.string (ds p), .string (ds s)] 65)) 65 #[.string (ds p), .string (ds q)]; simp at this; exact this.drew, ((Blk.new w2 65 #[.string (ds p), .string (ds s)]).alloc _).drew, ((BW2.alloc hw2 _).alloc (by simp; omega) _).drew, by omega, hw2, by omega⟩)
  clear BW2 hw2
  clear hb2 kk kj
  go_wp2_with fail
  all_goals go_region
  all_goals first
    | (obtain ⟨b5, hb5⟩ : ∃ b, b = w2.heap.size := ⟨_, rfl⟩
       obtain ⟨b6, hb6⟩ : ∃ b, b = w2.heap.size + 1 := ⟨_, rfl⟩
       obtain ⟨W3, hW3⟩ : ∃ W, W = ((w2.alloc (.cells #[.string (ds p), .string (ds q)] 65)).alloc (.cells #[.string (ds p), .string (ds s)] 65)).drew := ⟨_, rfl⟩
       have J := FA.out
       rw [← hW3, ← hb6, ← hb5] at J
       rw [← hW3, ← hb6, ← hb5])
    | (obtain ⟨b5, hb5⟩ : ∃ b, b = w2.heap.size + 1 := ⟨_, rfl⟩
       obtain ⟨b6, hb6⟩ : ∃ b, b = w2.heap.size := ⟨_, rfl⟩
       obtain ⟨W3, hW3⟩ : ∃ W, W = ((w2.alloc (.cells #[.string (ds p), .string (ds s)] 65)).alloc (.cells #[.string (ds p), .string (ds q)] 65)).drew := ⟨_, rfl⟩
       have J := FB.out
       rw [← hW3, ← hb5, ← hb6] at J
       rw [← hW3, ← hb5, ← hb6])
  all_goals
    have HJ := Lib.hid J
    have n56 := J.2.2.2.2.2
    have n65 : b6 ≠ b5 := fun e => n56 e.symm
    clear J hW3 hb5 hb6 g1 g2 g3 g4 i1 i2 i3 i4 d0 d1 d2 c0 c1 c2 klt
    go_wp2_with fail
    go_loopg [13] (q + s) (fun gk s13 wr => ∃ a b c d : Nat, gk = b + d ∧ Hid (Less a b c d) ∧ Hid (Blk wr b5 65 #[.string (ds a), .string (ds b)] ∧ Blk wr b6 65 #[.string (ds c), .string (ds d)] ∧ Below w.heap.size w wr ∧ w.heap.size ≤ b5 ∧ w.heap.size ≤ b6 ∧ b5 ≠ b6))
    case atStart => exact ⟨p, q, p, s, rfl, Lib.hid ⟨H1.out.p9, H1.out.q9, H2.out.p9, H2.out.q9, H1.out.q0, H2.out.q0, HL.out⟩, Lib.hid HJ.out⟩
    case round =>
      obtain ⟨a, b, c, d, rfl, hl, hm⟩ := hrel
      have e1 : wr.cell? ⟨b5, 0, none⟩ = some (.string (ds a)) := by rw [hm.out.1.cell]; rfl
      have e2 : wr.cell? ⟨b5, 1, none⟩ = some (.string (ds b)) := by rw [hm.out.1.cell]; rfl
      go_wp2_with fail
      refine (divn_call B wr a b hl.out.a9 hl.out.b0 hl.out.b9 (HE.out.up hm.out.2.2.1)).mono ?_
      rintro e w4 ⟨rfl, b4⟩
      have k5 := hm.out.1.below b4 hm.out.1.lt
      have k6 := hm.out.2.1.below b4 hm.out.2.1.lt
      have B4 := Lib.hid (hm.out.2.2.1.trans (b4.mono hm.out.2.2.1.size))
      have e3 : w4.cell? ⟨b6, 0, none⟩ = some (.string (ds c)) := by rw [k6.cell]; rfl
      have e4 : w4.cell? ⟨b6, 1, none⟩ = some (.string (ds d)) := by rw [k6.cell]; rfl
      have K45 := Lib.hid (And.intro k5 k6)
      clear e1 e2 b4 k5 k6
      go_wp2_with fail
      refine (divn_call B w4 c d hl.out.c9 hl.out.d0 hl.out.d9 (HE.out.up B4.out)).mono ?_
      rintro e w5 ⟨rfl, b5'⟩
      have k5 := K45.out.1.below b5' K45.out.1.lt
      have k6 := K45.out.2.below b5' K45.out.2.lt
      have B5 := Lib.hid (B4.out.trans (b5'.mono B4.out.size))
      have K56 := Lib.hid (And.intro k5 k6)
      clear e3 e4 b5' k5 k6
      go_wp2_with fail
      have hq := hl.out.quo
      refine (comp_call w5 (a / b) (c / d) (Nat.lt_of_le_of_lt (Nat.div_le_self _ _) hl.out.a9) (Nat.lt_of_le_of_lt (Nat.div_le_self _ _) hl.out.c9)).mono ?_
      by_cases hlt : a / b < c / d
      · rw [if_pos hlt]
        rintro e w6 ⟨rfl, b6'⟩
        have B6 := Lib.hid (B5.out.trans (b6'.mono B5.out.size))
        clear b6' hlt hq
        go_wp2_with fail
        go_ret
        exact ⟨rfl, B6.out⟩
      · have heq : a / b = c / d := by omega
        rw [if_neg hlt, if_pos heq]
        rintro e w6 ⟨rfl, b6'⟩
        have HEQ := Lib.hid heq
        have k5 := K56.out.1.below b6' K56.out.1.lt
        have k6 := K56.out.2.below b6' K56.out.2.lt
        have B6 := Lib.hid (B5.out.trans (b6'.mono B5.out.size))
        have K67 := Lib.hid (And.intro k5 k6)
        by_cases hr : a % b = 0
        · have hz : ((ds (a % b)).toList == [48]) = true := by rw [ds_is0]; simp [hr]
          clear b6' hlt hq heq k5 k6 hr
          go_wp2_with fail
          go_ret
          exact ⟨rfl, B6.out⟩
        · have hnx := hl.out.next heq hr
          have hz : ((ds (a % b)).toList == [48]) = false := by rw [ds_is0]; simp [hr]
          have hz2 : ((ds (c % d)).toList == [48]) = false := by rw [ds_is0]; simp [hnx.1]
          have HN := Lib.hid hnx.2
          have m1 := Nat.mod_lt a hl.out.b0
          have m2 := Nat.mod_lt c hl.out.d0
          have HM := Lib.hid (And.intro m1 m2)
          have e1 : w6.cell? ⟨b5, 0, none⟩ = some (.string (ds a)) := by rw [k5.cell]; rfl
          have e2 : w6.cell? ⟨b5, 1, none⟩ = some (.string (ds b)) := by rw [k5.cell]; rfl
          have e3 : w6.cell? ⟨b6, 0, none⟩ = some (.string (ds c)) := by rw [k6.cell]; rfl
          have e4 : w6.cell? ⟨b6, 1, none⟩ = some (.string (ds d)) := by rw [k6.cell]; rfl
          have f1 := k5.free 0
          have f2 := k5.free 1
          have f3 := k6.free 0
          have f4 := k6.free 1
          clear b6' hlt hq heq k5 k6 hr hnx m1 m2
          go_wp2_with fail
          go_roundg (c % d + a % b)
          case measure => have := HM.out; omega
          case rel => exact ⟨d, c % d, b, a % b, rfl, HN, Lib.hid ⟨((((K67.out.1.set 0 _).set 1 _).far n56 _).far n56 _), ((((K67.out.2.far n65 _).far n65 _).set 0 _).set 1 _), (((B6.out.setCell (p := ⟨b5, 0, none⟩) hm.out.2.2.2.1 _).setCell (p := ⟨b5, 1, none⟩) hm.out.2.2.2.1 _).setCell (p := ⟨b6, 0, none⟩) hm.out.2.2.2.2.1 _).setCell (p := ⟨b6, 1, none⟩) hm.out.2.2.2.2.1 _, hm.out.2.2.2⟩⟩
end Go.Proofs.YtdapflgfocideaaGreatDoor
