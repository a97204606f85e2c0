/- Contracts of observatoryref04.lowest, Make. -/
import Derived.Test.YtdapflgfocideaaGreatDoorRefI
namespace Go.Proofs.YtdapflgfocideaaGreatDoor
open Go Go.RowKit Go.Deep
open Go.Lib (decDigits)
attribute [local go_sem] guardO guardR

set_option maxHeartbeats 1000000 in
theorem rlow_zero (w : World) (neg : Bool) (b : Nat) :
    Calls Tryz.prog 48 #[.bool neg, .string (ds 0), .string (ds b)] w fun e w' => e = .returned (.agg #[.bool false, .string (ds 0), .string (ds 1)]) ∧ Below w.heap.size w w' := by
  have h0 : ((ds 0).toList == [48]) = true := by rw [ds_is0]; rfl
  have b0 : Below w.heap.size w (w.alloc (.cells #[.bool false, .string ⟨#[]⟩, .string ⟨#[]⟩] 31)) := (Below.refl _ _).alloc (Nat.le_refl _) _
  have k0 : Blk (w.alloc (.cells #[.bool false, .string ⟨#[]⟩, .string ⟨#[]⟩] 31)) w.heap.size 31 #[.bool false, .string ⟨#[]⟩, .string ⟨#[]⟩] := Blk.new _ _ _
  have H := Lib.hid (And.intro b0 k0)
  clear b0 k0
  go_enter Tryz.func48, Tryz.ntmps48
  go_wp2_with fail
  refine (rzero_call _).mono ?_
  rintro e w3 ⟨rfl, b3⟩
  have k3 := H.out.2.below b3 H.out.2.lt
  have c0 : w3.cell? ⟨w.heap.size, 0, none⟩ = some (.bool false) := by rw [k3.cell]; rfl
  have c1 : w3.cell? ⟨w.heap.size, 1, none⟩ = some (.string ⟨#[]⟩) := by rw [k3.cell]; rfl
  have c2 : w3.cell? ⟨w.heap.size, 2, none⟩ = some (.string ⟨#[]⟩) := by rw [k3.cell]; rfl
  have f0 := k3.free 0
  have f1 := k3.free 1
  have f2 := k3.free 2
  have HB := Lib.hid (H.out.1.trans (b3.mono (by simp)))
  have HK := Lib.hid k3
  clear b3 k3
  go_wp2_with fail
  have hlt := HK.out.lt
  refine bodyPost_ret (v := .agg #[.bool false, .string (ds 0), .string (ds 1)]) (by simp [results, Tryz.results48, go_sem, hlt, c0, c1, c2]) rfl ⟨rfl, ?_⟩
  exact ((HB.out.setCell (p := ⟨w.heap.size, 0, none⟩) (Nat.le_refl _) _).setCell (p := ⟨w.heap.size, 1, none⟩) (Nat.le_refl _) _).setCell (p := ⟨w.heap.size, 2, none⟩) (Nat.le_refl _) _

set_option maxHeartbeats 1000000 in
theorem rlow_pos (w : World) (neg : Bool) (a b g x y : Nat) (hg : Hid (g = Nat.gcd a b ∧ x = a / g ∧ y = b / g)) (ha0 : 0 < a) (ha : a < 1000000000) (hb0 : 0 < b) (hb : b < 1000000000) :
    Calls Tryz.prog 48 #[.bool neg, .string (ds a), .string (ds b)] w fun e w' => e = .returned (.agg #[.bool neg, .string (ds x), .string (ds y)]) ∧ Below w.heap.size w w' := by
  have hne : ((ds a).toList == [48]) = false := by rw [ds_is0]; simp; omega
  have HF := Lib.hid (And.intro ha0 (And.intro ha (And.intro hb0 hb)))
  have hgp : 0 < g := by rw [hg.out.1]; exact Nat.gcd_pos_of_pos_left _ ha0
  have hgl : g < 1000000000 := by rw [hg.out.1]; exact Nat.lt_of_le_of_lt (Nat.gcd_le_left _ ha0) ha
  have HG := Lib.hid (And.intro hgp hgl)
  clear hgp hgl ha0 ha hb0 hb
  go_enter Tryz.func48, Tryz.ntmps48
  go_wp2_with fail
  have b0 : Below w.heap.size w (w.alloc (.cells #[.bool false, .string ⟨#[]⟩, .string ⟨#[]⟩] 31)) := (Below.refl _ _).alloc (Nat.le_refl _) _
  have hblk : Blk (w.alloc (.cells #[.bool false, .string ⟨#[]⟩, .string ⟨#[]⟩] 31)) w.heap.size 31 #[.bool false, .string ⟨#[]⟩, .string ⟨#[]⟩] := Blk.new _ _ _
  refine (rgcd_call _ a b HF.out.2.1 HF.out.2.2.2).mono ?_
  rw [← hg.out.1]
  rintro e w1 ⟨rfl, hb1⟩
  have b1 : Below w.heap.size w w1 := b0.trans (hb1.mono (by simp))
  have k1 := hblk.below hb1 hblk.lt
  clear b0 hblk
  go_wp2_with fail
  refine (rDiv_call w1 a g HF.out.2.1 HG.out.1 HG.out.2).mono ?_
  rw [← hg.out.2.1]
  rintro e w2 ⟨rfl, hb2⟩
  have b2 : Below w.heap.size w w2 := b1.trans (hb2.mono b1.size)
  have k2 := k1.below hb2 k1.lt
  clear b1 k1
  go_wp2_with fail
  refine (rDiv_call w2 b g HF.out.2.2.2 HG.out.1 HG.out.2).mono ?_
  rw [← hg.out.2.2]
  rintro e w3 ⟨rfl, hb3⟩
  have b3 : Below w.heap.size w w3 := b2.trans (hb3.mono b2.size)
  have k3 := k2.below hb3 k2.lt
  clear b2 k2
  have c0 : w3.cell? ⟨w.heap.size, 0, none⟩ = some (.bool false) := by rw [k3.cell]; rfl
  have c1 : w3.cell? ⟨w.heap.size, 1, none⟩ = some (.string ⟨#[]⟩) := by rw [k3.cell]; rfl
  have c2 : w3.cell? ⟨w.heap.size, 2, none⟩ = some (.string ⟨#[]⟩) := by rw [k3.cell]; rfl
  have f0 := k3.free 0
  have f1 := k3.free 1
  have f2 := k3.free 2
  have HB := Lib.hid b3
  have HK := Lib.hid k3
  clear b3 k3
  go_wp2_with fail
  have hlt := HK.out.lt
  refine bodyPost_ret (v := .agg #[.bool neg, .string (ds x), .string (ds y)]) (by simp [results, Tryz.results48, go_sem, hlt, c0, c1, c2]) rfl ⟨rfl, ?_⟩
  exact ((HB.out.setCell (p := ⟨w.heap.size, 0, none⟩) (Nat.le_refl _) _).setCell (p := ⟨w.heap.size, 1, none⟩) (Nat.le_refl _) _).setCell (p := ⟨w.heap.size, 2, none⟩) (Nat.le_refl _) _


theorem rlow_any (w : World) (neg : Bool) (a b : Nat) (ha : a < 1000000000) (hb0 : 0 < b) (hb : b < 1000000000) :
    Calls Tryz.prog 48 #[.bool neg, .string (ds a), .string (ds b)] w fun e w' => e = .returned (.agg #[.bool (lowS neg a), .string (ds (lowN a b)), .string (ds (lowD a b))]) ∧ Below w.heap.size w w' := by
  unfold lowN lowD lowS
  by_cases h : a = 0
  · subst h
    exact rlow_zero w neg b
  · rw [if_neg h, if_neg h, if_neg h]
    exact rlow_pos w neg a b _ _ _ (Lib.hid ⟨rfl, rfl, rfl⟩) (by omega) ha hb0 hb

set_option maxHeartbeats 1000000 in
theorem rmake_call (w : World) (a b : Nat) (ha : a < 1000000000) (hb0 : 0 < b) (hb : b < 1000000000) :
    Calls Tryz.prog 29 #[.bool false, .string (ds a), .string (ds b)] w fun e w' => e = .returned (.tuple #[.agg #[.bool false, .string (ds (lowN a b)), .string (ds (lowD a b))], .int .i64 0]) ∧ Below w.heap.size w w' := by
  obtain ⟨nx, hnx⟩ : ∃ x, x = ds (lowN a b) := ⟨_, rfl⟩
  obtain ⟨dx, hdx⟩ : ∃ x, x = ds (lowD a b) := ⟨_, rfl⟩
  have hne : ((ds b).toList == [48]) = false := by rw [ds_is0]; simp; omega
  have V1 := Lib.hid (rvalid_call a (by omega))
  have V2 := Lib.hid (rvalid_call b (by omega))
  have HL := Lib.hid (fun W => rlow_any W false a b ha hb0 hb)
  rw [show lowS false a = false by unfold lowS; split <;> rfl] at HL
  rw [← hnx, ← hdx] at HL ⊢
  have b0 : Below w.heap.size w (w.alloc (.cells #[.bool false, .string ⟨#[]⟩, .string ⟨#[]⟩] 31)) := (Below.refl _ _).alloc (Nat.le_refl _) _
  have k0 : Blk (w.alloc (.cells #[.bool false, .string ⟨#[]⟩, .string ⟨#[]⟩] 31)) w.heap.size 31 #[.bool false, .string ⟨#[]⟩, .string ⟨#[]⟩] := Blk.new _ _ _
  have H := Lib.hid (And.intro b0 k0)
  clear b0 k0 ha hb0 hb hnx hdx
  go_enter Tryz.func29, Tryz.ntmps29
  go_wp2_with fail
  refine (V1.out _).mono ?_
  rintro e w' ⟨rfl, hw1⟩
  subst hw1
  go_wp2_with fail
  refine (V2.out _).mono ?_
  rintro e w' ⟨rfl, hw1⟩
  subst hw1
  go_wp2_with fail
  refine (HL.out _).mono ?_
  rintro e w3 ⟨rfl, b3⟩
  have k3 := H.out.2.below b3 H.out.2.lt
  have c0 : w3.cell? ⟨w.heap.size, 0, none⟩ = some (.bool false) := by rw [k3.cell]; rfl
  have c1 : w3.cell? ⟨w.heap.size, 1, none⟩ = some (.string ⟨#[]⟩) := by rw [k3.cell]; rfl
  have c2 : w3.cell? ⟨w.heap.size, 2, none⟩ = some (.string ⟨#[]⟩) := by rw [k3.cell]; rfl
  have f0 := k3.free 0
  have f1 := k3.free 1
  have f2 := k3.free 2
  have HB := Lib.hid (H.out.1.trans (b3.mono (by simp)))
  have HK := Lib.hid k3
  clear b3 k3
  go_wp2_with fail
  have hlt := HK.out.lt
  refine bodyPost_ret (v := .tuple #[.agg #[.bool false, .string nx, .string dx], .int .i64 0]) (by simp [results, Tryz.results29, go_sem, hlt, c0, c1, c2]) rfl ⟨rfl, ?_⟩
  exact ((HB.out.setCell (p := ⟨w.heap.size, 0, none⟩) (Nat.le_refl _) _).setCell (p := ⟨w.heap.size, 1, none⟩) (Nat.le_refl _) _).setCell (p := ⟨w.heap.size, 2, none⟩) (Nat.le_refl _) _
end Go.Proofs.YtdapflgfocideaaGreatDoor
