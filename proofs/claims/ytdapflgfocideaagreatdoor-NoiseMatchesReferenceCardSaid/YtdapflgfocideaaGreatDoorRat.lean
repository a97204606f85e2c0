/- Contracts of natural.Gcd, rational.lowest, Make at numerals. Conditions: numbers below 10^9. -/
import Derived.Test.YtdapflgfocideaaGreatDoorGcd
namespace Go.Proofs.YtdapflgfocideaaGreatDoor
open Go Go.RowKit Go.Deep
open Go.Lib (decDigits)

set_option maxHeartbeats 1000000 in
theorem both_gcd (B : Nat) (w : World) (a b : Nat) (ha : a < 1000000000) (hb : b < 1000000000) (hg : Nat.gcd a b < 1000000000) (hE : Env B w) :
    Calls Tryz.prog 39 #[.string (ds a), .string (ds b), .func (.func 83) #[] #[]] w fun e w' => e = .returned (.tuple #[.string (ds (Nat.gcd a b)), .int .i64 0]) ∧ Below w.heap.size w w' := by
  have V1 := Lib.hid (valid_any a (by omega))
  have V2 := Lib.hid (valid_any b (by omega))
  have R1 := Lib.hid (fun W => read_any W a (by omega))
  have R2 := Lib.hid (fun W => read_any W b (by omega))
  have HE := Lib.hid hE
  have HAB := Lib.hid (And.intro ha (And.intro hb hg))
  clear ha hb hg hE
  go_enter Tryz.func39, Tryz.ntmps39
  go_wp2_with fail
  refine (V1.out _).mono ?_
  rintro e w1 ⟨rfl, hb1⟩
  go_wp2_with fail
  refine (V2.out _).mono ?_
  rintro e w2 ⟨rfl, hb2⟩
  go_wp2_with fail
  refine (R1.out _).mono ?_
  rintro e w3 ⟨A1, n1, c1, rfl, hc1, hr1, hb3⟩
  have Q1 := Lib.hid hr1
  clear hr1
  go_wp2_with fail
  refine (R2.out _).mono ?_
  rintro e w4 ⟨A2, n2, c2, rfl, hc2, hr2, hb4⟩
  have Q2 := Lib.hid hr2
  clear hr2
  go_wp2_with fail
  refine (gcdL_any w4 A1 A2 n1 c1 n2 c2 a b (Q1.out.up hb4) Q2.out hc1.1 hc2.1 HAB.out.1 HAB.out.2.1).mono ?_
  rintro e w5 ⟨A3, n3, c3, rfl, hr3, hb5⟩
  have Q3 := Lib.hid hr3
  clear hr3
  have hall : Below w.heap.size w w5 := (((hb1.trans (hb2.mono hb1.size)).trans (hb3.mono (Nat.le_trans hb1.size hb2.size))).trans (hb4.mono (by have := hb1.size; have := hb2.size; have := hb3.size; omega))).trans (hb5.mono (by have := hb1.size; have := hb2.size; have := hb3.size; have := hb4.size; omega))
  go_wp2_with fail
  refine (text_any B w5 A3 n3 c3 _ Q3.out HAB.out.2.2 (HE.out.up hall)).mono ?_
  rintro e w6 ⟨rfl, hb6⟩
  go_wp2_with fail
  go_ret2
  exact ⟨rfl, hall.trans (hb6.mono hall.size)⟩

set_option maxHeartbeats 1000000 in
theorem gcd_call (B : Nat) (w : World) (a b : Nat) (ha : a < 1000000000) (hb : b < 1000000000) (hg : Nat.gcd a b < 1000000000) (hE : Env B w) :
    Calls Tryz.prog 54 #[.string (ds a), .string (ds b)] w fun e w' => e = .returned (.tuple #[.string (ds (Nat.gcd a b)), .int .i64 0]) ∧ Below w.heap.size w w' := by
  have H := Lib.hid (both_gcd B w a b ha hb hg hE)
  clear ha hb hg hE
  go_enter Tryz.func54, Tryz.ntmps54
  go_wp2_with fail
  refine H.out.mono ?_
  rintro e w6 ⟨rfl, hb6⟩
  go_wp2_with fail
  go_ret2
  exact ⟨rfl, hb6⟩

/-- A rational's value. -/
def rat (neg : Bool) (p q : ByteArray) : Value := .agg #[.bool neg, .string p, .string q]
def low (neg : Bool) (a b : Nat) : Value := if a = 0 then .agg #[.bool false, .string (ds 0), .string (ds 1)] else .agg #[.bool neg, .string (ds (a / Nat.gcd a b)), .string (ds (b / Nat.gcd a b))]
theorem ds0 : ds 0 = ⟨#[48]⟩ := by unfold ds; rw [dec_unfold]; rfl
theorem ds1 : ds 1 = ⟨#[49]⟩ := by unfold ds; rw [dec_unfold]; rfl

set_option maxHeartbeats 1000000 in
theorem lowest_zero (w : World) (neg : Bool) (b : Nat) :
    Calls Tryz.prog 44 #[.bool neg, .string (ds 0), .string (ds b)] w fun e w' => e = .returned (.agg #[.bool false, .string (ds 0), .string (ds 1)]) ∧ Below w.heap.size w w' := by
  have h0 : ((ds 0).toList == [48]) = true := by rw [ds_is0]; rfl
  obtain ⟨z, hz⟩ : ∃ z, z = ds 0 := ⟨_, rfl⟩
  have e0 : Hid (z = ⟨#[48]⟩) := by rw [hz, ds0]; exact Lib.hid rfl
  rw [← hz] at h0 ⊢
  clear hz
  rw [ds1]
  go_enter Tryz.func44, Tryz.ntmps44
  go_wp2_with fail
  exact bodyPost_ret (v := .agg #[.bool false, .string ⟨#[48]⟩, .string ⟨#[49]⟩]) (by simp [results, Tryz.results44, go_sem]) rfl ⟨by rw [e0.out], (Below.refl _ _).alloc (Nat.le_refl _) _⟩

set_option maxHeartbeats 1000000 in
theorem lowest_pos (B : Nat) (w : World) (neg : Bool) (a b g x y : Nat) (hg : Hid (g = Nat.gcd a b ∧ x = a / g ∧ y = b / g)) (ha0 : 0 < a) (ha : a < 1000000000) (hb0 : 0 < b) (hb : b < 1000000000) (hE : Env B w) :
    Calls Tryz.prog 44 #[.bool neg, .string (ds a), .string (ds b)] w fun e w' => e = .returned (.agg #[.bool neg, .string (ds x), .string (ds y)]) ∧ Below w.heap.size w w' := by
  have hne : ((ds a).toList == [48]) = false := by rw [ds_is0]; simp; omega
  have HF := Lib.hid (And.intro ha0 (And.intro ha (And.intro hb0 hb)))
  have HE := Lib.hid hE
  have hgp : 0 < g := by rw [hg.out.1]; exact Nat.gcd_pos_of_pos_left _ ha0
  have hgl : g < 1000000000 := by rw [hg.out.1]; exact Nat.lt_of_le_of_lt (Nat.gcd_le_left _ ha0) ha
  have HG := Lib.hid (And.intro hgp hgl)
  clear hgp hgl ha0 ha hb0 hb hE
  go_enter Tryz.func44, Tryz.ntmps44
  go_wp2_with fail
  have b0 : Below w.heap.size w (w.alloc (.cells #[.bool false, .string ⟨#[]⟩, .string ⟨#[]⟩] 31)) := (Below.refl _ _).alloc (Nat.le_refl _) _
  have hblk : Blk (w.alloc (.cells #[.bool false, .string ⟨#[]⟩, .string ⟨#[]⟩] 31)) w.heap.size 31 #[.bool false, .string ⟨#[]⟩, .string ⟨#[]⟩] := Blk.new _ _ _
  refine (gcd_call B _ a b HF.out.2.1 HF.out.2.2.2 (by rw [← hg.out.1]; exact HG.out.2) (HE.out.on (b0.mono HE.out.le))).mono ?_
  rw [← hg.out.1]
  rintro e w1 ⟨rfl, hb1⟩
  have b1 : Below w.heap.size w w1 := b0.trans (hb1.mono (by simp))
  have k1 := hblk.below hb1 hblk.lt
  clear b0 hblk
  go_wp2_with fail
  refine (divn_aux B w1 a g x (a % g) (Lib.hid ⟨hg.out.2.1, rfl⟩) HF.out.2.1 HG.out.1 HG.out.2 (HE.out.on (b1.mono HE.out.le))).mono ?_
  rintro e w2 ⟨rfl, hb2⟩
  have b2 : Below w.heap.size w w2 := b1.trans (hb2.mono b1.size)
  have k2 := k1.below hb2 k1.lt
  clear b1 k1
  go_wp2_with fail
  refine (divn_aux B w2 b g y (b % g) (Lib.hid ⟨hg.out.2.2, rfl⟩) HF.out.2.2.2 HG.out.1 HG.out.2 (HE.out.on (b2.mono HE.out.le))).mono ?_
  rintro e w3 ⟨rfl, hb3⟩
  have b3 : Below w.heap.size w w3 := b2.trans (hb3.mono b2.size)
  have k3 := k2.below hb3 k2.lt
  clear b2 k2
  have c0 : w3.cell? ⟨w.heap.size, 0, none⟩ = some (.bool false) := by rw [k3.cell]; rfl
  have c1 : w3.cell? ⟨w.heap.size, 1, none⟩ = some (.string ⟨#[]⟩) := by rw [k3.cell]; rfl
  have c2 : w3.cell? ⟨w.heap.size, 2, none⟩ = some (.string ⟨#[]⟩) := by rw [k3.cell]; rfl
  have f0 := k3.free 0
  have f1 := k3.free 1
  have f2 := k3.free 2
  have HB := Lib.hid b3
  have HK := Lib.hid k3
  clear b3 k3
  go_wp2_with fail
  have hlt := HK.out.lt
  refine bodyPost_ret (v := .agg #[.bool neg, .string (ds x), .string (ds y)]) (by simp [results, Tryz.results44, go_sem, hlt, c0, c1, c2]) rfl ⟨rfl, ?_⟩
  exact ((HB.out.setCell (p := ⟨w.heap.size, 0, none⟩) (Nat.le_refl _) _).setCell (p := ⟨w.heap.size, 1, none⟩) (Nat.le_refl _) _).setCell (p := ⟨w.heap.size, 2, none⟩) (Nat.le_refl _) _

/-- num and den of a quotient in lowest terms. -/
def lowN (a b : Nat) : Nat := if a = 0 then 0 else a / Nat.gcd a b
def lowD (a b : Nat) : Nat := if a = 0 then 1 else b / Nat.gcd a b
def lowS (neg : Bool) (a : Nat) : Bool := if a = 0 then false else neg

theorem lowest_any (B : Nat) (w : World) (neg : Bool) (a b : Nat) (ha : a < 1000000000) (hb0 : 0 < b) (hb : b < 1000000000) (hE : Env B w) :
    Calls Tryz.prog 44 #[.bool neg, .string (ds a), .string (ds b)] w fun e w' => e = .returned (.agg #[.bool (lowS neg a), .string (ds (lowN a b)), .string (ds (lowD a b))]) ∧ Below w.heap.size w w' := by
  unfold lowN lowD lowS
  by_cases h : a = 0
  · subst h
    exact lowest_zero w neg b
  · rw [if_neg h, if_neg h, if_neg h]
    exact lowest_pos B w neg a b _ _ _ (Lib.hid ⟨rfl, rfl, rfl⟩) (by omega) ha hb0 hb hE

set_option maxHeartbeats 1000000 in
theorem make_call (B : Nat) (w : World) (neg : Bool) (a b : Nat) (ha : a < 1000000000) (hb0 : 0 < b) (hb : b < 1000000000) (hE : Env B w) :
    Calls Tryz.prog 27 #[.bool neg, .string (ds a), .string (ds b)] w fun e w' => e = .returned (.tuple #[.agg #[.bool (lowS neg a), .string (ds (lowN a b)), .string (ds (lowD a b))], .int .i64 0]) ∧ Below w.heap.size w w' := by
  obtain ⟨sx, hsx⟩ : ∃ x, x = lowS neg a := ⟨_, rfl⟩
  obtain ⟨nx, hnx⟩ : ∃ x, x = ds (lowN a b) := ⟨_, rfl⟩
  obtain ⟨dx, hdx⟩ : ∃ x, x = ds (lowD a b) := ⟨_, rfl⟩
  have V1 := Lib.hid (valid_any a (by omega))
  have V2 := Lib.hid (valid_any b (by omega))
  have hne : ((ds b).toList == [48]) = false := by rw [ds_is0]; simp; omega
  have HL := Lib.hid (fun W (h : Env B W) => lowest_any B W neg a b ha hb0 hb h)
  rw [← hsx, ← hnx, ← hdx] at HL ⊢
  have HE := Lib.hid hE
  clear ha hb0 hb hE hsx hnx hdx
  go_enter Tryz.func27, Tryz.ntmps27
  go_wp2_with fail
  have b0 : Below w.heap.size w (w.alloc (.cells #[.bool false, .string ⟨#[]⟩, .string ⟨#[]⟩] 31)) := (Below.refl _ _).alloc (Nat.le_refl _) _
  have k0 : Blk (w.alloc (.cells #[.bool false, .string ⟨#[]⟩, .string ⟨#[]⟩] 31)) w.heap.size 31 #[.bool false, .string ⟨#[]⟩, .string ⟨#[]⟩] := Blk.new _ _ _
  refine (V1.out _).mono ?_
  rintro e w1 ⟨rfl, hb1⟩
  have b1 : Below w.heap.size w w1 := b0.trans (hb1.mono (by simp))
  have k1 := k0.below hb1 k0.lt
  clear b0 k0
  go_wp2_with fail
  refine (V2.out _).mono ?_
  rintro e w2 ⟨rfl, hb2⟩
  have b2 : Below w.heap.size w w2 := b1.trans (hb2.mono b1.size)
  have k2 := k1.below hb2 k1.lt
  clear b1 k1
  go_wp2_with fail
  refine (HL.out w2 (HE.out.on (b2.mono HE.out.le))).mono ?_
  rintro e w3 ⟨rfl, hb3⟩
  have b3 : Below w.heap.size w w3 := b2.trans (hb3.mono b2.size)
  have k3 := k2.below hb3 k2.lt
  clear b2 k2
  have c0 : w3.cell? ⟨w.heap.size, 0, none⟩ = some (.bool false) := by rw [k3.cell]; rfl
  have c1 : w3.cell? ⟨w.heap.size, 1, none⟩ = some (.string ⟨#[]⟩) := by rw [k3.cell]; rfl
  have c2 : w3.cell? ⟨w.heap.size, 2, none⟩ = some (.string ⟨#[]⟩) := by rw [k3.cell]; rfl
  have f0 := k3.free 0
  have f1 := k3.free 1
  have f2 := k3.free 2
  have HB := Lib.hid b3
  have HK := Lib.hid k3
  clear b3 k3
  go_wp2_with fail
  have hlt := HK.out.lt
  refine bodyPost_ret (v := .tuple #[.agg #[.bool sx, .string nx, .string dx], .int .i64 0]) (by simp [results, Tryz.results27, go_sem, hlt, c0, c1, c2]) rfl ⟨rfl, ?_⟩
  exact ((HB.out.setCell (p := ⟨w.heap.size, 0, none⟩) (Nat.le_refl _) _).setCell (p := ⟨w.heap.size, 1, none⟩) (Nat.le_refl _) _).setCell (p := ⟨w.heap.size, 2, none⟩) (Nat.le_refl _) _
end Go.Proofs.YtdapflgfocideaaGreatDoor
