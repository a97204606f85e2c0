/- The contracts of rational.Valid and rational.Compare at numbers that are not negative, in lowest terms. -/
import Derived.Test.YtdapflgfocideaaGreatDoorUint
import Derived.RegionTactic
import Derived.BigRegion
namespace Go.Proofs.YtdapflgfocideaaGreatDoor
open Go Go.RowKit Go.Deep
open Go.Lib (decDigits)
attribute [local go_sem] guardO guardR

/-- A numerator and a denominator in lowest terms. -/
structure Low (p q : Nat) : Prop where
  p9 : p < 1000000000
  q0 : 0 < q
  q9 : q < 1000000000
  one : p = 0 → q = 1
  cop : Nat.gcd p q = 1

set_option maxHeartbeats 1000000 in
theorem ratvalid_any (B : Nat) (p q : Nat) (h : Low p q) (w : World) (hE : Env B w) :
    Calls Tryz.prog 35 #[.agg #[.bool false, .string (ds p), .string (ds q)]] w fun e w' => e = .returned (.bool true) ∧ Below w.heap.size w w' := by
  have HE := Lib.hid hE
  have V1 := Lib.hid (valid_any p (by have := h.p9; omega))
  have V2 := Lib.hid (valid_any q (by have := h.q9; omega))
  have hq := h.q0
  have hqe : ((ds q).toList == [48]) = false := by rw [ds_is0]; simp; omega
  have k0 : Blk (w.alloc (.cells #[.bool false, .string (ds p), .string (ds q)] 31)) w.heap.size 31 #[.bool false, .string (ds p), .string (ds q)] := Blk.new _ _ _
  have b0 : Below w.heap.size w (w.alloc (.cells #[.bool false, .string (ds p), .string (ds q)] 31)) := (Below.refl _ _).alloc (Nat.le_refl _) _
  have HK := Lib.hid (And.intro k0 b0)
  have H := Lib.hid h
  clear hE k0 b0 h
  by_cases hp : p = 0
  · have hq1 : q = 1 := H.out.one hp
    subst hp
    subst hq1
    have hpe : ((ds 0).toList == [48]) = true := by rw [ds_is0]; rfl
    go_enter Tryz.func35, Tryz.ntmps35
    go_wp2_with fail
    refine (V1.out _).mono ?_
    rintro e w1 ⟨rfl, hb1⟩
    have k1 := HK.out.1.below hb1 HK.out.1.lt
    have B1 := Lib.hid (HK.out.2.trans (hb1.mono (by simp)))
    have c0 : w1.cell? ⟨w.heap.size, 0, none⟩ = some (.bool false) := by rw [k1.cell]; rfl
    have c1 : w1.cell? ⟨w.heap.size, 1, none⟩ = some (.string (ds 0)) := by rw [k1.cell]; rfl
    have c2 : w1.cell? ⟨w.heap.size, 2, none⟩ = some (.string (ds 1)) := by rw [k1.cell]; rfl
    clear hb1
    go_wp2_with fail
    refine (V2.out _).mono ?_
    rintro e w2 ⟨rfl, hb2⟩
    have k2 := k1.below hb2 k1.lt
    have B2 := Lib.hid (B1.out.trans (hb2.mono B1.out.size))
    have d0 : w2.cell? ⟨w.heap.size, 0, none⟩ = some (.bool false) := by rw [k2.cell]; rfl
    have d1 : w2.cell? ⟨w.heap.size, 1, none⟩ = some (.string (ds 0)) := by rw [k2.cell]; rfl
    have d2 : w2.cell? ⟨w.heap.size, 2, none⟩ = some (.string (ds 1)) := by rw [k2.cell]; rfl
    have e1 : (ds 1).toList = [49] := by rw [ds_toList, dec_unfold]; rfl
    have e0 : (ds 0).toList = [48] := by rw [ds_toList, dec_unfold]; rfl
    clear hb2 c0 c1 c2 k1 k2
    go_wp2_with fail
    go_ret
    exact ⟨by simp, B2.out⟩
  · have hpe : ((ds p).toList == [48]) = false := by rw [ds_is0]; simp; omega
    have hg : Nat.gcd p q = 1 := H.out.cop
    have HG := Lib.hid (gcd_call B (hE := HE.out) (w := w) (a := p) (b := q) H.out.p9 H.out.q9 (by rw [hg]; omega))
    go_enter Tryz.func35, Tryz.ntmps35
    go_wp2_with fail
    refine (V1.out _).mono ?_
    rintro e w1 ⟨rfl, hb1⟩
    have k1 := HK.out.1.below hb1 HK.out.1.lt
    have B1 := Lib.hid (HK.out.2.trans (hb1.mono (by simp)))
    have c0 : w1.cell? ⟨w.heap.size, 0, none⟩ = some (.bool false) := by rw [k1.cell]; rfl
    have c1 : w1.cell? ⟨w.heap.size, 1, none⟩ = some (.string (ds p)) := by rw [k1.cell]; rfl
    have c2 : w1.cell? ⟨w.heap.size, 2, none⟩ = some (.string (ds q)) := by rw [k1.cell]; rfl
    clear hb1
    go_wp2_with fail
    refine (V2.out _).mono ?_
    rintro e w2 ⟨rfl, hb2⟩
    have k2 := k1.below hb2 k1.lt
    have B2 := Lib.hid (B1.out.trans (hb2.mono B1.out.size))
    have d0 : w2.cell? ⟨w.heap.size, 0, none⟩ = some (.bool false) := by rw [k2.cell]; rfl
    have d1 : w2.cell? ⟨w.heap.size, 1, none⟩ = some (.string (ds p)) := by rw [k2.cell]; rfl
    have d2 : w2.cell? ⟨w.heap.size, 2, none⟩ = some (.string (ds q)) := by rw [k2.cell]; rfl
    clear hb2 c0 c1 c2 k1 k2 hg HG
    go_wp2_with fail
    refine (gcd_call B w2 p q H.out.p9 H.out.q9 (by rw [H.out.cop]; omega) (HE.out.up B2.out)).mono ?_
    rw [H.out.cop]
    rintro e w3 ⟨rfl, hb3⟩
    have B3 := Lib.hid (B2.out.trans (hb3.mono B2.out.size))
    have e1 : (ds 1).toList = [49] := by rw [ds_toList, dec_unfold]; rfl
    clear hb3
    go_wp2_with fail
    go_ret
    exact ⟨by simp [e1], B3.out⟩
end Go.Proofs.YtdapflgfocideaaGreatDoor
