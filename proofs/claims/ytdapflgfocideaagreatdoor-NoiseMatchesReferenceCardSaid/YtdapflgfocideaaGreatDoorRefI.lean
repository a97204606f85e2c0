/- Contracts of observatoryref03.Gcd, Div and observatoryref04.Zero, lowest, Make. -/
import Derived.Test.YtdapflgfocideaaGreatDoorRefH
namespace Go.Proofs.YtdapflgfocideaaGreatDoor
open Go Go.RowKit Go.Deep
open Go.Lib (decDigits)
attribute [local go_sem] guardO guardR

set_option maxHeartbeats 1000000 in
theorem rgcd_call (w : World) (a b : Nat) (ha : a < 1000000000) (hb : b < 1000000000) :
    Calls Tryz.prog 68 #[.string (ds a), .string (ds b)] w fun e w' => e = .returned (.tuple #[.string (ds (Nat.gcd a b)), .int .i64 0]) ∧ Below w.heap.size w w' := by
  have H := Lib.hid (And.intro ha hb)
  clear ha hb
  go_enter Tryz.func68, Tryz.ntmps68
  go_wp2_with fail
  refine (rvalid_call a (by have := H.out; omega) w).mono ?_
  rintro e w' ⟨rfl, rfl⟩
  go_wp2_with fail
  refine (rvalid_call b (by have := H.out; omega) w).mono ?_
  rintro e w' ⟨rfl, rfl⟩
  go_wp2_with fail
  go_loopg [6, 7] b (fun gk s6 s7 wr => ∃ x y : Nat, s6 = .string (ds x) ∧ s7 = .string (ds y) ∧ gk = y ∧ Hid (x < 1000000000 ∧ y < 1000000000 ∧ Nat.gcd x y = Nat.gcd a b) ∧ Hid (Below w.heap.size w wr))
  case atStart => exact ⟨a, b, rfl, rfl, rfl, Lib.hid ⟨H.out.1, H.out.2, rfl⟩, Lib.hid (Below.refl _ _)⟩
  case round =>
    obtain ⟨x, y, rfl, rfl, rfl, hxy, hbr⟩ := hrel
    by_cases hy : gk = 0
    · have hz : ((ds gk).toList == [48]) = true := by rw [ds_is0]; simp [hy]
      have hg : Nat.gcd a b = x := by rw [← hxy.out.2.2, hy, Nat.gcd_zero_right]
      have HG := Lib.hid hg
      clear hg hy
      go_wp2_with fail
      go_ret2
      exact ⟨by rw [HG.out]; rfl, hbr.out⟩
    · have hz : ((ds gk).toList == [48]) = false := by rw [ds_is0]; simp [hy]
      have HD := Lib.hid (rdiv_call wr x gk hxy.out.1 (by omega) hxy.out.2.1)
      have HN : Hid (gk < 1000000000 ∧ x % gk < 1000000000 ∧ Nat.gcd gk (x % gk) = Nat.gcd a b ∧ x % gk < gk) := Lib.hid (by
        have h1 := Nat.mod_lt x (show 0 < gk by omega)
        have h2 := hxy.out
        refine ⟨h2.2.1, by omega, ?_, h1⟩
        rw [← h2.2.2, Nat.gcd_comm gk, ← Nat.gcd_rec, Nat.gcd_comm])
      clear hy
      go_wp2_with fail
      refine HD.out.mono ?_
      rintro e w1 ⟨rfl, b1⟩
      have hbn : Hid (Below w.heap.size w w1) := Lib.hid (hbr.out.trans (b1.mono hbr.out.size))
      clear b1
      go_wp2_with fail
      go_roundg (x % gk)
      case measure => exact HN.out.2.2.2
      case rel => exact ⟨gk, x % gk, rfl, rfl, rfl, Lib.hid ⟨HN.out.1, HN.out.2.1, HN.out.2.2.1⟩, hbn⟩
theorem rDiv_call (w : World) (a b : Nat) (ha : a < 1000000000) (hb0 : 0 < b) (hb : b < 1000000000) :
    Calls Tryz.prog 69 #[.string (ds a), .string (ds b)] w fun e w' => e = .returned (.tuple #[.string (ds (a / b)), .string (ds (a % b)), .int .i64 0]) ∧ Below w.heap.size w w' := by
  have H := Lib.hid (And.intro ha (And.intro hb0 hb))
  have hz : ((ds b).toList == [48]) = false := by rw [ds_is0]; simp; omega
  clear ha hb hb0
  go_enter Tryz.func69, Tryz.ntmps69
  go_wp2_with fail
  refine (rvalid_call a (by have := H.out; omega) w).mono ?_
  rintro e w' ⟨rfl, rfl⟩
  go_wp2_with fail
  refine (rvalid_call b (by have := H.out; omega) w).mono ?_
  rintro e w' ⟨rfl, rfl⟩
  go_wp2_with fail
  refine (rdiv_call w a b H.out.1 H.out.2.1 H.out.2.2).mono ?_
  rintro e w1 ⟨rfl, b1⟩
  go_wp2_with fail
  go_ret3
  exact ⟨rfl, b1⟩

theorem rzero_call (w : World) :
    Calls Tryz.prog 67 #[] w fun e w' => e = .returned (.agg #[.bool false, .string (ds 0), .string (ds 1)]) ∧ Below w.heap.size w w' := by
  have e0 : (⟨#[48]⟩ : ByteArray) = ds 0 := ds0.symm
  have e1 : (⟨#[49]⟩ : ByteArray) = ds 1 := ds1.symm
  have k0 : Blk (w.alloc (.cells #[.bool false, .string ⟨#[48]⟩, .string ⟨#[49]⟩] 31)) w.heap.size 31 #[.bool false, .string ⟨#[48]⟩, .string ⟨#[49]⟩] := Blk.new _ _ _
  have c0 : (w.alloc (.cells #[.bool false, .string ⟨#[48]⟩, .string ⟨#[49]⟩] 31)).cell? ⟨w.heap.size, 0, none⟩ = some (.bool false) := by rw [k0.cell]; rfl
  have c1 : (w.alloc (.cells #[.bool false, .string ⟨#[48]⟩, .string ⟨#[49]⟩] 31)).cell? ⟨w.heap.size, 1, none⟩ = some (.string ⟨#[48]⟩) := by rw [k0.cell]; rfl
  have c2 : (w.alloc (.cells #[.bool false, .string ⟨#[48]⟩, .string ⟨#[49]⟩] 31)).cell? ⟨w.heap.size, 2, none⟩ = some (.string ⟨#[49]⟩) := by rw [k0.cell]; rfl
  rw [← e0, ← e1]
  clear e0 e1 k0
  go_enter Tryz.func67, Tryz.ntmps67
  go_wp2_with fail
  refine bodyPost_ret (v := .agg #[.bool false, .string ⟨#[48]⟩, .string ⟨#[49]⟩]) (by simp [results, Tryz.results67, go_sem, c0, c1, c2]) rfl ⟨rfl, ?_⟩
  exact (Below.refl _ _).alloc (Nat.le_refl _) _
end Go.Proofs.YtdapflgfocideaaGreatDoor
