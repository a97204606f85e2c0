/- Contracts of observatoryref03.sub and div. -/
import Derived.Test.YtdapflgfocideaaGreatDoorRefE
namespace Go.Proofs.YtdapflgfocideaaGreatDoor
open Go Go.RowKit Go.Deep
open Go.Lib (decDigits)
attribute [local go_sem] guardO guardR

set_option maxHeartbeats 2000000 in
set_option maxRecDepth 10000 in
theorem rsub_call (w : World) (a b : Nat) (ha : a < 1000000000000000000) (hb : b ≤ a) :
    Calls Tryz.prog 131 #[.string (ds a), .string (ds b)] w fun e w' => e = .returned (.string (ds (a - b))) ∧ Below w.heap.size w w' := by
  have la : (ds a).size = (dl a).length := by rw [← dl_ds, bs_size]
  have l9 : (ds a).size ≤ 18 := by rw [ds_size]; exact dec_len18 a ha
  have hp := dec_pos a
  rw [← ds_size] at hp
  have LA := Lib.hid la
  have HAB := Lib.hid (And.intro ha hb)
  have AT1 := Lib.hid (fun p (hp : p ≤ 1000) W => at_call a p (by omega) hp W)
  have AT2 := Lib.hid (fun p (hp : p ≤ 1000) W => at_call b p (by omega) hp W)
  obtain ⟨D, hD⟩ : ∃ D, D = a - b := ⟨_, rfl⟩
  have HDD := Lib.hid hD
  rw [← hD]
  obtain ⟨i0, hi0, hz0, hz1, hz2⟩ := info_parts infoByte
  clear la ha hb hD
  go_enter Tryz.func131, Tryz.ntmps131
  go_wp2_with fail
  go_loopg [5, 6, 7] (ds a).size (fun gk s5 s6 s7 wr => ∃ i c : Nat, s7 = .int .i64 i ∧ i ≤ (ds a).size ∧ gk = (ds a).size - i ∧ s6 = .int .i64 c ∧ c ≤ 1 ∧ Hid (a / 10 ^ i = b / 10 ^ i + c + D / 10 ^ i) ∧ Hid (wr.ownsRow w.heap.size 5 1 s5 i ((lowd D i).map u8v) ∧ Below w.heap.size w wr))
  case atStart => exact ⟨0, 0, rfl, by omega, rfl, rfl, by omega, Lib.hid (by have := HDD.out; have := HAB.out; simp; omega), Lib.hid ⟨World.ownsRow_nil _ _ _ _, Below.refl _ _⟩⟩
  case round =>
    obtain ⟨i, c, rfl, hi, rfl, rfl, hc, hs, hst⟩ := hrel
    by_cases hin : i < (ds a).size
    · obtain ⟨x, hx⟩ : ∃ x, x = a / 10 ^ i % 10 := ⟨_, rfl⟩
      obtain ⟨y, hy⟩ : ∃ y, y = b / 10 ^ i % 10 := ⟨_, rfl⟩
      have hx10 : x < 10 := by omega
      have hy10 : y < 10 := by omega
      have C1 := Lib.hid (AT1.out i (by omega) wr)
      have C2 := Lib.hid (AT2.out i (by omega) wr)
      rw [← hx] at C1
      rw [← hy] at C2
      obtain ⟨d, hd⟩ : ∃ d, d = (x + 10 - y - c) % 10 := ⟨_, rfl⟩
      obtain ⟨q, hq⟩ : ∃ q, q = (x + 10 - y - c) / 10 := ⟨_, rfl⟩
      obtain ⟨c', hc'⟩ : ∃ c', c' = 1 - q := ⟨_, rfl⟩
      have HD : Hid (D / 10 ^ i % 10 = d) := Lib.hid (by
        have := hs.out
        rw [hd, hx, hy]
        generalize a / 10 ^ i = A at *
        generalize b / 10 ^ i = B at *
        generalize D / 10 ^ i = E at *
        omega)
      have HC : Hid (a / 10 ^ (i + 1) = b / 10 ^ (i + 1) + c' + D / 10 ^ (i + 1)) := Lib.hid (by
        have := hs.out
        rw [pow_div, pow_div, pow_div, hc', hq, hx, hy]
        generalize a / 10 ^ i = A at *
        generalize b / 10 ^ i = B at *
        generalize D / 10 ^ i = E at *
        omega)
      have hr1 : ((x : Int) - y - c + 10).tmod 10 = d := by rw [Int.tmod_eq_emod_of_nonneg (by omega)]; omega
      have hr2 : ((x : Int) - y - c + 10).tdiv 10 = q := by rw [Int.tdiv_eq_ediv_of_nonneg (by omega)]; omega
      have hr3 : ((x : Int) - y - c + 10) / 10 = q := by omega
      have hr4 : ((x : Int) - y - c + 10) % 10 = d := by omega
      have hw8 : IntKind.u8.wrap (d : Int) = d := IntWalk.u8_in _ (by omega)
      have hd10 : d < 10 := by omega
      have hq1 : q ≤ 1 := by omega
      have hc1 : c' ≤ 1 := by omega
      have hqc : (1 : Int) - q = c' := by omega
      clear hx hy hd hc' hq
      have hbsz := hst.out.2.size
      have hz : (i : Int) < (ds a).size := by omega
      go_wp2_with fail
      refine C1.out.mono ?_
      rintro e w' ⟨rfl, rfl⟩
      go_wp2_with fail
      refine C2.out.mono ?_
      rintro e w' ⟨rfl, rfl⟩
      go_wp2_with (at_builtin; refine wpList_append_own _ rfl _ _ 94 rfl w.heap.size 5 i0 (.int .u8 0) 1 1 Tryz.underlying94 hi0 hz0 hz1 hz2 rfl (by decide) _ _ _ rfl (hst.out.1.alloc _) ⟨wr.heap.size, 0, none⟩ 1 1 [.int .u8 d] rfl rfl (cell_one_new _ _ _) (by simp [Value.oneCell']) (by unfold maxLen; omega) (by omega) (by simp; omega) ?_)
      intro v' w2 hown' hgrow _
      have HN : Hid (w2.ownsRow w.heap.size 5 1 v' (i + 1) ((lowd D (i + 1)).map u8v) ∧ Below w.heap.size w w2) := Lib.hid ⟨by
        rw [lowd_succ, HD.out, List.map_append]
        exact hown', (hst.out.2.alloc hbsz _).grown hgrow (by simp; omega) (fun q e => (hst.out.1.lt q e).1)⟩
      clear hown' hgrow
      go_wp2_with fail
      go_roundg ((ds a).size - (i + 1))
      case measure => omega
      case rel => exact ⟨i + 1, c', by go_num, by omega, rfl, by first | rfl | rw [hqc] | go_num | (congr 1), hc1, HC, HN⟩
    · obtain rfl : i = (ds a).size := by omega
      have e1 : a / 10 ^ (ds a).size = 0 := dl_beyond a _ (by have := LA.out; omega)
      have e3 : D % 10 ^ (ds a).size = D := div_small (by
        have h1 := hs.out
        rw [e1] at h1
        generalize D / 10 ^ (ds a).size = E at h1 ⊢
        generalize b / 10 ^ (ds a).size = F at h1
        omega)
      obtain ⟨A5, c5, rfl, _, rd5, _⟩ := own_rd0 hst.out.1
      have HT := Lib.hid (text_call wr wr.heap.size A5 (ds a).size c5 (lowd D (ds a).size) rd5 (Nat.le_refl _) (lowd_dig _ _) (by omega) (by omega))
      rw [lowd_vb, e3] at HT
      have HBL := Lib.hid hst.out.2
      clear e1 e3 rd5 hst hs
      go_wp2_with fail
      refine HT.out.mono ?_
      rintro e w3 ⟨rfl, b3⟩
      go_wp2_with fail
      go_ret
      exact ⟨rfl, HBL.out.trans (b3.mono HBL.out.size)⟩
end Go.Proofs.YtdapflgfocideaaGreatDoor
