/- Contracts of observatoryref03.add and sub. -/
import Derived.Test.YtdapflgfocideaaGreatDoorRefB
namespace Go.Proofs.YtdapflgfocideaaGreatDoor
open Go Go.RowKit Go.Deep
open Go.Lib (decDigits)
attribute [local go_sem] guardO guardR

/-- The lowest i digits of m, the lowest first. -/
def lowd (m i : Nat) : List Nat := (List.range i).map fun j => m / 10 ^ j % 10
theorem lowd_succ (m i : Nat) : lowd m (i + 1) = lowd m i ++ [m / 10 ^ i % 10] := by
  unfold lowd; rw [List.range_succ, List.map_append]; rfl
theorem lowd_len (m i : Nat) : (lowd m i).length = i := by simp [lowd]
theorem lowd_dig (m i : Nat) : Dig (lowd m i) := fun d hd => by
  unfold lowd at hd
  obtain ⟨j, _, rfl⟩ := List.mem_map.1 hd
  omega
theorem lowd_vb (m i : Nat) : vb (lowd m i).reverse = m % 10 ^ i := by
  induction i with
  | zero => simp [lowd, vb]; omega
  | succ i ih =>
    rw [lowd_succ, List.reverse_append]
    show vb ((m / 10 ^ i % 10) :: (lowd m i).reverse) = _
    rw [vb_cons, ih, List.length_reverse, lowd_len, Nat.mod_pow_succ, Nat.mul_comm]
    omega
theorem pow_div (m i : Nat) : m / 10 ^ (i + 1) = m / 10 ^ i / 10 := by rw [Nat.pow_succ, Nat.div_div_eq_div_mul]
theorem div_small {m i : Nat} (h : m / 10 ^ i = 0) : m % 10 ^ i = m := Nat.mod_eq_of_lt (by
  rcases Nat.lt_or_ge m (10 ^ i) with h1 | h1
  · exact h1
  · have := Nat.div_pos h1 (Nat.pow_pos (show 0 < 10 by omega)); omega)

set_option maxHeartbeats 2000000 in
set_option maxRecDepth 10000 in
theorem radd_call (w : World) (a b : Nat) (ha : a < 1000000000) (hb : b < 1000000000) :
    Calls Tryz.prog 47 #[.string (ds a), .string (ds b)] w fun e w' => e = .returned (.string (ds (a + b))) ∧ Below w.heap.size w w' := by
  have la : (ds a).size = (dl a).length := by rw [← dl_ds, bs_size]
  have lb : (ds b).size = (dl b).length := by rw [← dl_ds, bs_size]
  have l9 : (ds a).size ≤ 9 := by rw [ds_size]; exact dec_len9 a ha
  have m9 : (ds b).size ≤ 9 := by rw [ds_size]; exact dec_len9 b hb
  have LA := Lib.hid (And.intro la lb)
  have HAB := Lib.hid (And.intro ha hb)
  have AT1 := Lib.hid (fun p (hp : p ≤ 1000) W => at_call a p (by omega) hp W)
  have AT2 := Lib.hid (fun p (hp : p ≤ 1000) W => at_call b p (by omega) hp W)
  obtain ⟨i0, hi0, hz0, hz1, hz2⟩ := info_parts infoByte
  clear la lb ha hb
  go_enter Tryz.func47, Tryz.ntmps47
  go_wp2_with fail
  go_loopg [5, 6, 7] 11 (fun gk s5 s6 s7 wr => ∃ i c : Nat, s7 = .int .i64 i ∧ i ≤ 10 ∧ gk = 11 - i ∧ s6 = .int .i64 c ∧ c ≤ 1 ∧ Hid ((a + b) / 10 ^ i = a / 10 ^ i + b / 10 ^ i + c) ∧ Hid (wr.ownsRow w.heap.size 5 1 s5 i ((lowd (a + b) i).map u8v) ∧ Below w.heap.size w wr))
  case atStart => exact ⟨0, 0, rfl, by omega, rfl, rfl, by omega, Lib.hid (by simp), Lib.hid ⟨World.ownsRow_nil _ _ _ _, Below.refl _ _⟩⟩
  case round =>
    obtain ⟨i, c, rfl, hi, rfl, rfl, hc, hs, hst⟩ := hrel
    by_cases hcont : i < (ds a).size ∨ i < (ds b).size ∨ 0 < c
    · have hi9 : i < 10 := by
        rcases hcont with h | h | h
        · omega
        · omega
        · rcases Nat.lt_or_ge i 10 with h1 | h1
          · exact h1
          · exfalso
            obtain rfl : i = 10 := by omega
            have := hs.out
            have := HAB.out
            omega
      obtain ⟨x, hx⟩ : ∃ x, x = a / 10 ^ i % 10 := ⟨_, rfl⟩
      obtain ⟨y, hy⟩ : ∃ y, y = b / 10 ^ i % 10 := ⟨_, rfl⟩
      have hx10 : x < 10 := by omega
      have hy10 : y < 10 := by omega
      have C1 := Lib.hid (AT1.out i (by omega) wr)
      have C2 := Lib.hid (AT2.out i (by omega) wr)
      rw [← hx] at C1
      rw [← hy] at C2
      obtain ⟨d, hd⟩ : ∃ d, d = (x + y + c) % 10 := ⟨_, rfl⟩
      obtain ⟨c', hc'⟩ : ∃ c', c' = (x + y + c) / 10 := ⟨_, rfl⟩
      have HD : Hid ((a + b) / 10 ^ i % 10 = d) := Lib.hid (by rw [hs.out, hd, hx, hy]; omega)
      have HC : Hid ((a + b) / 10 ^ (i + 1) = a / 10 ^ (i + 1) + b / 10 ^ (i + 1) + c') := Lib.hid (by
        rw [pow_div, pow_div, pow_div, hs.out, hc', hx, hy]; omega)
      have hr1 : ((x : Int) + y + c).tmod 10 = d := by rw [Int.tmod_eq_emod_of_nonneg (by omega)]; omega
      have hr2 : ((x : Int) + y + c).tdiv 10 = c' := by rw [Int.tdiv_eq_ediv_of_nonneg (by omega)]; omega
      have hr3 : ((x : Int) + y + c) / 10 = c' := by omega
      have hr4 : ((x : Int) + y + c) % 10 = d := by omega
      have hw8 : IntKind.u8.wrap (d : Int) = d := IntWalk.u8_in _ (by omega)
      have hd10 : d < 10 := by omega
      have hc1 : c' ≤ 1 := by omega
      clear hx hy hd hc'
      have hbsz := hst.out.2.size
      rcases hcont with h | h | h
      · have hz : (i : Int) < (ds a).size := by omega
        go_wp2_with fail
        refine C1.out.mono ?_
        rintro e w' ⟨rfl, rfl⟩
        go_wp2_with fail
        refine C2.out.mono ?_
        rintro e w' ⟨rfl, rfl⟩
        go_wp2_with (at_builtin; refine wpList_append_own _ rfl _ _ 94 rfl w.heap.size 5 i0 (.int .u8 0) 1 1 Tryz.underlying94 hi0 hz0 hz1 hz2 rfl (by decide) _ _ _ rfl (hst.out.1.alloc _) ⟨wr.heap.size, 0, none⟩ 1 1 [.int .u8 d] rfl rfl (cell_one_new _ _ _) (by simp [Value.oneCell']) (by unfold maxLen; omega) (by omega) (by simp; omega) ?_)
        intro v' w2 hown' hgrow _
        have HN : Hid (w2.ownsRow w.heap.size 5 1 v' (i + 1) ((lowd (a + b) (i + 1)).map u8v) ∧ Below w.heap.size w w2) := Lib.hid ⟨by
          rw [lowd_succ, HD.out, List.map_append]
          exact hown', (hst.out.2.alloc hbsz _).grown hgrow (by simp; omega) (fun q e => (hst.out.1.lt q e).1)⟩
        clear hown' hgrow
        go_wp2_with fail
        go_roundg (11 - (i + 1))
        case measure => omega
        case rel => exact ⟨i + 1, c', by go_num, by omega, rfl, by first | rfl | go_num | rw [hr3] | (congr 1), hc1, HC, HN⟩
      · by_cases hA : i < (ds a).size
        · have hz : (i : Int) < (ds a).size := by omega
          go_wp2_with fail
          refine C1.out.mono ?_
          rintro e w' ⟨rfl, rfl⟩
          go_wp2_with fail
          refine C2.out.mono ?_
          rintro e w' ⟨rfl, rfl⟩
          go_wp2_with (at_builtin; refine wpList_append_own _ rfl _ _ 94 rfl w.heap.size 5 i0 (.int .u8 0) 1 1 Tryz.underlying94 hi0 hz0 hz1 hz2 rfl (by decide) _ _ _ rfl (hst.out.1.alloc _) ⟨wr.heap.size, 0, none⟩ 1 1 [.int .u8 d] rfl rfl (cell_one_new _ _ _) (by simp [Value.oneCell']) (by unfold maxLen; omega) (by omega) (by simp; omega) ?_)
          intro v' w2 hown' hgrow _
          have HN : Hid (w2.ownsRow w.heap.size 5 1 v' (i + 1) ((lowd (a + b) (i + 1)).map u8v) ∧ Below w.heap.size w w2) := Lib.hid ⟨by
            rw [lowd_succ, HD.out, List.map_append]
            exact hown', (hst.out.2.alloc hbsz _).grown hgrow (by simp; omega) (fun q e => (hst.out.1.lt q e).1)⟩
          clear hown' hgrow
          go_wp2_with fail
          go_roundg (11 - (i + 1))
          case measure => omega
          case rel => exact ⟨i + 1, c', by go_num, by omega, rfl, by first | rfl | go_num | rw [hr3] | (congr 1), hc1, HC, HN⟩
        · have hz1' : ¬ (i : Int) < (ds a).size := by omega
          have hz : (i : Int) < (ds b).size := by omega
          go_wp2_with fail
          refine C1.out.mono ?_
          rintro e w' ⟨rfl, rfl⟩
          go_wp2_with fail
          refine C2.out.mono ?_
          rintro e w' ⟨rfl, rfl⟩
          go_wp2_with (at_builtin; refine wpList_append_own _ rfl _ _ 94 rfl w.heap.size 5 i0 (.int .u8 0) 1 1 Tryz.underlying94 hi0 hz0 hz1 hz2 rfl (by decide) _ _ _ rfl (hst.out.1.alloc _) ⟨wr.heap.size, 0, none⟩ 1 1 [.int .u8 d] rfl rfl (cell_one_new _ _ _) (by simp [Value.oneCell']) (by unfold maxLen; omega) (by omega) (by simp; omega) ?_)
          intro v' w2 hown' hgrow _
          have HN : Hid (w2.ownsRow w.heap.size 5 1 v' (i + 1) ((lowd (a + b) (i + 1)).map u8v) ∧ Below w.heap.size w w2) := Lib.hid ⟨by
            rw [lowd_succ, HD.out, List.map_append]
            exact hown', (hst.out.2.alloc hbsz _).grown hgrow (by simp; omega) (fun q e => (hst.out.1.lt q e).1)⟩
          clear hown' hgrow
          go_wp2_with fail
          go_roundg (11 - (i + 1))
          case measure => omega
          case rel => exact ⟨i + 1, c', by go_num, by omega, rfl, by first | rfl | go_num | rw [hr3] | (congr 1), hc1, HC, HN⟩
      · by_cases hA : i < (ds a).size
        · have hz : (i : Int) < (ds a).size := by omega
          go_wp2_with fail
          refine C1.out.mono ?_
          rintro e w' ⟨rfl, rfl⟩
          go_wp2_with fail
          refine C2.out.mono ?_
          rintro e w' ⟨rfl, rfl⟩
          go_wp2_with (at_builtin; refine wpList_append_own _ rfl _ _ 94 rfl w.heap.size 5 i0 (.int .u8 0) 1 1 Tryz.underlying94 hi0 hz0 hz1 hz2 rfl (by decide) _ _ _ rfl (hst.out.1.alloc _) ⟨wr.heap.size, 0, none⟩ 1 1 [.int .u8 d] rfl rfl (cell_one_new _ _ _) (by simp [Value.oneCell']) (by unfold maxLen; omega) (by omega) (by simp; omega) ?_)
          intro v' w2 hown' hgrow _
          have HN : Hid (w2.ownsRow w.heap.size 5 1 v' (i + 1) ((lowd (a + b) (i + 1)).map u8v) ∧ Below w.heap.size w w2) := Lib.hid ⟨by
            rw [lowd_succ, HD.out, List.map_append]
            exact hown', (hst.out.2.alloc hbsz _).grown hgrow (by simp; omega) (fun q e => (hst.out.1.lt q e).1)⟩
          clear hown' hgrow
          go_wp2_with fail
          go_roundg (11 - (i + 1))
          case measure => omega
          case rel => exact ⟨i + 1, c', by go_num, by omega, rfl, by first | rfl | go_num | rw [hr3] | (congr 1), hc1, HC, HN⟩
        · by_cases hB : i < (ds b).size
          · have hz1' : ¬ (i : Int) < (ds a).size := by omega
            have hz : (i : Int) < (ds b).size := by omega
            go_wp2_with fail
            refine C1.out.mono ?_
            rintro e w' ⟨rfl, rfl⟩
            go_wp2_with fail
            refine C2.out.mono ?_
            rintro e w' ⟨rfl, rfl⟩
            go_wp2_with (at_builtin; refine wpList_append_own _ rfl _ _ 94 rfl w.heap.size 5 i0 (.int .u8 0) 1 1 Tryz.underlying94 hi0 hz0 hz1 hz2 rfl (by decide) _ _ _ rfl (hst.out.1.alloc _) ⟨wr.heap.size, 0, none⟩ 1 1 [.int .u8 d] rfl rfl (cell_one_new _ _ _) (by simp [Value.oneCell']) (by unfold maxLen; omega) (by omega) (by simp; omega) ?_)
            intro v' w2 hown' hgrow _
            have HN : Hid (w2.ownsRow w.heap.size 5 1 v' (i + 1) ((lowd (a + b) (i + 1)).map u8v) ∧ Below w.heap.size w w2) := Lib.hid ⟨by
              rw [lowd_succ, HD.out, List.map_append]
              exact hown', (hst.out.2.alloc hbsz _).grown hgrow (by simp; omega) (fun q e => (hst.out.1.lt q e).1)⟩
            clear hown' hgrow
            go_wp2_with fail
            go_roundg (11 - (i + 1))
            case measure => omega
            case rel => exact ⟨i + 1, c', by go_num, by omega, rfl, by first | rfl | go_num | rw [hr3] | (congr 1), hc1, HC, HN⟩
          · have hz1' : ¬ (i : Int) < (ds a).size := by omega
            have hz : ¬ (i : Int) < (ds b).size := by omega
            have hcz : (0 : Int) < c := by omega
            go_wp2_with fail
            refine C1.out.mono ?_
            rintro e w' ⟨rfl, rfl⟩
            go_wp2_with fail
            refine C2.out.mono ?_
            rintro e w' ⟨rfl, rfl⟩
            go_wp2_with (at_builtin; refine wpList_append_own _ rfl _ _ 94 rfl w.heap.size 5 i0 (.int .u8 0) 1 1 Tryz.underlying94 hi0 hz0 hz1 hz2 rfl (by decide) _ _ _ rfl (hst.out.1.alloc _) ⟨wr.heap.size, 0, none⟩ 1 1 [.int .u8 d] rfl rfl (cell_one_new _ _ _) (by simp [Value.oneCell']) (by unfold maxLen; omega) (by omega) (by simp; omega) ?_)
            intro v' w2 hown' hgrow _
            have HN : Hid (w2.ownsRow w.heap.size 5 1 v' (i + 1) ((lowd (a + b) (i + 1)).map u8v) ∧ Below w.heap.size w w2) := Lib.hid ⟨by
              rw [lowd_succ, HD.out, List.map_append]
              exact hown', (hst.out.2.alloc hbsz _).grown hgrow (by simp; omega) (fun q e => (hst.out.1.lt q e).1)⟩
            clear hown' hgrow
            go_wp2_with fail
            go_roundg (11 - (i + 1))
            case measure => omega
            case rel => exact ⟨i + 1, c', by go_num, by omega, rfl, by first | rfl | go_num | rw [hr3] | (congr 1), hc1, HC, HN⟩
    · have hA : ¬ i < (ds a).size := fun h => hcont (.inl h)
      have hB : ¬ i < (ds b).size := fun h => hcont (.inr (.inl h))
      obtain rfl : c = 0 := by omega
      have e1 : a / 10 ^ i = 0 := dl_beyond a i (by have := LA.out; omega)
      have e2 : b / 10 ^ i = 0 := dl_beyond b i (by have := LA.out; omega)
      have e3 : (a + b) % 10 ^ i = a + b := div_small (by rw [hs.out, e1, e2])
      have hp := dec_pos a
      rw [← ds_size] at hp
      obtain ⟨A5, c5, rfl, _, rd5, _⟩ := own_rd0 hst.out.1
      have HT := Lib.hid (text_call wr wr.heap.size A5 i c5 (lowd (a + b) i) rd5 (Nat.le_refl _) (lowd_dig _ _) (by omega) (by omega))
      rw [lowd_vb, e3] at HT
      have hz1' : ¬ (i : Int) < (ds a).size := by omega
      have hz : ¬ (i : Int) < (ds b).size := by omega
      have HBL := Lib.hid hst.out.2
      clear e1 e2 e3 rd5 hst hs hcont hA hB
      go_wp2_with fail
      refine HT.out.mono ?_
      rintro e w3 ⟨rfl, b3⟩
      go_wp2_with fail
      go_ret
      exact ⟨rfl, HBL.out.trans (b3.mono HBL.out.size)⟩
end Go.Proofs.YtdapflgfocideaaGreatDoor
