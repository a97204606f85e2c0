/- Contracts of observatoryref03.Valid, within, Add, sub, less. -/
import Derived.Test.YtdapflgfocideaaGreatDoorRefC
namespace Go.Proofs.YtdapflgfocideaaGreatDoor
open Go Go.RowKit Go.Deep
open Go.Lib (decDigits)
attribute [local go_sem] guardO guardR

theorem ds_at (m i : Nat) (h : i < (ds m).size) : ∃ d, d < 10 ∧ ((ds m)[i]'h).toNat = 48 + d := by
  have hl : i < (dl m).length := by rw [← bs_size, dl_ds]; exact h
  have h3 := bs_at (dl m) (dl_dig m) i (by rw [bs_size]; exact hl)
  have h4 : ((ds m)[i]'h).toNat = ((bs (dl m))[i]'(by rw [bs_size]; exact hl)).toNat := by
    congr 1
    congr 1
    exact (dl_ds m).symm
  refine ⟨(dl m).getD i 0, ?_, h4.trans h3⟩
  rw [List.getD_eq_getElem?_getD, List.getElem?_eq_getElem hl]
  exact dl_dig m _ (List.getElem_mem _)
theorem ds_head (m : Nat) (h : 1 < (ds m).size) (h0 : 0 < (ds m).size) : ((ds m)[0]'h0).toNat ≠ 48 := by
  have hm : m ≠ 0 := by
    rintro rfl
    rw [ds_size, dec_unfold] at h
    simp at h
  obtain ⟨b, r, e, hb⟩ := dec_head m hm
  have : (ds m)[0]'h0 = b := by
    show ((decDigits m).toArray)[0]'_ = b
    simp [e]
  rw [this]; exact hb

set_option maxHeartbeats 1000000 in
theorem rvalid_call (m : Nat) (hm : m < 1000000000000000000) (w : World) : Calls Tryz.prog 45 #[.string (ds m)] w fun e w' => e = .returned (.bool true) ∧ w = w' := by
  have hl : (ds m).size ≤ 18 := by rw [ds_size]; exact dec_len18 m hm
  have hp := dec_pos m
  rw [← ds_size] at hp
  have HA := Lib.hid (ds_at m)
  have HH := Lib.hid (ds_head m)
  obtain ⟨s, hs⟩ : ∃ s, s = ds m := ⟨_, rfl⟩
  rw [← hs] at hl hp HA HH ⊢
  clear hs
  by_cases h1 : 1 < s.size
  · have h0 : ¬ ((s[0]'(by omega)).toNat : Int) = 48 := by have := HH.out h1 (by omega); omega
    have h0b : (((s[0]'(by omega)).toNat : Int) == 48) = false := by rw [beq_eq_false_iff_ne]; exact h0
    have h1z : (1 : Int) < s.size := by omega
    have hz1 : ¬ (s.size : Int) < 1 := by omega
    have hz2 : ¬ (1000 : Int) < s.size := by omega
    go_enter Tryz.func45, Tryz.ntmps45
    go_wp2_with fail
    go_loopg [3] s.size (fun gk s3 wr => ∃ i : Nat, s3 = .int .i64 i ∧ i ≤ s.size ∧ gk = s.size - i ∧ w = wr)
    case atStart => exact ⟨0, rfl, Nat.zero_le _, rfl, rfl⟩
    case round =>
      obtain ⟨i, rfl, hi, rfl, rfl⟩ := hrel
      by_cases hin : i < s.size
      · obtain ⟨d, hd, hc⟩ := HA.out i hin
        have hinz : (i : Int) < s.size := by omega
        have c1 : ¬ ((s[i]'hin).toNat : Int) < 48 := by omega
        have c2 : ¬ (57 : Int) < (s[i]'hin).toNat := by omega
        clear hc
        go_wp2_with fail
        go_roundg (s.size - (i + 1))
        case measure => omega
        case rel => exact ⟨i + 1, by go_num, by omega, rfl, rfl⟩
      · obtain rfl : i = s.size := by omega
        go_wp2_with fail
        go_ret
        exact ⟨rfl, rfl⟩
  · have h1z : s.size = 1 := by omega
    have hns : ¬ (1 : Int) < s.size := by omega
    have h1y : ¬ (s.size : Int) < 1 := by omega
    have hz2 : ¬ (1000 : Int) < s.size := by omega
    have hz3 : ¬ (1 : Int) < s.size := by omega
    clear h1 h1z hns
    go_enter Tryz.func45, Tryz.ntmps45
    go_wp2_with fail
    go_loopg [3] s.size (fun gk s3 wr => ∃ i : Nat, s3 = .int .i64 i ∧ i ≤ s.size ∧ gk = s.size - i ∧ w = wr)
    case atStart => exact ⟨0, rfl, Nat.zero_le _, rfl, rfl⟩
    case round =>
      obtain ⟨i, rfl, hi, rfl, rfl⟩ := hrel
      by_cases hin : i < s.size
      · obtain ⟨d, hd, hc⟩ := HA.out i hin
        have hinz : (i : Int) < s.size := by omega
        have c1 : ¬ ((s[i]'hin).toNat : Int) < 48 := by omega
        have c2 : ¬ (57 : Int) < (s[i]'hin).toNat := by omega
        clear hc
        go_wp2_with fail
        go_roundg (s.size - (i + 1))
        case measure => omega
        case rel => exact ⟨i + 1, by go_num, by omega, rfl, rfl⟩
      · obtain rfl : i = s.size := by omega
        go_wp2_with fail
        go_ret
        exact ⟨rfl, rfl⟩

theorem within_call (m : Nat) (hm : m < 1000000000000000000) (w : World) : Calls Tryz.prog 46 #[.string (ds m)] w fun e w' => e = .returned (.tuple #[.string (ds m), .int .i64 0]) ∧ w = w' := by
  have hl : ¬ (1000 : Int) < (ds m).size := by rw [ds_size]; have := dec_len18 m hm; omega
  go_enter Tryz.func46, Tryz.ntmps46
  go_wp2_with fail
  go_ret2
  exact ⟨rfl, rfl⟩
/-- observatoryref03.Add. -/
theorem rAdd_call (w : World) (a b : Nat) (ha : a < 1000000000) (hb : b < 1000000000) :
    Calls Tryz.prog 28 #[.string (ds a), .string (ds b)] w fun e w' => e = .returned (.tuple #[.string (ds (a + b)), .int .i64 0]) ∧ Below w.heap.size w w' := by
  have H := Lib.hid (And.intro ha hb)
  clear ha hb
  go_enter Tryz.func28, Tryz.ntmps28
  go_wp2_with fail
  refine (rvalid_call a (by have := H.out; omega) w).mono ?_
  rintro e w' ⟨rfl, rfl⟩
  go_wp2_with fail
  refine (rvalid_call b (by have := H.out; omega) w).mono ?_
  rintro e w' ⟨rfl, rfl⟩
  go_wp2_with fail
  refine (radd_call w a b H.out.1 H.out.2).mono ?_
  rintro e w1 ⟨rfl, b1⟩
  go_wp2_with fail
  refine (within_call (a + b) (by have := H.out; omega) w1).mono ?_
  rintro e w' ⟨rfl, rfl⟩
  go_wp2_with fail
  go_ret2
  exact ⟨rfl, b1⟩
theorem bless_lists : ∀ (L M : List Nat), L.length = M.length → Dig L → Dig M → Op.bytesLess (L.map db) (M.map db) = decide (vb L < vb M)
  | [], [], _, _, _ => by simp [Op.bytesLess]
  | [], y :: M, h, _, _ => by simp at h
  | x :: L, [], h, _, _ => by simp at h
  | x :: L, y :: M, h, hL, hM => by
    have hl : L.length = M.length := by simpa using h
    have hx := hL x (by simp)
    have hy := hM y (by simp)
    have hL' : Dig L := fun d hd => hL d (by simp [hd])
    have hM' : Dig M := fun d hd => hM d (by simp [hd])
    have ih := bless_lists L M hl hL' hM'
    have v1 := vb_lt L hL'
    have v2 := vb_lt M hM'
    rw [vb_cons, vb_cons, hl]
    rw [hl] at v1
    simp only [List.map_cons, Op.bytesLess, ih]
    have e1 : (db x < db y) = (x < y) := by
      rw [UInt8.lt_iff_toNat_lt, db_nat hx, db_nat hy]
      exact propext ⟨fun h => by omega, fun h => by omega⟩
    have e2 : (db x == db y) = decide (x = y) := by
      by_cases e : x = y
      · subst e; simp
      · rw [decide_eq_false e, beq_eq_false_iff_ne]
        intro h
        have := congrArg UInt8.toNat h
        rw [db_nat hx, db_nat hy] at this
        omega
    rw [e2]
    generalize 10 ^ M.length = P at *
    rcases Nat.lt_trichotomy x y with h1 | h1 | h1
    · have h3 : x * P + P ≤ y * P := by have := Nat.mul_le_mul_right P (show x + 1 ≤ y by omega); rw [Nat.add_mul, Nat.one_mul] at this; exact this
      have h2 : x * P + vb L < y * P + vb M := by omega
      simp [e1, h1, h2]
    · subst h1
      have h2 : (x * P + vb L < x * P + vb M) = (vb L < vb M) := propext ⟨fun h => by omega, fun h => by omega⟩
      simp [e1, h2]
    · have h3 : y * P + P ≤ x * P := by have := Nat.mul_le_mul_right P (show y + 1 ≤ x by omega); rw [Nat.add_mul, Nat.one_mul] at this; exact this
      have h2 : ¬ (x * P + vb L < y * P + vb M) := by omega
      have h4 : ¬ x < y := by omega
      have h5 : ¬ x = y := by omega
      simp [e1, h2, h4, h5]
theorem bless_ds (a b : Nat) (h : (ds a).size = (ds b).size) : Op.bytesLess (ds a).toList (ds b).toList = decide (a < b) := by
  rw [ds_toList, ds_toList]
  have e1 : decDigits a = (dl a).map db := by have := congrArg (fun s => s.data.toList) (dl_ds a); simpa [bs, ds] using this.symm
  have e2 : decDigits b = (dl b).map db := by have := congrArg (fun s => s.data.toList) (dl_ds b); simpa [bs, ds] using this.symm
  have hl : (dl a).length = (dl b).length := by rw [← bs_size, ← bs_size, dl_ds, dl_ds]; exact h
  rw [e1, e2, bless_lists _ _ hl (dl_dig a) (dl_dig b), dl_vb, dl_vb]
/-- More digits, a greater number. -/
theorem dl_longer {a b : Nat} (h : (dl a).length < (dl b).length) : a < b := by
  have h1 := vb_lt (dl a) (dl_dig a)
  rw [dl_vb] at h1
  rcases Nat.lt_or_ge a b with h2 | h2
  · exact h2
  · exfalso
    have h3 := dl_at b ((dl b).length - 1) (by omega)
    have hb0 : b / 10 ^ ((dl b).length - 1) = 0 := by
      apply Nat.div_eq_of_lt
      exact Nat.lt_of_le_of_lt h2 (Nat.lt_of_lt_of_le h1 (Nat.pow_le_pow_right (by omega) (by omega)))
    rw [hb0, Nat.sub_self] at h3
    -- the first digit of a numeral of more than one digit is not 0
    have h4 : 1 < (ds b).size := by rw [← dl_ds, bs_size]; have := dec_pos a; rw [← dl_len] at this; omega
    have h5 := ds_head b h4 (by omega)
    have h6 := bs_at (dl b) (dl_dig b) 0 (by rw [bs_size]; omega)
    apply h5
    have h7 : ((ds b)[0]'(by omega)).toNat = ((bs (dl b))[0]'(by rw [bs_size]; omega)).toNat := by
      congr 1
      congr 1
      exact (dl_ds b).symm
    rw [h7, h6, h3]
theorem less_call (w : World) (a b : Nat) :
    Calls Tryz.prog 130 #[.string (ds a), .string (ds b)] w fun e w' => e = .returned (.bool (decide (a < b))) ∧ w = w' := by
  by_cases h : (ds a).size = (ds b).size
  · have hb := bless_ds a b h
    have hz : ((ds a).size : Int) = (ds b).size := by omega
    go_enter Tryz.func130, Tryz.ntmps130
    go_wp2_with fail
    go_ret
    exact ⟨by rw [← hb]; rfl, rfl⟩
  · have hz : (((ds a).size : Int) != (ds b).size) = true := by simp; omega
    have la : (ds a).size = (dl a).length := by rw [← dl_ds, bs_size]
    have lb : (ds b).size = (dl b).length := by rw [← dl_ds, bs_size]
    have hd : decide ((ds a).size < (ds b).size) = decide (a < b) := by
      by_cases h1 : (ds a).size < (ds b).size
      · rw [decide_eq_true h1, decide_eq_true (dl_longer (by omega))]
      · have h2 := dl_longer (a := b) (b := a) (by omega)
        rw [decide_eq_false h1, decide_eq_false (show ¬ a < b by omega)]
    have HD := Lib.hid hd
    clear h la lb hd
    go_enter Tryz.func130, Tryz.ntmps130
    go_wp2_with fail
    go_ret
    exact ⟨by rw [← HD.out]; rfl, rfl⟩
end Go.Proofs.YtdapflgfocideaaGreatDoor
