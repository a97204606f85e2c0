/- Contracts of limbs.div and what stands on it. Conditions: numbers below 10^9, the divisor not 0. -/
import Derived.Test.YtdapflgfocideaaGreatDoorNat2
namespace Go.Proofs.YtdapflgfocideaaGreatDoor
open Go Go.RowKit Go.Deep
open Go.Lib (decDigits)

set_option maxHeartbeats 1000000 in
/-- natural.Add. -/
theorem add_call (B : Nat) (w : World) (a b : Nat) (hab : a + b < 1000000000) (hE : Env B w) :
    Calls Tryz.prog 23 #[.string (ds a), .string (ds b)] w fun e w' => e = .returned (.tuple #[.string (ds (a + b)), .int .i64 0]) ∧ Below w.heap.size w w' := by
  have H := Lib.hid (both_add B w a b hab hE)
  clear hab hE
  go_enter Tryz.func23, Tryz.ntmps23
  go_wp2_with fail
  refine H.out.mono ?_
  rintro e w6 ⟨rfl, hb6⟩
  go_wp2_with fail
  go_ret2
  exact ⟨rfl, hb6⟩

set_option maxHeartbeats 1000000 in
/-- natural.Int. -/
theorem int_call (w : World) (a : Nat) (ha : a < 1000000000) :
    Calls Tryz.prog 18 #[.string (ds a)] w fun e w' => e = .returned (.tuple #[.int .i64 a, .int .i64 0]) ∧ Below w.heap.size w w' := by
  have V1 := Lib.hid (valid_any a (by omega))
  have A1 := Lib.hid (atoi_call a (by omega))
  go_enter Tryz.func18, Tryz.ntmps18
  go_wp2_with fail
  refine (V1.out _).mono ?_
  rintro e w1 ⟨rfl, hb1⟩
  go_wp2_with fail
  refine (A1.out _).mono ?_
  rintro e w2 ⟨rfl, hb2⟩
  go_wp2_with fail
  go_ret2
  exact ⟨rfl, hb1.trans (hb2.mono hb1.size)⟩

set_option maxHeartbeats 1000000 in
/-- natural.Compare. -/
theorem comp_call (w : World) (a b : Nat) (ha : a < 1000000000) (hb : b < 1000000000) :
    Calls Tryz.prog 38 #[.string (ds a), .string (ds b)] w fun e w' => e = .returned (.int .i64 (if a < b then -1 else if a = b then 0 else 1)) ∧ Below w.heap.size w w' := by
  have V1 := Lib.hid (valid_any a (by omega))
  have V2 := Lib.hid (valid_any b (by omega))
  have R1 := Lib.hid (fun W => read_any W a (by omega))
  have R2 := Lib.hid (fun W => read_any W b (by omega))
  have HA := Lib.hid ha
  have HB := Lib.hid hb
  obtain ⟨r, hr⟩ : ∃ r : Int, r = if a < b then -1 else if a = b then 0 else 1 := ⟨_, rfl⟩
  rw [← hr]
  have HR := Lib.hid hr
  clear ha hb hr
  go_enter Tryz.func38, Tryz.ntmps38
  go_wp2_with fail
  refine (V1.out _).mono ?_
  rintro e w1 ⟨rfl, hb1⟩
  go_wp2_with fail
  refine (V2.out _).mono ?_
  rintro e w2 ⟨rfl, hb2⟩
  go_wp2_with fail
  refine (R1.out _).mono ?_
  rintro e w3 ⟨A1, n1, c1, rfl, hc1, hr1, hb3⟩
  have Q1 := Lib.hid hr1
  clear hr1
  go_wp2_with fail
  refine (R2.out _).mono ?_
  rintro e w4 ⟨A2, n2, c2, rfl, hc2, hr2, hb4⟩
  have Q2 := Lib.hid hr2
  clear hr2
  go_wp2_with fail
  refine (compare_any w4 A1 A2 n1 c1 n2 c2 a b (Q1.out.up hb4) Q2.out (by have := HA.out; omega) HB.out).mono ?_
  rw [← HR.out]
  rintro e w5 ⟨rfl, hb5⟩
  go_wp2_with fail
  go_ret
  exact ⟨rfl, (((hb1.trans (hb2.mono hb1.size)).trans (hb3.mono (Nat.le_trans hb1.size hb2.size))).trans (hb4.mono (by have := hb1.size; have := hb2.size; have := hb3.size; omega))).trans (hb5.mono (by have := hb1.size; have := hb2.size; have := hb3.size; have := hb4.size; omega))⟩

/-- Two slices of limbs are returned. -/
def RetL2 (w : World) (m r : Nat) (e : Ending) (w' : World) : Prop := ∃ A n c A' n' c', e = .returned (.tuple #[.slice A n c, .slice A' n' c']) ∧ n ≤ c ∧ n' ≤ c' ∧ RdI w' w'.heap.size A n (lm m) ∧ RdI w' w'.heap.size A' n' (lm r) ∧ Below w.heap.size w w'

set_option maxHeartbeats 1000000 in
set_option maxRecDepth 100000 in
theorem div_zero (w : World) (A1 A2 : Option Addr) (c1 n2 c2 : Nat) :
    Calls Tryz.prog 56 #[.slice A1 0 c1, .slice A2 n2 c2] w (RetL2 w 0 0) := by
  have hmk : ∀ w, (Instr.makeSlice 72 (.int .i64 0) (.int .i64 0)).run Tryz.prog w = .ok (.slice (some ⟨w.heap.size, 0, none⟩) 0 0) (w.alloc (.cells (ints (zeros 0)) 3)) := make_zeros 0 (by omega)
  go_enter Tryz.func56, Tryz.ntmps56
  go_wp2_with fail
  refine wp_loop_rounds 1 ?_
  rw [rounds_succ]
  go_wp2_with fail
  have hb : Below w.heap.size w ((w.alloc (.cells (ints (zeros 0)) 3)).alloc (.cells #[] 3)) := ((Below.refl _ _).alloc (Nat.le_refl _) _).alloc (by simp) _
  refine (trimmed_any _ 0 (some ⟨w.heap.size, 0, none⟩) 0 0 [] (Rd.nil _ _ _) (by omega) (by omega)).mono ?_
  rintro e w' ⟨rfl, rfl⟩
  go_wp2_with fail
  go_ret2
  exact ⟨_, _, _, _, _, _, rfl, Nat.le_refl _, Nat.le_refl _, Rd.nil _ _ _, Rd.nil _ _ _, hb⟩

theorem owns_new (w : World) (base : Nat) (x : Value) (hb : base ≤ w.heap.size) (t : TypeId) : (w.alloc (.cells #[x] t)).ownsRow base t 1 (.slice (some ⟨w.heap.size, 0, none⟩) 1 1) 1 [x] :=
  ⟨by simp, .inr ⟨w.heap.size, 1, #[x], rfl, hb, heap_alloc_new w _, Nat.le_refl _, by unfold maxLen; omega, rfl, rfl⟩⟩

set_option maxHeartbeats 1000000 in
set_option maxRecDepth 100000 in
theorem div_pos (w : World) (A1 A2 : Option Addr) (c1 n2 c2 a b : Nat) (h1 : RdI w w.heap.size A1 1 (lm a)) (h2 : RdI w w.heap.size A2 n2 (lm b)) (ha0 : 0 < a) (ha : a < 1000000000) (hb0 : 0 < b) (hb : b < 1000000000) :
    Calls Tryz.prog 56 #[.slice A1 1 c1, .slice A2 n2 c2] w (RetL2 w (a / b) (a % b)) := by
  have hmk : ∀ w, (Instr.makeSlice 72 (.int .i64 1) (.int .i64 1)).run Tryz.prog w = .ok (.slice (some ⟨w.heap.size, 0, none⟩) 1 1) (w.alloc (.cells (ints (zeros 1)) 3)) := make_zeros 1 (by omega)
  obtain ⟨i0, hi, hz0, hz1, hz2⟩ := info_parts info3
  obtain ⟨g, off, x, rfl, hgw, hc, hx⟩ := h1.at (k := 0) (by omega)
  obtain rfl : x = a := by rw [← hx.out, lm_get0 a ha]
  rw [Nat.add_zero] at hc
  have H2 := Lib.hid h2
  have HF := Lib.hid (And.intro ha0 (And.intro ha (And.intro hb0 hb)))
  clear h1 h2 hx ha0 ha hb0 hb
  go_enter Tryz.func56, Tryz.ntmps56
  go_wp2_with fail
  refine wp_loop_rounds 2 ?_
  rw [rounds_succ]
  go_wp2_with fail
  obtain ⟨w2, hw2⟩ : ∃ w2, w2 = ((w.alloc (.cells (ints (zeros 1)) 3)).alloc (.cells #[] 3)).alloc (.cells #[.int .i64 a] 3) := ⟨_, rfl⟩
  have HB2 : Hid (Below w.heap.size w w2) := by rw [hw2]; exact Lib.hid ((((Below.refl _ _).alloc (Nat.le_refl _) _).alloc (by simp) _).alloc (by simp; omega) _)
  have HQ : Hid (Blk w2 w.heap.size 3 (ints (zeros 1))) := by rw [hw2]; exact Lib.hid (((Blk.new w 3 (ints (zeros 1))).alloc _).alloc _)
  have HR0 : Blk w2 (w.heap.size + 1 + 1) 3 (ints [(a : Int)]) := by
    rw [hw2]
    have := Blk.new ((w.alloc (.cells (ints (zeros 1)) 3)).alloc (.cells #[] 3)) 3 #[.int .i64 a]
    simpa [ints] using this
  rw [← hw2]
  clear hw2 hc hgw
  have HR : Hid (RdI w2 w2.heap.size (some ⟨w.heap.size + 1 + 1, 0, none⟩) 1 [(a : Int)]) := Lib.hid (HR0.rdI HR0.lt)
  clear HR0
  have e1 : trimLen [(a : Int)] 1 = 1 := by have := HF.out; simp [trimLen]; omega
  refine (trimmed_any w2 w2.heap.size _ 1 1 [(a : Int)] HR.out (by omega) (by omega)).mono ?_
  rw [e1]
  rintro e w' ⟨rfl, rfl⟩
  have ela : lm a = [(a : Int)] := by unfold lm; rw [if_neg (by have := HF.out; omega), if_pos HF.out.2.1]
  have HRA : Hid (RdI w2 w2.heap.size (some ⟨w.heap.size + 1 + 1, 0, none⟩) 1 (lm a)) := Lib.hid (by rw [ela]; exact HR.out)
  have HY : Hid (RdI w2 w2.heap.size A2 n2 (lm b)) := Lib.hid (H2.out.up HB2.out)
  clear H2 HR ela e1
  go_wp2_with fail
  refine (compare_any w2 _ _ 1 1 n2 c2 a b HRA.out HY.out (by have := HF.out; omega) HF.out.2.2.2).mono ?_
  by_cases hlt : a < b
  · rw [if_pos hlt]
    rintro e w3 ⟨rfl, hb3⟩
    go_wp2_with fail
    rw [rounds_succ]
    have hq3 := HQ.out.below hb3 (Nat.lt_of_lt_of_le HQ.out.lt (Nat.le_refl _))
    have HQ3 : Hid (RdI w3 w3.heap.size (some ⟨w.heap.size, 0, none⟩) 1 (zeros 1)) := Lib.hid (hq3.rdI hq3.lt)
    have HR3 : Hid (RdI w3 w3.heap.size (some ⟨w.heap.size + 1 + 1, 0, none⟩) 1 (lm a)) := Lib.hid (HRA.out.up hb3)
    clear hq3
    go_wp2_with fail
    refine (trimmed_any w3 w3.heap.size _ 1 1 (zeros 1) HQ3.out (by omega) (by omega)).mono ?_
    rw [show trimLen (zeros 1) 1 = 0 from rfl]
    rintro e w4 ⟨rfl, rfl⟩
    go_wp2_with fail
    go_ret2
    refine ⟨_, _, _, _, _, _, rfl, by omega, by omega, ?_, ?_, HB2.out.trans (hb3.mono HB2.out.size)⟩
    · rw [Nat.div_eq_of_lt hlt]; exact Rd.nil _ _ _
    · rw [Nat.mod_eq_of_lt hlt]; exact HR3.out
  · rw [if_neg hlt]
    obtain ⟨r, hr, hr0⟩ : ∃ r : Int, (if a = b then 0 else 1) = r ∧ 0 ≤ r := ⟨_, rfl, by split <;> omega⟩
    rw [hr]
    clear hr
    rintro e w3 ⟨rfl, hb3⟩
    go_wp2_with fail
    go_loopw [9, 10] (fun l h wr => ∃ lo hi : Nat, 1 ≤ lo ∧ lo ≤ hi ∧ hi ≤ 999999999 ∧ l = .int .i64 lo ∧ h = .int .i64 hi ∧ Below w3.heap.size w3 wr ∧ Hid (lo * b ≤ a ∧ a < (hi + 1) * b)) (fun l h _ => (intOf h - intOf l).toNat)
    case atStart =>
      refine ⟨1, 999999999, by omega, by omega, by omega, rfl, rfl, Below.refl _ _, Lib.hid ⟨by omega, ?_⟩⟩
      have := HF.out
      have h1 : 1000000000 * 1 ≤ 1000000000 * b := Nat.mul_le_mul_left _ (by omega)
      omega
    case round =>
      obtain ⟨lo, hi', l1, l2, l3, rfl, rfl, hbr, hinv⟩ := hrel
      have hb2r : Below w2.heap.size w2 wr := hb3.trans (hbr.mono hb3.size)
      by_cases hlh : lo < hi'
      · obtain ⟨mid, hmid⟩ : ∃ mid, mid = (lo + hi' + 1) / 2 := ⟨_, rfl⟩
        have m1 : lo < mid := by omega
        have m2 : mid ≤ hi' := by omega
        go_wp2_with fail
        rw [show (((lo : Int) + hi' + 1) / 2) = (mid : Int) by omega]
        have hmb : mid * b < 1000000000000000000 := Nat.lt_of_le_of_lt (Nat.mul_le_mul (show mid ≤ 999999999 by omega) (show b ≤ 999999999 by have := HF.out; omega)) (by omega)
        have HM := Lib.hid (And.intro hmid hmb)
        clear hmid hmb
        refine (times_any wr A2 n2 c2 b mid (HY.out.up hb2r) HF.out.2.2.2 (by omega)).mono ?_
        rintro e w4 ⟨A, n, c, rfl, hcn, hr4, hb4⟩
        have HR4 := Lib.hid hr4
        clear hr4
        go_wp2_with fail
        refine (compare_any w4 _ _ n c 1 1 (mid * b) a HR4.out ((HRA.out.up hb2r).up hb4) HM.out.2 HF.out.2.1).mono ?_
        by_cases hle : mid * b ≤ a
        · obtain ⟨q, hq, hq0⟩ : ∃ q : Int, (if mid * b < a then -1 else if mid * b = a then 0 else 1) = q ∧ q ≤ 0 := ⟨_, rfl, by split; omega; rw [if_pos (by omega)]; omega⟩
          rw [hq]
          clear hq
          rintro e w5 ⟨rfl, hb5⟩
          have HLE := Lib.hid hle
          clear hle
          go_wp2_with fail
          go_roundw
          case rel => exact ⟨mid, hi', by omega, by omega, by omega, rfl, rfl, hbr.trans ((hb4.trans (hb5.mono hb4.size)).mono hbr.size), Lib.hid ⟨HLE.out, hinv.out.2⟩⟩
          case measure => simp [intOf]; omega
        · obtain ⟨q, hq, hq0⟩ : ∃ q : Int, (if mid * b < a then -1 else if mid * b = a then 0 else 1) = q ∧ 0 < q := ⟨_, rfl, by rw [if_neg (by omega), if_neg (by omega)]; omega⟩
          rw [hq]
          clear hq
          rintro e w5 ⟨rfl, hb5⟩
          have HLE := Lib.hid hle
          clear hle
          go_wp2_with fail
          go_roundw
          case rel => exact ⟨lo, mid - 1, by omega, by omega, by omega, rfl, by rw [show ((mid : Int) - 1) = ((mid - 1 : Nat) : Int) by omega], hbr.trans ((hb4.trans (hb5.mono hb4.size)).mono hbr.size), Lib.hid ⟨hinv.out.1, by have := HLE.out; rw [Nat.sub_add_cancel (by omega)]; omega⟩⟩
          case measure => simp [intOf]; omega
      · obtain rfl : lo = hi' := by omega
        have hdiv : lo = a / b := by
          have h1 := hinv.out
          have hbp := HF.out.2.2.1
          have h2 : lo ≤ a / b := (Nat.le_div_iff_mul_le hbp).2 h1.1
          have h3 : a / b < lo + 1 := (Nat.div_lt_iff_lt_mul hbp).2 h1.2
          omega
        have hlb : lo * b ≤ a := hinv.out.1
        have HD := Lib.hid (And.intro hdiv hlb)
        clear hdiv hlb
        go_wp2_with fail
        refine (times_any wr A2 n2 c2 b lo (HY.out.up hb2r) HF.out.2.2.2 (by omega)).mono ?_
        rintro e w4 ⟨A, n, c, rfl, hcn, hr4, hb4⟩
        have HR4 := Lib.hid hr4
        clear hr4
        go_wp2_with fail
        refine (sub_any w4 _ _ 1 1 n c a (lo * b) ((HRA.out.up hb2r).up hb4) HR4.out HF.out.2.1 HD.out.2).mono ?_
        rintro e w5 ⟨A', n', c', rfl, hcn', hr5, hb5⟩
        have HR5 := Lib.hid hr5
        clear hr5
        have hb25 : Below w2.heap.size w2 w5 := hb2r.trans ((hb4.trans (hb5.mono hb4.size)).mono hb2r.size)
        have hq5 := HQ.out.below hb25 HQ.out.lt
        have cq : w5.cell? ⟨w.heap.size, 0, none⟩ = some (.int .i64 0) := by rw [hq5.cell]; rfl
        have fq := hq5.free 0
        have HQ5 := Lib.hid hq5
        clear hq5
        go_wp2_with fail
        rw [rounds_succ]
        go_wp2_with fail
        have hq6 : Blk (w5.setCell ⟨w.heap.size, 0, none⟩ (.int .i64 lo)) w.heap.size 3 (ints [(lo : Int)]) := HQ5.out.set 0 _
        have hsz : w.heap.size < w4.heap.size := Nat.lt_of_lt_of_le HQ.out.lt (Nat.le_trans hb2r.size hb4.size)
        have hr6 : RdI (w5.setCell ⟨w.heap.size, 0, none⟩ (.int .i64 lo)) (w5.setCell ⟨w.heap.size, 0, none⟩ (.int .i64 lo)).heap.size A' n' (lm (a - lo * b)) := by
          refine ⟨HR5.out.len, fun k hk => ?_⟩
          obtain ⟨b', o', e', hb', hc'⟩ := HR5.out.cells k hk
          refine ⟨b', o', e', by simpa using hb', fun j hj => ?_⟩
          have hne : w.heap.size ≠ b' := by have := hcn'.2 _ e'; simp at this; omega
          rw [← hc' j hj]
          exact World.cell?_setCell_other _ _ _ _ (fun e => hne (congrArg Addr.block e))
        have hb6 : Below w.heap.size w (w5.setCell ⟨w.heap.size, 0, none⟩ (.int .i64 lo)) := (HB2.out.trans (hb25.mono HB2.out.size)).setCell (p := ⟨w.heap.size, 0, none⟩) (Nat.le_refl _) _
        have HR6 := Lib.hid hr6
        have HB6 := Lib.hid hb6
        have HQ6 := Lib.hid (hq6.rdI hq6.lt)
        clear hr6 hb6 hq6
        refine (trimmed_any _ _ _ 1 1 [(lo : Int)] HQ6.out (by omega) (by omega)).mono ?_
        rw [show trimLen [(lo : Int)] 1 = 1 by simp [trimLen]; omega]
        rintro e w7 ⟨rfl, rfl⟩
        go_wp2_with fail
        go_ret2
        have hlo : lm lo = [(lo : Int)] := by unfold lm; rw [if_neg (by omega), if_pos (by omega)]
        refine ⟨_, _, _, _, _, _, rfl, by omega, hcn'.1, ?_, ?_, HB6.out⟩
        · rw [← HD.out.1, hlo]; exact HQ6.out
        · have e : a % b = a - lo * b := by
            have h1 := Nat.div_add_mod a b
            rw [← HD.out.1, Nat.mul_comm] at h1
            omega
          rw [e]; exact HR6.out

theorem div_any (w : World) (A1 A2 : Option Addr) (n1 c1 n2 c2 a b : Nat) (h1 : RdI w w.heap.size A1 n1 (lm a)) (h2 : RdI w w.heap.size A2 n2 (lm b)) (ha : a < 1000000000) (hb0 : 0 < b) (hb : b < 1000000000) :
    Calls Tryz.prog 56 #[.slice A1 n1 c1, .slice A2 n2 c2] w (RetL2 w (a / b) (a % b)) := by
  have L := h1.length
  rw [lm_len] at L
  by_cases hz : a = 0
  · subst hz
    obtain rfl : n1 = 0 := by rw [← L]; rfl
    rw [Nat.zero_div, Nat.zero_mod]
    exact div_zero w A1 A2 c1 n2 c2
  · rw [if_neg hz, if_pos ha] at L
    subst L
    exact div_pos w A1 A2 c1 n2 c2 a b h1 h2 (by omega) ha hb0 hb
end Go.Proofs.YtdapflgfocideaaGreatDoor
