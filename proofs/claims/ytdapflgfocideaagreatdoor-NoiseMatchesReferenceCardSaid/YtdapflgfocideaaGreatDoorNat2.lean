/- Contracts of natural.read, both, Add, Int at numerals below 10^9. -/
import Derived.Test.YtdapflgfocideaaGreatDoorNat1
import Derived.Maps.AppendAt
namespace Go.Proofs.YtdapflgfocideaaGreatDoor
open Go Go.RowKit Go.Deep
open Go.Lib (decDigits)

theorem info3 : (Tryz.prog.info? 3).map (fun i => (i.zero, i.size, i.bytes)) = some (some (.int .i64 0), 1, 8) := by kernel_rfl
theorem atoi_call (m : Nat) (h : m < 1000000000000000000) (w : World) : Calls Tryz.prog 33 #[.string (ds m)] w fun e w' => e = .returned (.tuple #[.int .i64 m, .nilIface]) ∧ Below w.heap.size w w' := by
  have hl := dec_len18 m h
  refine (Tryz.strconv_Atoi_ok (ds m) (by rw [ds_size]; omega) m (by rw [ds_list]; exact atoi_dec m h) w).mono fun e w' ⟨he, hw⟩ => ⟨he, ?_⟩
  rcases hw with rfl | ⟨t, rfl⟩
  · exact Below.refl _ _
  · exact Lib.bytesWorld_below _ _ _

set_option maxHeartbeats 1000000 in
set_option maxRecDepth 100000 in
theorem read_any (w : World) (m : Nat) (hm : m < 1000000000) : Calls Tryz.prog 55 #[.string (ds m)] w (RetL w m) := by
  obtain ⟨i0, hi, hz0, hz1, hz2⟩ := info_parts info3
  have hl := dec_len9 m hm
  have hp := dec_pos m
  rw [← ds_size] at hl hp
  have HA := Lib.hid (atoi_call m (by omega))
  have HM := Lib.hid hm
  clear hm
  obtain ⟨s, hs⟩ : ∃ s, s = ds m := ⟨_, rfl⟩
  rw [← hs] at HA hl hp ⊢
  clear hs
  have hex : Hid (s.extract 0 s.size = s) := Lib.hid (by simp)
  go_enter Tryz.func55, Tryz.ntmps55
  go_wp2_with fail
  go_loopw [3, 4] (fun v i wr => ∃ k : Nat, k ≤ 1 ∧ i = .int .i64 ((s.size : Int) - 9 * k) ∧ Below w.heap.size w wr ∧ Hid (wr.ownsRow w.heap.size 3 1 v k (if k = 0 then [] else [.int .i64 m]))) (fun _ i _ => (intOf i).toNat)
  case atStart => exact ⟨0, by omega, by simp, Below.refl _ _, Lib.hid (World.ownsRow_nil _ _ _ _)⟩
  case round =>
    obtain ⟨k, hk, rfl, hb, hB⟩ := hrel
    rcases k with _ | k
    · rw [show ((s.size : Int) - 9 * (0 : Nat)) = s.size by omega]
      have hmx : max 0 ((s.size : Int) - 9) = 0 := by omega
      go_wp2_with fail
      refine (HA.out _).mono ?_
      rintro e w1 ⟨rfl, hb1⟩
      have hown1 : w1.ownsRow w.heap.size 3 1 u3 0 [] := (by simpa using hB.out : wr.ownsRow w.heap.size 3 1 u3 0 []).kept (grown_of_below hb1 none) (Classical.em _)
      have hsz := hb.size
      have hsz1 := hb1.size
      go_wp2_with (at_builtin; refine wpList_append_own _ rfl _ _ 72 rfl w.heap.size 3 i0 (.int .i64 0) 1 8 Tryz.underlying72 hi hz0 hz1 hz2 rfl (by decide) _ _ _ rfl (hown1.alloc _) ⟨w1.heap.size, 0, none⟩ 1 1 [.int .i64 m] rfl rfl (cell_one_new _ _ _) (by simp [Value.oneCell']) (by unfold maxLen; omega) (by omega) (by simp; omega) ?_)
      intro v' w2 hown' hgrow _
      go_wp2_with fail
      go_roundw
      case rel =>
        refine ⟨1, by omega, by simp, ?_, Lib.hid (by simpa using hown')⟩
        exact ((hb.trans (hb1.mono hsz)).alloc (by omega) _).grown hgrow (by simp; omega) (fun k hk => (hown1.lt k hk).1)
      case measure => simp [intOf]; omega
    · obtain rfl : k = 0 := by omega
      have hown : wr.ownsRow w.heap.size 3 1 u3 1 [.int .i64 m] := by simpa using hB.out
      obtain ⟨g, cap, rfl, hcap, hg, hgl, hrd⟩ := own_rd hown (by omega)
      have HR : Hid (RdI wr wr.heap.size (some ⟨g, 0, none⟩) 1 [(m : Int)]) := hrd
      rw [show ((s.size : Int) - 9 * ((0 + 1 : Nat) : Int)) = (s.size : Int) - 9 by omega]
      clear hown hB hrd
      go_wp2_with fail
      refine (trimmed_any wr wr.heap.size _ 1 cap [(m : Int)] HR.out (by omega) hcap).mono ?_
      rintro e w1 ⟨rfl, rfl⟩
      go_wp2_with fail
      go_ret
      refine ⟨_, _, _, rfl, ⟨?_, fun p hp => by cases hp; exact hg⟩, ?_, hb⟩
      · have := trimLen_le [(m : Int)] 1; omega
      · unfold lm
        by_cases hz : m = 0
        · subst hz
          simp [trimLen]
          exact Rd.nil _ _ _
        · have h1 : ¬ ((m : Int) = 0) := by omega
          simp [trimLen, hz, HM.out, h1]
          exact HR.out

theorem RetL.up {w w0 w' : World} {m : Nat} {e : Ending} (h : RetL w0 m e w') (hb : Below w.heap.size w w0) : RetL w m e w' := by
  obtain ⟨A, n, c, he, hc, hr, hb'⟩ := h
  exact ⟨A, n, c, he, ⟨hc.1, fun p hp => Nat.le_trans hb.size (hc.2 p hp)⟩, hr, hb.trans (hb'.mono hb.size)⟩

set_option maxHeartbeats 1000000 in
/-- Two valid numerals, an operation on limbs that gives the number m: its numeral. -/
theorem both_add (B : Nat) (w : World) (a b : Nat) (hab : a + b < 1000000000) (hE : Env B w) :
    Calls Tryz.prog 39 #[.string (ds a), .string (ds b), .func (.func 40) #[] #[]] w fun e w' => e = .returned (.tuple #[.string (ds (a + b)), .int .i64 0]) ∧ Below w.heap.size w w' := by
  have V1 := Lib.hid (valid_any a (by omega))
  have V2 := Lib.hid (valid_any b (by omega))
  have R1 := Lib.hid (fun W => read_any W a (by omega))
  have R2 := Lib.hid (fun W => read_any W b (by omega))
  have HE := Lib.hid hE
  have HAB := Lib.hid hab
  clear hab hE
  go_enter Tryz.func39, Tryz.ntmps39
  go_wp2_with fail
  refine (V1.out _).mono ?_
  rintro e w1 ⟨rfl, hb1⟩
  go_wp2_with fail
  refine (V2.out _).mono ?_
  rintro e w2 ⟨rfl, hb2⟩
  go_wp2_with fail
  refine (R1.out _).mono ?_
  rintro e w3 ⟨A1, n1, c1, rfl, hc1, hr1, hb3⟩
  have Q1 := Lib.hid hr1
  clear hr1
  go_wp2_with fail
  refine (R2.out _).mono ?_
  rintro e w4 ⟨A2, n2, c2, rfl, hc2, hr2, hb4⟩
  have Q2 := Lib.hid hr2
  clear hr2
  go_wp2_with fail
  refine (add_any w4 A1 A2 n1 c1 n2 c2 a b (Q1.out.up hb4) Q2.out HAB.out).mono ?_
  rintro e w5 ⟨A3, n3, c3, rfl, hc3, hr3, hb5⟩
  have Q3 := Lib.hid hr3
  clear hr3
  have hall : Below w.heap.size w w5 := (((hb1.trans (hb2.mono hb1.size)).trans (hb3.mono (Nat.le_trans hb1.size hb2.size))).trans (hb4.mono (by have := hb1.size; have := hb2.size; have := hb3.size; omega))).trans (hb5.mono (by have := hb1.size; have := hb2.size; have := hb3.size; have := hb4.size; omega))
  go_wp2_with fail
  refine (text_any B w5 A3 n3 c3 (a + b) Q3.out HAB.out (HE.out.up hall)).mono ?_
  rintro e w6 ⟨rfl, hb6⟩
  go_wp2_with fail
  go_ret2
  exact ⟨rfl, hall.trans (hb6.mono hall.size)⟩
end Go.Proofs.YtdapflgfocideaaGreatDoor
