/- Contract of observatoryref03.div. -/
import Derived.Test.YtdapflgfocideaaGreatDoorRefG
import Derived.Laws.Strings2
namespace Go.Proofs.YtdapflgfocideaaGreatDoor
open Go Go.RowKit Go.Deep
open Go.Lib (decDigits)
attribute [local go_sem] guardO guardR

theorem bs_add (L M : List Nat) : bs L ++ bs M = bs (L ++ M) := by
  apply bs_ext
  rw [ByteArray.data_append, Array.toList_append]
  simp [bs]
theorem bs_one (L : List Nat) (i : Nat) (h : i < L.length) (d : Nat) (hd : L.getD i 0 = d) : (bs L).extract i (i + 1) = bs [d] := by
  apply bs_ext
  rw [ByteArray.data_extract, Array.toList_extract]
  show ((L.map db).toArray.toList.extract i (i + 1)) = (([d] : List Nat).map db).toArray.toList
  simp only [List.extract_eq_take_drop]
  rw [show i + 1 - i = 1 by omega, ← hd, List.getD_eq_getElem?_getD, List.getElem?_eq_getElem h]
  rw [← List.map_drop, List.drop_eq_getElem_cons h]
  rfl
theorem ten_one (n : Nat) (h : n < 10) : (⟨#[48, 49, 50, 51, 52, 53, 54, 55, 56, 57]⟩ : ByteArray).extract n (n + 1) = bs [n] :=
  bs_one [0, 1, 2, 3, 4, 5, 6, 7, 8, 9] n h n (by
    rcases (show n = 0 ∨ n = 1 ∨ n = 2 ∨ n = 3 ∨ n = 4 ∨ n = 5 ∨ n = 6 ∨ n = 7 ∨ n = 8 ∨ n = 9 by omega) with h | h | h | h | h | h | h | h | h | h <;> subst h <;> rfl)
theorem slice_one (s : ByteArray) (i : Nat) (h : i < s.size) (W : World) : (Instr.slice 9 (.string s) (some (.int .i64 (i : Int))) (some (.int .i64 ((i : Int) + 1))) none).run Tryz.prog W = .ok (.string (s.extract i (i + 1))) W := by
  rw [run_slice_string (P := Tryz.prog) W 9 s .i64 .i64 i ((i : Int) + 1) Tryz.underlying9 (by omega) (by omega) (by omega)]
  rw [show ((i : Int) + 1).toNat = i + 1 by omega, Int.toNat_natCast]
theorem div_step {b v r d k X R : Nat} (hR : R = 10 * r + d) (hX : X = R - k * b) (hk : k * b ≤ R) : 10 * (b * v + r) + d = X + b * (10 * v + k) := by
  have e : b * (10 * v) = 10 * (b * v) := Nat.mul_left_comm _ _ _
  rw [Nat.mul_add b, e, Nat.mul_comm b k]
  omega
theorem bs_nil : bs [] = ⟨#[]⟩ := rfl

set_option maxHeartbeats 2000000 in
set_option maxRecDepth 10000 in
theorem rdiv_call (w : World) (a b : Nat) (ha : a < 1000000000) (hb0 : 0 < b) (hb : b < 1000000000) :
    Calls Tryz.prog 105 #[.string (ds a), .string (ds b)] w fun e w' => e = .returned (.tuple #[.string (ds (a / b)), .string (ds (a % b))]) ∧ Below w.heap.size w w' := by
  have la : (ds a).size = (dl a).length := by rw [← dl_ds, bs_size]
  have l9 : (ds a).size ≤ 9 := by rw [ds_size]; exact dec_len9 a ha
  have hp := dec_pos a
  rw [← ds_size] at hp
  have LA := Lib.hid la
  have HAB := Lib.hid (And.intro ha (And.intro hb0 hb))
  have hds0 : (⟨#[48]⟩ : ByteArray) = ds 0 := ds0.symm
  obtain ⟨n, hn⟩ : ∃ n, n = (ds a).size := ⟨_, rfl⟩
  have HN := Lib.hid hn
  clear la ha hb0 hb
  go_enter Tryz.func105, Tryz.ntmps105
  go_wp2_with fail
  go_loopg [6, 7, 8] (ds a).size (fun gk s6 s7 s8 wr => ∃ (i r : Nat) (Q : List Nat), s8 = .int .i64 i ∧ i ≤ (ds a).size ∧ gk = (ds a).size - i ∧ s6 = .string (bs Q) ∧ s7 = .string (ds r) ∧ Hid (Q.length = i ∧ Dig Q ∧ vb Q = a / 10 ^ ((ds a).size - i) / b ∧ r = a / 10 ^ ((ds a).size - i) % b) ∧ Hid (Below w.heap.size w wr))
  case atStart =>
    have e : a / 10 ^ ((ds a).size - 0) = 0 := dl_beyond a _ (by have := LA.out; omega)
    refine ⟨0, 0, [], rfl, Nat.zero_le _, rfl, rfl, by first | rfl | rw [hds0], Lib.hid ⟨rfl, fun d hd => by simp at hd, by rw [e]; simp [vb], by rw [e]; simp⟩, Lib.hid (Below.refl _ _)⟩
  case round =>
    obtain ⟨i, r, Q, rfl, hi, rfl, rfl, rfl, hq, hbr⟩ := hrel
    by_cases hin : i < (ds a).size
    · have hz : (i : Int) < (ds a).size := by omega
      obtain ⟨d, hd⟩ : ∃ d, d = (dl a).getD i 0 := ⟨_, rfl⟩
      have hil : i < (dl a).length := by have := LA.out; omega
      have hd10 : d < 10 := by
        rw [hd, List.getD_eq_getElem?_getD, List.getElem?_eq_getElem hil]
        exact dl_dig a _ (List.getElem_mem _)
      have hex : (ds a).extract i (i + 1) = bs [d] := by rw [← dl_ds a]; exact bs_one (dl a) i hil d hd.symm
      have hcat : ds r ++ bs [d] = bs (dl r ++ [d]) := by rw [← dl_ds r]; exact bs_add _ _
      have hrb : r < b := by rw [hq.out.2.2.2]; exact Nat.mod_lt _ HAB.out.2.1
      have hr9 : (ds r).size ≤ 9 := by rw [ds_size]; exact dec_len9 r (by have := HAB.out; omega)
      have hb1 : (bs [d]).size = 1 := bs_size [d]
      have hdl : (dl r).length ≤ 9 := by rw [dl_len]; exact dec_len9 r (by have := HAB.out; omega)
      have HTR := Lib.hid (trimmed_call (dl r ++ [d]) (fun y hy => by
        rcases List.mem_append.1 hy with h | h
        · exact dl_dig r y h
        · simp at h; omega) (by simp) (by simp; omega) wr)
      rw [vb_snoc, dl_vb] at HTR
      have hsl : ∀ W, (Instr.slice 9 (.string (ds a)) (some (.int .i64 (i : Int))) (some (.int .i64 ((i : Int) + 1))) none).run Tryz.prog W = .ok (.string (bs [d])) W := fun W => by
        rw [slice_one (ds a) i hin W, hex]
      have HR : Hid (a / 10 ^ ((ds a).size - (i + 1)) = 10 * (a / 10 ^ ((ds a).size - i)) + d) := Lib.hid (by
        have h1 := dl_at a ((ds a).size - (i + 1)) (by have := LA.out; omega)
        rw [show (dl a).length - 1 - ((ds a).size - (i + 1)) = i by have := LA.out; omega, ← hd] at h1
        rw [show (ds a).size - i = ((ds a).size - (i + 1)) + 1 by omega, pow_div]
        omega)
      clear hex hd
      go_wp2_with fail
      refine HTR.out.mono ?_
      rintro e w' ⟨rfl, rfl⟩
      have hR10 : 10 * r + d < 10 * b := by omega
      obtain ⟨R, hR⟩ : ∃ R, R = 10 * r + d := ⟨_, rfl⟩
      rw [← hR] at hR10 ⊢
      have HRR := Lib.hid hR
      clear hR hsl hcat hr9 hb1 hdl HTR
      obtain ⟨W1, hW1⟩ : ∃ W, W = wr := ⟨_, rfl⟩
      rw [← hW1] at hbr ⊢
      clear hW1
      go_wp2_with fail
      go_loopg [7, 9] R (fun gk s7 s9 wr => ∃ k : Nat, s9 = .int .i64 k ∧ k * b ≤ R ∧ gk = R - k * b ∧ s7 = .string (ds (R - k * b)) ∧ Hid (Below w.heap.size w wr))
      case atStart => exact ⟨0, rfl, by simp, by simp, by simp, hbr⟩
      case round =>
        obtain ⟨k, rfl, hk, rfl, rfl, hby⟩ := hrel
        have hb0 := HAB.out.2.1
        have hk9 : k ≤ 9 := by
          rcases Nat.lt_or_ge k 10 with h | h
          · omega
          · have := Nat.mul_le_mul_right b h; omega
        have hR9 : R - k * b < 10000000000 := by have := HAB.out.2.2; omega
        obtain ⟨X, hX⟩ : ∃ X, X = R - k * b := ⟨_, rfl⟩
        have HX := Lib.hid hX
        rw [← hX] at hR9 ⊢
        have HK := Lib.hid hk
        clear hX hk hb0
        by_cases hlt : X < b
        · have hsl : ∀ W, (Instr.slice 9 (.string ⟨#[48, 49, 50, 51, 52, 53, 54, 55, 56, 57]⟩) (some (.int .i64 (k : Int))) (some (.int .i64 ((k : Int) + 1))) none).run Tryz.prog W = .ok (.string (bs [k])) W := fun W => by
            rw [slice_one _ k (by show k < 10; omega) W, ten_one k (by omega)]
          have hcat : bs Q ++ bs [k] = bs (Q ++ [k]) := bs_add _ _
          have hq1 : (bs Q).size ≤ 9 := by rw [bs_size]; have := hq.out.1; omega
          have hq2 : (bs [k]).size = 1 := bs_size [k]
          have HLT := Lib.hid (And.intro hlt hk9)
          have HL := Lib.hid (less_call wr X b)
          rw [decide_eq_true hlt] at HL
          clear hlt hR9
          go_wp2_with fail
          refine HL.out.mono ?_
          rintro e w' ⟨rfl, rfl⟩
          go_wp2_with fail
          go_roundg ((ds a).size - (i + 1))
          case measure => omega
          case rel =>
            have hPb := Nat.div_add_mod (a / 10 ^ ((ds a).size - i)) b
            have h1 := hq.out
            have h2 : a / 10 ^ ((ds a).size - (i + 1)) = X + b * (10 * vb Q + k) := by
              rw [HR.out, ← hPb, ← h1.2.2.1, ← h1.2.2.2]
              exact div_step HRR.out HX.out HK.out
            refine ⟨i + 1, X, Q ++ [k], by go_num, by omega, rfl, by first | rfl | rw [hcat], rfl, Lib.hid ⟨by rw [List.length_append, h1.1]; rfl, fun y hy => ?_, ?_, ?_⟩, hby⟩
            · rcases List.mem_append.1 hy with h | h
              · exact h1.2.1 y h
              · simp at h; have := HLT.out; omega
            · rw [vb_snoc, h2, Nat.add_mul_div_left _ _ HAB.out.2.1, Nat.div_eq_of_lt HLT.out.1, Nat.zero_add]
            · rw [h2, Nat.add_mul_mod_self_left, Nat.mod_eq_of_lt HLT.out.1]
        · have HL := Lib.hid (less_call wr X b)
          rw [decide_eq_false hlt] at HL
          have HS := Lib.hid (rsub_call wr X b (by omega) (by omega))
          have hk1 : Hid ((k + 1) * b ≤ R ∧ X - b = R - (k + 1) * b ∧ R - (k + 1) * b < R - k * b) := Lib.hid (by
            have := HX.out
            have := HK.out
            have := HAB.out.2.1
            rw [Nat.add_mul, Nat.one_mul]
            omega)
          clear hlt hR9
          go_wp2_with fail
          refine HL.out.mono ?_
          rintro e w' ⟨rfl, rfl⟩
          go_wp2_with fail
          refine HS.out.mono ?_
          rintro e w5 ⟨rfl, b5⟩
          have hbn : Hid (Below w.heap.size w w5) := Lib.hid (hby.out.trans (b5.mono hby.out.size))
          clear b5
          go_wp2_with fail
          go_roundg (R - (k + 1) * b)
          case measure => exact hk1.out.2.2
          case rel => exact ⟨k + 1, by go_num, hk1.out.1, rfl, by rw [hk1.out.2.1], hbn⟩
    · obtain rfl : i = (ds a).size := by omega
      have h1 := hq.out
      rw [Nat.sub_self, Nat.pow_zero, Nat.div_one] at h1
      have HT := Lib.hid (trimmed_call Q h1.2.1 (by omega) (by omega) wr)
      rw [h1.2.2.1] at HT
      have HRM := Lib.hid h1.2.2.2
      clear h1 hq
      go_wp2_with fail
      refine HT.out.mono ?_
      rintro e w' ⟨rfl, rfl⟩
      go_wp2_with fail
      go_ret2
      exact ⟨by rw [HRM.out]; rfl, hbr.out⟩
end Go.Proofs.YtdapflgfocideaaGreatDoor
