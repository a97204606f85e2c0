/- Contract of observatoryref17.Valid. -/
import Derived.Test.YtdapflgfocideaaGreatDoorRefR
namespace Go.Proofs.YtdapflgfocideaaGreatDoor
open Go Go.RowKit Go.Deep
open Go.Lib (decDigits)
attribute [local go_sem] guardO guardR

set_option maxHeartbeats 1000000 in
theorem rvalidT (w : World) (B : Nat) (A : Option Addr) (n c : Nat) (t : List Int) (h : RdI w B A n t) (hn : n ≤ 4611686018427387904) :
    Calls Tryz.prog 16 #[.slice A n c] w fun e w' => e = .returned (.bool (decide (VT t))) ∧ w = w' := by
  have HF := Lib.hid h
  have HL := Lib.hid h.length
  clear h
  go_enter Tryz.func16, Tryz.ntmps16
  go_wp2_with fail
  go_loopg [3] n (fun gk s3 wr => ∃ i : Nat, s3 = .int .i64 i ∧ i ≤ n ∧ gk = n - i ∧ Hid (∀ j, j < i → -50 ≤ t.getD j 0 ∧ t.getD j 0 ≤ 50) ∧ w = wr)
  case atStart => exact ⟨0, rfl, Nat.zero_le _, rfl, Lib.hid (fun j hj => absurd hj (by omega)), rfl⟩
  case round =>
    obtain ⟨i, rfl, hi, rfl, hinv, rfl⟩ := hrel
    by_cases hin : i < n
    · obtain ⟨g, o, x, hA, _, cx, hx⟩ := HF.out.at hin
      have hinz : (i : Int) < n := by omega
      by_cases h1 : -50 ≤ x ∧ x ≤ 50
      · have c1 : ¬ x < -50 := by omega
        have c2 : ¬ (50 : Int) < x := by omega
        have hnew : Hid (∀ j, j < i + 1 → -50 ≤ t.getD j 0 ∧ t.getD j 0 ≤ 50) := Lib.hid fun j hj => by
          by_cases e : j = i
          · subst e; rw [hx.out]; exact h1
          · exact hinv.out j (by omega)
        subst hA
        clear h1
        go_wp2_with fail
        go_roundg (n - (i + 1))
        case measure => omega
        case rel => exact ⟨i + 1, by go_num, by omega, rfl, hnew, rfl⟩
      · have hf : decide (VT t) = false := decide_eq_false (fun hV => h1 (hV.2.2 x (by
          rw [← hx.out, List.getD_eq_getElem?_getD, List.getElem?_eq_getElem (by have := HL.out; omega)]; exact List.getElem_mem _)))
        have HFF := Lib.hid hf
        subst hA
        clear hf
        by_cases h2 : x < -50
        · clear h1
          go_wp2_with fail
          go_ret
          exact ⟨by rw [HFF.out]; rfl, rfl⟩
        · have h3 : (50 : Int) < x := by omega
          clear h1
          go_wp2_with fail
          go_ret
          exact ⟨by rw [HFF.out]; rfl, rfl⟩
    · obtain rfl : i = n := by omega
      have hall : ∀ x ∈ t, -50 ≤ x ∧ x ≤ 50 := fun x hx => by
        obtain ⟨j, hj, e⟩ := List.getElem_of_mem hx
        have := hinv.out j (by have := HL.out; omega)
        rw [List.getD_eq_getElem?_getD, List.getElem?_eq_getElem hj] at this
        simp only [Option.getD_some, e] at this
        exact this
      have hd : decide (VT t) = decide (1 ≤ i ∧ i ≤ 9) := by
        by_cases h : 1 ≤ i ∧ i ≤ 9
        · rw [decide_eq_true h, decide_eq_true ⟨by rw [HL.out]; exact h.1, by rw [HL.out]; exact h.2, hall⟩]
        · rw [decide_eq_false h, decide_eq_false (fun hV => h ⟨by rw [← HL.out]; exact hV.1, by rw [← HL.out]; exact hV.2.1⟩)]
      have HD := Lib.hid hd
      clear hall hd
      by_cases h1 : 1 ≤ i
      · by_cases h2 : i ≤ 9
        · have e : decide (VT t) = true := by rw [HD.out]; exact decide_eq_true ⟨h1, h2⟩
          have HE := Lib.hid e
          clear e
          go_wp2_with fail
          go_ret
          exact ⟨by rw [HE.out]; first | rfl | (simp [h1, h2]; done) | (simp [h1]; omega), rfl⟩
        · have e : decide (VT t) = false := by rw [HD.out]; exact decide_eq_false (fun h => h2 h.2)
          have HE := Lib.hid e
          clear e
          have h2z : ¬ (i : Int) ≤ 9 := by omega
          go_wp2_with fail
          go_ret
          exact ⟨by rw [HE.out]; first | rfl | (simp [h1, h2]; done) | (simp [h1]; omega), rfl⟩
      · have e : decide (VT t) = false := by rw [HD.out]; exact decide_eq_false (fun h => h1 h.1)
        have HE := Lib.hid e
        clear e
        have h2z : ¬ (1 : Int) ≤ i := by omega
        go_wp2_with fail
        go_ret
        exact ⟨by rw [HE.out]; first | rfl | simp [h1], rfl⟩
end Go.Proofs.YtdapflgfocideaaGreatDoor
