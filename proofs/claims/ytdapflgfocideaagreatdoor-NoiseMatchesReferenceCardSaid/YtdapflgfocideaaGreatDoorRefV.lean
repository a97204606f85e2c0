/- Contract of observatoryref17.Distribution: the good arm. -/
import Derived.Test.YtdapflgfocideaaGreatDoorRefU
namespace Go.Proofs.YtdapflgfocideaaGreatDoor
open Go Go.RowKit Go.Deep
open Go.Lib (decDigits)
attribute [local go_sem] guardO guardR

theorem tbl_mid2 {t : List Int} {n : Nat} (hV : VT t) (hn : n ≤ 6) {L : List (Int × Nat)} (hL : IsTbl L (cnt t n)) : L.length ≤ 1000000 := by
  have h1 := tbl_len hL
  rw [cnt_total hL] at h1
  have h2 : t.length ^ n ≤ 9 ^ n := Nat.pow_le_pow_left hV.2.1 n
  have h3 := pow9_le hn
  omega
theorem cnt_small {t : List Int} {n : Nat} (hV : VT t) (hn : n ≤ 6) : ∀ v, cnt t n v < 1000000000 := fun v => by have := cnt_lt hV hn v; omega
theorem cnt_range {t : List Int} {n : Nat} (hV : VT t) (hn : n ≤ 6) : ∀ v, cnt t n v ≠ 0 → -300 ≤ v ∧ v ≤ 300 := fun v h => by have := cnt_sup t hV.2.2 n v h; omega

set_option maxHeartbeats 2000000 in
set_option maxRecDepth 100000 in
theorem rdist_good (w : World) (A : Option Addr) (nt ct : Nat) (tape : List Int) (n : Nat) (h : RdI w w.heap.size A nt tape) (hV : VT tape) (hn : n ≤ 6) :
    Calls Tryz.prog 12 #[.slice A nt ct, .int .i64 n] w fun e w' => ∃ L, IsTbl L (cnt tape n) ∧ RetD w L e w' := by
  have hnt : nt ≤ 9 := by rw [← h.length]; exact hV.2.1
  have hv := rvalidT w w.heap.size A nt ct tape h (by omega)
  rw [decide_eq_true hV] at hv
  have HV := Lib.hid hv
  have HF := Lib.hid (And.intro h hV)
  clear h hV hv
  go_enter Tryz.func12, Tryz.ntmps12
  go_wp2_with fail
  refine HV.out.mono ?_
  rintro e w' ⟨rfl, rfl⟩
  go_wp2_with fail
  go_loopg [6, 7] n (fun gk s6 s7 wr => ∃ (i c6 : Nat) (A6 : Option Addr) (L : List (Int × Nat)), s7 = .int .i64 i ∧ i ≤ n ∧ gk = n - i ∧ s6 = .slice A6 L.length c6 ∧ L.length ≤ c6 ∧ Hid (IsTbl L (cnt tape i) ∧ RdO wr wr.heap.size A6 L.length L ∧ (∀ p, A6 = some p → w.heap.size ≤ p.block) ∧ Below w.heap.size w wr))
  case atStart =>
    have hk : Blk (w.alloc (.cells #[.int .i64 0, .string ⟨#[49]⟩] 38)) w.heap.size 38 (ocells [(0, 1)]).toArray := by
      have e : (ocells [(0, 1)]).toArray = #[.int .i64 0, .string ⟨#[49]⟩] := by simp [ocells, ds1]
      rw [e]; exact Blk.new _ _ _
    refine ⟨0, 1, some ⟨w.heap.size, 0, none⟩, [(0, 1)], rfl, Nat.zero_le _, rfl, rfl, Nat.le_refl _, Lib.hid ⟨⟨by simp, fun x c => ?_⟩, hk.rdO (by simp), fun p e => by cases e; exact Nat.le_refl _, (Below.refl _ _).alloc (Nat.le_refl _) _⟩⟩
    show _ ↔ (if x = 0 then 1 else 0) = c ∧ c ≠ 0
    by_cases e : x = 0
    · subst e
      simp
      omega
    · rw [if_neg e]; simp [e]; omega
  case round =>
    obtain ⟨i, c6, A6, L, rfl, hi, rfl, rfl, hc6, hst⟩ := hrel
    by_cases hin : i < n
    · have hinz : (i : Int) < n := by omega
      obtain ⟨W0, hW0⟩ : ∃ W, W = wr := ⟨_, rfl⟩
      rw [← hW0] at hst ⊢
      clear hW0
      have hLl := tbl_mid2 HF.out.2 (by omega) hst.out.1
      go_wp2_with fail
      go_loopg [8, 9] L.length (fun gk s8 s9 wr => ∃ (k : Nat) (M : List (Int × Nat)), s9 = .int .i64 k ∧ k ≤ L.length ∧ gk = L.length - k ∧ Hid (IsTbl M (conv tape (pre L k)) ∧ wr.ownsRow W0.heap.size 38 2 s8 M.length (ocells M) ∧ (M.length = 0 → s8 = .slice none 0 0) ∧ Below W0.heap.size W0 wr))
      case atStart =>
        have e : pre L 0 = fun _ => 0 := by funext x; simp [pre, lk]
        exact ⟨0, [], rfl, Nat.zero_le _, rfl, Lib.hid ⟨by rw [e, conv_zero]; exact ⟨List.Pairwise.nil, fun x c => by simp; omega⟩, World.ownsRow_nil _ _ _ _, fun _ => rfl, Below.refl _ _⟩⟩
      case round =>
        obtain ⟨k, M, rfl, hk, rfl, hm⟩ := hrel
        by_cases hkl : k < L.length
        · have hkz : (k : Int) < L.length := by omega
          obtain ⟨g6, o6, x, c, hA6, _, _, _, hx⟩ := hst.out.2.1.at hkl
          have HX := Lib.hid (And.intro hkl hx.out)
          go_wp2_with fail
          go_loopg [8, 10] nt (fun gk s8 s10 wr => ∃ (j : Nat) (M : List (Int × Nat)), s10 = .int .i64 j ∧ j ≤ nt ∧ gk = nt - j ∧ Hid (IsTbl M (acc (conv tape (pre L k)) x c (tape.take j)) ∧ wr.ownsRow W0.heap.size 38 2 s8 M.length (ocells M) ∧ (M.length = 0 → s8 = .slice none 0 0) ∧ Below W0.heap.size W0 wr))
          case atStart => exact ⟨0, M, rfl, Nat.zero_le _, rfl, Lib.hid ⟨hm.out.1, hm.out.2.1, hm.out.2.2.1, hm.out.2.2.2⟩⟩
          case round =>
            obtain ⟨j, M', rfl, hj, rfl, hmj⟩ := hrel
            by_cases hjn : j < nt
            · have hjz : (j : Int) < nt := by omega
              obtain ⟨tb, tf, o, hA, _, co, ho⟩ := ((HF.out.1.below hst.out.2.2.2).below (hmj.out.2.2.2.mono hst.out.2.2.2.size)).at hjn
              obtain ⟨g6', o6', x', c', hA6', _, cx, cc, hx'⟩ := (hst.out.2.1.below hmj.out.2.2.2).at hkl
              rw [hA6] at hA6'
              cases hA6'
              obtain ⟨rfl, rfl⟩ : x' = x ∧ c' = c := by have := hx'.out; rw [hx.out] at this; cases this; exact ⟨rfl, rfl⟩
              subst hA
              subst hA6
              have hmem : (x', c') ∈ L := by rw [← hx.out, List.getD_eq_getElem?_getD, List.getElem?_eq_getElem hkl]; exact List.getElem_mem _
              have hc0 := (hst.out.1.2 x' c').1 hmem
              have hxr := cnt_range HF.out.2 (by omega : i ≤ 6) x' (by omega)
              have hc9 : c' < 1000000000 := by have := cnt_small HF.out.2 (by omega : i ≤ 6) x'; omega
              have hor : -50 ≤ o ∧ o ≤ 50 := HF.out.2.2.2 o (by rw [← ho.out, List.getD_eq_getElem?_getD, List.getElem?_eq_getElem (by have := HF.out.1.length; omega)]; exact List.getElem_mem _)
              have hwxo : IntKind.i64.wrap (x' + o) = x' + o := IntWalk.i64_in _ (by omega)
              have hle := acc_below hst.out.1 hkl hx.out j
              have PUT := Lib.hid (put_call wr.drew W0.heap.size M'.length _ M' _ (x' + o) c' hmj.out.2.1.drew rfl hmj.out.1 hc0.2 hc9 (fun q hq => tbl_val hmj.out.1 (fun v => Nat.lt_of_le_of_lt (hle v) (cnt_small HF.out.2 (by omega : i + 1 ≤ 6) v)) q hq) hmj.out.2.2.2.size (by have := tbl_short hmj.out.1 (fun v hv => cnt_range HF.out.2 (by omega : i + 1 ≤ 6) v (by have := hle v; omega)); omega) hmj.out.2.2.1)
              have hnew : acc (conv tape (pre L k)) x' c' (tape.take (j + 1)) = upd (acc (conv tape (pre L k)) x' c' (tape.take j)) (x' + o) c' := by
                rw [take_snoc' tape j (by have := HF.out.1.length; omega), acc_snoc, ho.out]
              have HN := Lib.hid hnew
              have HC0 := Lib.hid hc0.2
              clear hmem hc0 hxr hc9 hor hle hnew
              go_wp2_with fail
              go_still_tail 16, (by kernel_rfl)
              change wpList _ _ _ _ _ wr.drew
              go_wp2_with fail
              refine PUT.out.mono ?_
              rintro e w5 ⟨V', L', rfl, hT', ho', hb'⟩
              have HT' : Hid (IsTbl L' (acc (conv tape (pre L k)) x' c' (tape.take (j + 1))) ∧ w5.ownsRow W0.heap.size 38 2 V' L'.length (ocells L') ∧ (L'.length = 0 → V' = .slice none 0 0) ∧ Below W0.heap.size W0 w5) := Lib.hid (by
                refine ⟨by rw [HN.out]; exact hT', ho', fun h0 => ?_, hmj.out.2.2.2.trans (Below.trans (Below.drew (Below.refl _ _)) hb')⟩
                exfalso
                obtain rfl : L' = [] := List.eq_nil_of_length_eq_zero h0
                have h1 := (hT'.2 (x' + o) _).2 ⟨rfl, by simp only [upd, if_true]; have := HC0.out; omega⟩
                simp at h1)
              clear hT' ho' hb'
              go_wp2_with fail
              go_roundg (nt - (j + 1))
              case measure => omega
              case rel => exact ⟨j + 1, L', by go_num, by omega, rfl, HT'⟩
            · obtain rfl : j = nt := by omega
              have hfin : Hid (IsTbl M' (conv tape (pre L (k + 1)))) := Lib.hid (by
                have h1 := hmj.out.1
                rw [← HF.out.1.length, List.take_length, acc_pre tape hst.out.1 hkl hx.out] at h1
                exact h1)
              go_wp2_with fail
              go_roundg (L.length - (k + 1))
              case measure => omega
              case rel => exact ⟨k + 1, M', by go_num, by omega, rfl, Lib.hid ⟨hfin.out, hmj.out.2⟩⟩
        · obtain rfl : k = L.length := by omega
          have hT := hm.out.1
          rw [pre_all hst.out.1] at hT
          obtain ⟨A7, c7, rfl, hc7, rd7, hb7⟩ := own_rdO hm.out.2.1
          have HN : Hid (IsTbl M (cnt tape (i + 1)) ∧ RdO wr wr.heap.size A7 M.length M ∧ (∀ p, A7 = some p → w.heap.size ≤ p.block) ∧ Below w.heap.size w wr) := Lib.hid ⟨hT, rd7, fun p e => Nat.le_trans hst.out.2.2.2.size (hb7 p e), hst.out.2.2.2.trans (hm.out.2.2.2.mono hst.out.2.2.2.size)⟩
          clear hT rd7 hb7
          go_wp2_with fail
          go_roundg (n - (i + 1))
          case measure => omega
          case rel => exact ⟨i + 1, c7, A7, M, by go_num, by omega, rfl, rfl, hc7, HN⟩
    · obtain rfl : i = n := by omega
      go_wp2_with fail
      go_ret2
      exact ⟨L, hst.out.1, A6, c6, rfl, hc6, hst.out.2.1, hst.out.2.2.1, hst.out.2.2.2⟩
end Go.Proofs.YtdapflgfocideaaGreatDoor
