/- Contracts of observatoryref03: trimmed, at. -/
import Derived.Test.YtdapflgfocideaaGreatDoorRefD
namespace Go.Proofs.YtdapflgfocideaaGreatDoor
open Go Go.RowKit Go.Deep
open Go.Lib (decDigits)
attribute [local go_sem] guardO guardR

theorem bs_at (L : List Nat) (hd : Dig L) (i : Nat) (h : i < (bs L).size) : ((bs L)[i]'h).toNat = 48 + L.getD i 0 := by
  have hl : i < L.length := by rw [bs_size] at h; exact h
  rw [List.getD_eq_getElem?_getD, List.getElem?_eq_getElem hl]
  have e : ((L.map db).toArray)[i]'(by simpa using hl) = db (L[i]'hl) := by simp
  exact (congrArg UInt8.toNat e).trans (db_nat (hd _ (List.getElem_mem hl)))
theorem bs_ext {s t : ByteArray} (h : s.data.toList = t.data.toList) : s = t := by
  cases s; cases t; congr 1; exact Array.toList_inj.1 h
theorem bs_slice (L : List Nat) (i : Nat) : (bs L).extract i (bs L).size = bs (L.drop i) := by
  apply bs_ext
  have hs := bs_size L
  rw [ByteArray.data_extract, Array.toList_extract, hs]
  show ((L.map db).toArray.toList.extract i L.length) = ((L.drop i).map db).toArray.toList
  simp only [List.extract_eq_take_drop, List.map_drop]
  exact List.take_of_length_le (by simp)

set_option maxHeartbeats 400000 in
theorem trimmed_call (L : List Nat) (hd : Dig L) (hL : 0 < L.length) (hs : L.length ≤ 1000) (w : World) :
    Calls Tryz.prog 104 #[.string (bs L)] w fun e w' => e = .returned (.string (ds (vb L))) ∧ w = w' := by
  have HD := Lib.hid hd
  have hsz := bs_size L
  have HB := Lib.hid (bs_at L hd)
  obtain ⟨s, hs2⟩ : ∃ s, s = bs L := ⟨_, rfl⟩
  have HS := Lib.hid hs2
  rw [← hs2] at hsz HB ⊢
  have hs0 : 0 < s.size := by omega
  have hs1 : s.size ≤ 1000 := by omega
  have HSZ := Lib.hid hsz
  clear hd hs2 hsz hL hs
  go_enter Tryz.func104, Tryz.ntmps104
  go_wp2_with fail
  go_loopg [3] s.size (fun gk s3 wr => ∃ i : Nat, s3 = .int .i64 i ∧ i < s.size ∧ gk = s.size - i ∧ Hid (∀ j, j < i → L.getD j 0 = 0) ∧ w = wr)
  case atStart => exact ⟨0, rfl, hs0, rfl, Lib.hid (fun j hj => absurd hj (by omega)), rfl⟩
  case round =>
    obtain ⟨i, rfl, hi, rfl, hz, rfl⟩ := hrel
    have hc := HB.out i hi
    by_cases h1 : i + 1 < s.size
    · have hiz : (i : Int) + 1 < s.size := by omega
      by_cases h0 : L.getD i 0 = 0
      · have hb : ((s[i]'hi).toNat : Int) = 48 := by rw [hc, h0]; rfl
        clear hc
        go_wp2_with fail
        go_roundg (s.size - (i + 1))
        case measure => omega
        case rel => exact ⟨i + 1, by go_num, by omega, rfl, Lib.hid (fun j hj => by by_cases e : j = i; (subst e; exact h0); exact hz.out j (by omega)), rfl⟩
      · have hb : ¬ ((s[i]'hi).toNat : Int) = 48 := by rw [hc]; omega
        have HF := Lib.hid (And.intro hc h0)
        clear hc h0
        go_wp2_with fail
        go_ret
        refine ⟨?_, rfl⟩
        show Ending.returned (.string (s.extract i s.size)) = _
        rw [HS.out, bs_slice, bs_trim L HD.out i (by have := HSZ.out; omega) hz.out (.inl HF.out.2)]
    · have hni : ¬ (i : Int) + 1 < s.size := by omega
      clear hc
      go_wp2_with fail
      go_ret
      refine ⟨?_, rfl⟩
      show Ending.returned (.string (s.extract i s.size)) = _
      rw [HS.out, bs_slice, bs_trim L HD.out i (by have := HSZ.out; omega) hz.out (.inr (by have := HSZ.out; omega))]

set_option maxHeartbeats 400000 in
theorem at_call (m p : Nat) (hm : m < 1000000000000000000) (hp : p ≤ 1000) (w : World) :
    Calls Tryz.prog 65 #[.string (ds m), .int .i64 p] w fun e w' => e = .returned (.int .i64 ((m / 10 ^ p % 10 : Nat) : Int)) ∧ w = w' := by
  have hl : (ds m).size ≤ 18 := by rw [ds_size]; exact dec_len18 m hm
  have hsz : (ds m).size = (dl m).length := by rw [← dl_ds, bs_size]
  obtain ⟨d, hd⟩ : ∃ d, d = m / 10 ^ p % 10 := ⟨_, rfl⟩
  have hd10 : d < 10 := by omega
  by_cases h : p < (dl m).length
  · have h2 := dl_at m p h
    rw [← hd] at h2 ⊢
    obtain ⟨j, hj⟩ : ∃ j, j = (ds m).size - 1 - p := ⟨_, rfl⟩
    have hjs : j < (ds m).size := by omega
    have hb : (((ds m)[j]'hjs).toNat : Int) = 48 + d := by
      have h3 := bs_at (dl m) (dl_dig m) j (by rw [bs_size]; omega)
      rw [show (dl m).length - 1 - p = j by omega] at h2
      rw [h2] at h3
      have h4 : ((ds m)[j]'hjs).toNat = ((bs (dl m))[j]'(by rw [bs_size]; omega)).toNat := by
        congr 1
        congr 1
        exact (dl_ds m).symm
      rw [h4, h3]; rfl
    have hjz : ((ds m).size : Int) - 1 - p = j := by omega
    have hps : ¬ (ds m).size ≤ p := by omega
    have hpz : ¬ ((ds m).size : Int) ≤ p := by omega
    have hw1 : IntKind.u8.wrap ((48 : Int) + d - 48) = d := by rw [show (48 : Int) + d - 48 = d by omega]; exact IntWalk.u8_in _ (by omega)
    have hw2 : IntKind.i64.wrap (d : Int) = d := IntWalk.i64_in _ (by omega)
    have HJ := Lib.hid hj
    generalize ds m = s at *
    clear h h2 hd hj hsz
    go_enter Tryz.func65, Tryz.ntmps65
    go_wp2_with fail
    go_ret
    exact ⟨rfl, rfl⟩
  · have h0 : m / 10 ^ p = 0 := dl_beyond m p (by omega)
    have hd0 : d = 0 := by rw [hd, h0]
    rw [← hd, hd0]
    have hps : ((ds m).size : Int) ≤ p := by omega
    clear h h0 hd hd0 hd10
    go_enter Tryz.func65, Tryz.ntmps65
    go_wp2_with fail
    go_ret
    exact ⟨rfl, rfl⟩
end Go.Proofs.YtdapflgfocideaaGreatDoor
