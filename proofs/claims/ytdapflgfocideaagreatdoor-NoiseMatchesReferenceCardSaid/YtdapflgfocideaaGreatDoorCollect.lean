/- Contracts of natural.collect and its closure. -/
import Derived.Test.YtdapflgfocideaaGreatDoorLimb
import Derived.Deep.OwnRows
namespace Go.Proofs.YtdapflgfocideaaGreatDoor
open Go Go.RowKit Go.Deep

set_option maxHeartbeats 400000 in
theorem put_any (w : World) (Bc Bo g : Nat) (i n : Nat) (s c : Int) (xs : List Int) (hc : Blk w Bc 3 #[.int .i64 c]) (ho : Blk w Bo 72 #[.slice (some ⟨g, 0, none⟩) n n]) (hg : Blk w g 3 (ints xs))
    (hlen : xs.length = n) (hi : i < n) (hn : n ≤ 1000000) (hs : 0 ≤ s) (hs2 : s ≤ 4000000000000000000) (hc0 : 0 ≤ c) (hc2 : c ≤ 4000000000000000000) (h1 : Bc ≠ Bo) (h2 : Bc ≠ g) :
    Calls Tryz.prog 92 #[.int .i64 i, .int .i64 s, .pointer (some ⟨Bc, 0, none⟩), .pointer (some ⟨Bo, 0, none⟩)] w fun e w' => e = .returned (.tuple #[]) ∧
      w' = (w.setCell ⟨Bc, 0, none⟩ (.int .i64 ((s + c) / 1000000000))).setCell ⟨g, i, none⟩ (.int .i64 ((s + c) % 1000000000)) := by
  have c1 := hc.one
  have f1 := hc.free 0
  have c2 := ho.one
  obtain ⟨u, c3⟩ : ∃ u, w.cell? ⟨g, i, none⟩ = some u := ⟨.int .i64 xs[i], by rw [hg.cell i, ints]; simp⟩
  have f3 := hg.free i
  have hq : 0 ≤ (s + c) % 1000000000 := by omega
  clear hlen hc ho hg
  go_enter Tryz.func92, Tryz.ntmps92
  go_wp2
  go_end0
  exact ⟨rfl, rfl⟩

def carr (v : Nat → Int) : Nat → Int
  | 0 => 0
  | k + 1 => (v k + carr v k) / 1000000000
def outAt (v : Nat → Int) (k : Nat) : Int := (v k + carr v k) % 1000000000
def outs (v : Nat → Int) (n k : Nat) : List Int := (List.range n).map fun j => if j < k then outAt v j else 0
theorem outs_length (v : Nat → Int) (n k : Nat) : (outs v n k).length = n := by simp [outs]
theorem outs_set (v : Nat → Int) (n k : Nat) : (outs v n k).set k (outAt v k) = outs v n (k + 1) := by
  apply List.ext_getElem?
  intro j
  simp only [List.getElem?_set, outs, List.length_map, List.length_range, List.getElem?_map, List.getElem?_range]
  by_cases hj : k = j
  · subst hj
    by_cases hn : k < n
    · simp [hn]
    · simp [hn]
  · simp only [hj, if_false]
    by_cases hn : j < n
    · simp [hn]; by_cases h1 : j < k
      · rw [if_pos h1, if_pos (by omega)]
      · rw [if_neg h1, if_neg (by omega)]
    · simp [hn]
def zeros (n : Nat) : List Int := List.replicate n 0
theorem outs_zero (v : Nat → Int) (n : Nat) : outs v n 0 = zeros n := by
  simp [outs, zeros, List.map_const']
theorem carr_bd (v : Nat → Int) (hv : ∀ i, 0 ≤ v i ∧ v i ≤ 2000000000000000000) (k : Nat) : 0 ≤ carr v k ∧ carr v k ≤ 4000000000 := by
  induction k with
  | zero => simp [carr]
  | succ k ih => have := hv k; unfold carr; omega

theorem cells_zeros (n : Nat) : madeCells #[Value.int .i64 0] n = ints (zeros n) := by
  apply Array.ext
  · simp [madeCells, ints, zeros]
  · intro i h1 h2
    simp [madeCells, ints, zeros, Nat.mod_one]
theorem make_zeros (n : Nat) (hn : n ≤ 1000000) (w : World) :
    (Instr.makeSlice 72 (.int .i64 (n : Int)) (.int .i64 (n : Int))).run Tryz.prog w = .ok (.slice (some ⟨w.heap.size, 0, none⟩) n n) (w.alloc (.cells (ints (zeros n)) 3)) := by
  have h := run_make_row' (P := Tryz.prog) 72 3 (.int .i64 0) 8 (by kernel_rfl) (by kernel_rfl) rfl .i64 .i64 n (by omega) (by omega) w
  rw [cells_zeros] at h
  exact h
theorem A.info3 : (Tryz.prog.info? 3).map (fun i => (i.zero, i.size, i.bytes)) = some (some (.int .i64 0), 1, 8) := by kernel_rfl

set_option maxHeartbeats 400000 in
theorem collect60 (n : Nat) (p q : Value) (v : Nat → Int) (w : World) (hn : n ≤ 1000000) (hv : ∀ i, 0 ≤ v i ∧ v i ≤ 2000000000000000000)
    (hf : ∀ i w', i < n → Below w.heap.size w w' → Calls Tryz.prog 60 #[.int .i64 (i : Nat), p, q] w' fun e w'' => e = .returned (.int .i64 (v i)) ∧ ∃ m, w'' = w'.drewN m) :
    Calls Tryz.prog 59 #[.int .i64 n, .func (.func 60) #[] #[p, q]] w fun e w' => ∃ g, e = .returned (.slice (some ⟨g, 0, none⟩) (trimLen (outs v n n) n) n) ∧ Blk w' g 3 (ints (outs v n n)) ∧ Below w.heap.size w w' ∧ w.heap.size ≤ g := by
  have hmk := make_zeros n hn
  have HF := Lib.hid hf
  have HV := Lib.hid hv
  clear hf hv
  go_enter Tryz.func59, Tryz.ntmps59
  go_wp2_with fail
  go_loopw [13] (fun i wr => ∃ k : Nat, k ≤ n ∧ i = .int .i64 k ∧ Blk wr w.heap.size 3 (ints (outs v n k)) ∧ Blk wr (w.heap.size + 1) 72 #[.slice (some ⟨w.heap.size, 0, none⟩) n n] ∧
      Blk wr (w.heap.size + 1 + 1) 3 #[.int .i64 (carr v k)] ∧ Below w.heap.size w wr) (fun i _ => n - (intOf i).toNat)
  case atStart =>
    refine ⟨0, Nat.zero_le _, rfl, ?_, ?_, ?_, ?_⟩
    · rw [outs_zero]; exact ((Blk.new w _ _).alloc _).alloc _
    · have h := (Blk.new (w.alloc (.cells (ints (zeros n)) 3)) 72 #[.slice (some ⟨w.heap.size, 0, none⟩) n n]).alloc (.cells #[.int .i64 0] 3)
      simpa using h
    · have h := Blk.new ((w.alloc (.cells (ints (zeros n)) 3)).alloc (.cells #[.slice (some ⟨w.heap.size, 0, none⟩) n n] 72)) 3 #[.int .i64 0]
      simpa [carr] using h
    · exact (((Below.refl _ _).alloc (Nat.le_refl _) _).alloc (by simp) _).alloc (by simp; omega) _
  case round =>
    obtain ⟨k, hk, rfl, b1, b2, b3, hb⟩ := hrel
    by_cases hlt : k < n
    · have hck := carr_bd v HV.out k
      have hvk := HV.out k
      have hcall := HF.out k wr hlt hb
      go_wp2_with fail
      refine hcall.mono ?_
      rintro e w' ⟨rfl, m, rfl⟩
      go_wp2_with fail
      refine (put_any _ (w.heap.size + 1 + 1) (w.heap.size + 1) w.heap.size k n (v k) (carr v k) (outs v n k) (b3.drewN m) (b2.drewN m) (b1.drewN m) (outs_length _ _ _) hlt hn (HV.out k).1 (by have := HV.out k; omega) (carr_bd v HV.out k).1 (by have := carr_bd v HV.out k; omega) (by omega) (by omega)).mono ?_
      rintro e w' ⟨rfl, rfl⟩
      go_wp2_with fail
      go_roundw
      case rel =>
        refine ⟨k + 1, by omega, by go_num, ?_, ?_, ?_, ?_⟩
        · rw [← outs_set, ← ints_set]; exact ((b1.drewN m).far (by omega) _).set k _
        · exact ((b2.drewN m).far (by omega) _).far (by omega) _
        · exact (((b3.drewN m).set 0 _)).far (by omega) _
        · exact ((below_drewN hb m).setCell (by simp; omega) _).setCell (by simp) _
      case measure => simp [intOf]; omega
    · obtain rfl : k = n := by omega
      have c2 := b2.one
      go_wp2_with fail
      refine (trimmed_any _ wr.heap.size _ k k (outs v k k) (by have := b1.rdI b1.lt; rwa [outs_length] at this) hn (Nat.le_refl _)).mono ?_
      rintro e w' ⟨rfl, rfl⟩
      go_wp2_with fail
      go_ret
      exact ⟨_, rfl, b1, hb, Nat.le_refl _⟩
set_option maxHeartbeats 400000 in
theorem collect117 (n : Nat) (p q : Value) (v : Nat → Int) (w : World) (hn : n ≤ 1000000) (hv : ∀ i, 0 ≤ v i ∧ v i ≤ 2000000000000000000)
    (hf : ∀ i w', i < n → Below w.heap.size w w' → Calls Tryz.prog 117 #[.int .i64 (i : Nat), p, q] w' fun e w'' => e = .returned (.int .i64 (v i)) ∧ ∃ m, w'' = w'.drewN m) :
    Calls Tryz.prog 59 #[.int .i64 n, .func (.func 117) #[] #[p, q]] w fun e w' => ∃ g, e = .returned (.slice (some ⟨g, 0, none⟩) (trimLen (outs v n n) n) n) ∧ Blk w' g 3 (ints (outs v n n)) ∧ Below w.heap.size w w' ∧ w.heap.size ≤ g := by
  have hmk := make_zeros n hn
  have HF := Lib.hid hf
  have HV := Lib.hid hv
  clear hf hv
  go_enter Tryz.func59, Tryz.ntmps59
  go_wp2_with fail
  go_loopw [13] (fun i wr => ∃ k : Nat, k ≤ n ∧ i = .int .i64 k ∧ Blk wr w.heap.size 3 (ints (outs v n k)) ∧ Blk wr (w.heap.size + 1) 72 #[.slice (some ⟨w.heap.size, 0, none⟩) n n] ∧
      Blk wr (w.heap.size + 1 + 1) 3 #[.int .i64 (carr v k)] ∧ Below w.heap.size w wr) (fun i _ => n - (intOf i).toNat)
  case atStart =>
    refine ⟨0, Nat.zero_le _, rfl, ?_, ?_, ?_, ?_⟩
    · rw [outs_zero]; exact ((Blk.new w _ _).alloc _).alloc _
    · have h := (Blk.new (w.alloc (.cells (ints (zeros n)) 3)) 72 #[.slice (some ⟨w.heap.size, 0, none⟩) n n]).alloc (.cells #[.int .i64 0] 3)
      simpa using h
    · have h := Blk.new ((w.alloc (.cells (ints (zeros n)) 3)).alloc (.cells #[.slice (some ⟨w.heap.size, 0, none⟩) n n] 72)) 3 #[.int .i64 0]
      simpa [carr] using h
    · exact (((Below.refl _ _).alloc (Nat.le_refl _) _).alloc (by simp) _).alloc (by simp; omega) _
  case round =>
    obtain ⟨k, hk, rfl, b1, b2, b3, hb⟩ := hrel
    by_cases hlt : k < n
    · have hck := carr_bd v HV.out k
      have hvk := HV.out k
      have hcall := HF.out k wr hlt hb
      go_wp2_with fail
      refine hcall.mono ?_
      rintro e w' ⟨rfl, m, rfl⟩
      go_wp2_with fail
      refine (put_any _ (w.heap.size + 1 + 1) (w.heap.size + 1) w.heap.size k n (v k) (carr v k) (outs v n k) (b3.drewN m) (b2.drewN m) (b1.drewN m) (outs_length _ _ _) hlt hn (HV.out k).1 (by have := HV.out k; omega) (carr_bd v HV.out k).1 (by have := carr_bd v HV.out k; omega) (by omega) (by omega)).mono ?_
      rintro e w' ⟨rfl, rfl⟩
      go_wp2_with fail
      go_roundw
      case rel =>
        refine ⟨k + 1, by omega, by go_num, ?_, ?_, ?_, ?_⟩
        · rw [← outs_set, ← ints_set]; exact ((b1.drewN m).far (by omega) _).set k _
        · exact ((b2.drewN m).far (by omega) _).far (by omega) _
        · exact (((b3.drewN m).set 0 _)).far (by omega) _
        · exact ((below_drewN hb m).setCell (by simp; omega) _).setCell (by simp) _
      case measure => simp [intOf]; omega
    · obtain rfl : k = n := by omega
      have c2 := b2.one
      go_wp2_with fail
      refine (trimmed_any _ wr.heap.size _ k k (outs v k k) (by have := b1.rdI b1.lt; rwa [outs_length] at this) hn (Nat.le_refl _)).mono ?_
      rintro e w' ⟨rfl, rfl⟩
      go_wp2_with fail
      go_ret
      exact ⟨_, rfl, b1, hb, Nat.le_refl _⟩
set_option maxHeartbeats 400000 in
theorem collect118 (n : Nat) (p q : Value) (v : Nat → Int) (w : World) (hn : n ≤ 1000000) (hv : ∀ i, 0 ≤ v i ∧ v i ≤ 2000000000000000000)
    (hf : ∀ i w', i < n → Below w.heap.size w w' → Calls Tryz.prog 118 #[.int .i64 (i : Nat), p, q] w' fun e w'' => e = .returned (.int .i64 (v i)) ∧ ∃ m, w'' = w'.drewN m) :
    Calls Tryz.prog 59 #[.int .i64 n, .func (.func 118) #[] #[p, q]] w fun e w' => ∃ g, e = .returned (.slice (some ⟨g, 0, none⟩) (trimLen (outs v n n) n) n) ∧ Blk w' g 3 (ints (outs v n n)) ∧ Below w.heap.size w w' ∧ w.heap.size ≤ g := by
  have hmk := make_zeros n hn
  have HF := Lib.hid hf
  have HV := Lib.hid hv
  clear hf hv
  go_enter Tryz.func59, Tryz.ntmps59
  go_wp2_with fail
  go_loopw [13] (fun i wr => ∃ k : Nat, k ≤ n ∧ i = .int .i64 k ∧ Blk wr w.heap.size 3 (ints (outs v n k)) ∧ Blk wr (w.heap.size + 1) 72 #[.slice (some ⟨w.heap.size, 0, none⟩) n n] ∧
      Blk wr (w.heap.size + 1 + 1) 3 #[.int .i64 (carr v k)] ∧ Below w.heap.size w wr) (fun i _ => n - (intOf i).toNat)
  case atStart =>
    refine ⟨0, Nat.zero_le _, rfl, ?_, ?_, ?_, ?_⟩
    · rw [outs_zero]; exact ((Blk.new w _ _).alloc _).alloc _
    · have h := (Blk.new (w.alloc (.cells (ints (zeros n)) 3)) 72 #[.slice (some ⟨w.heap.size, 0, none⟩) n n]).alloc (.cells #[.int .i64 0] 3)
      simpa using h
    · have h := Blk.new ((w.alloc (.cells (ints (zeros n)) 3)).alloc (.cells #[.slice (some ⟨w.heap.size, 0, none⟩) n n] 72)) 3 #[.int .i64 0]
      simpa [carr] using h
    · exact (((Below.refl _ _).alloc (Nat.le_refl _) _).alloc (by simp) _).alloc (by simp; omega) _
  case round =>
    obtain ⟨k, hk, rfl, b1, b2, b3, hb⟩ := hrel
    by_cases hlt : k < n
    · have hck := carr_bd v HV.out k
      have hvk := HV.out k
      have hcall := HF.out k wr hlt hb
      go_wp2_with fail
      refine hcall.mono ?_
      rintro e w' ⟨rfl, m, rfl⟩
      go_wp2_with fail
      refine (put_any _ (w.heap.size + 1 + 1) (w.heap.size + 1) w.heap.size k n (v k) (carr v k) (outs v n k) (b3.drewN m) (b2.drewN m) (b1.drewN m) (outs_length _ _ _) hlt hn (HV.out k).1 (by have := HV.out k; omega) (carr_bd v HV.out k).1 (by have := carr_bd v HV.out k; omega) (by omega) (by omega)).mono ?_
      rintro e w' ⟨rfl, rfl⟩
      go_wp2_with fail
      go_roundw
      case rel =>
        refine ⟨k + 1, by omega, by go_num, ?_, ?_, ?_, ?_⟩
        · rw [← outs_set, ← ints_set]; exact ((b1.drewN m).far (by omega) _).set k _
        · exact ((b2.drewN m).far (by omega) _).far (by omega) _
        · exact (((b3.drewN m).set 0 _)).far (by omega) _
        · exact ((below_drewN hb m).setCell (by simp; omega) _).setCell (by simp) _
      case measure => simp [intOf]; omega
    · obtain rfl : k = n := by omega
      have c2 := b2.one
      go_wp2_with fail
      refine (trimmed_any _ wr.heap.size _ k k (outs v k k) (by have := b1.rdI b1.lt; rwa [outs_length] at this) hn (Nat.le_refl _)).mono ?_
      rintro e w' ⟨rfl, rfl⟩
      go_wp2_with fail
      go_ret
      exact ⟨_, rfl, b1, hb, Nat.le_refl _⟩
end Go.Proofs.YtdapflgfocideaaGreatDoor
