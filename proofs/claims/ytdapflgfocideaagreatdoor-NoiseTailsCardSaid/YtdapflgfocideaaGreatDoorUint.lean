/- The contracts of strconv.FormatUint at base 10 and of rational.Of and rational.abs. -/
import Derived.Test.YtdapflgfocideaaGreatDoorRows3
namespace Go.Proofs.YtdapflgfocideaaGreatDoor
open Go Go.RowKit Go.Deep Go.Sort
open Go.Lib (decDigits)

theorem small_call (i : Nat) (h : i < 100) (w : World) : Calls Tryz.prog 113 #[.int .i64 i] w fun e w' => e = .returned (.string ⟨(decDigits i).toArray⟩) ∧ w' = w :=
  Any.internal_strconv_small { Tryz.laysM171 with } i h w
theorem numDigits_call (u : Nat) (h1 : 1 ≤ u) (h2 : u < 18446744073709551616) (w : World) (htab : Lib.TabIs Tryz.prog w "internal/strconv.uint64pow10" .u64 Lib.pow10Tab) :
    Calls Tryz.prog 114 #[.int .u64 u] w fun e w' => e = .returned (.int .i64 (Lib.nDigits u)) ∧ w' = w :=
  Any.internal_strconv_numDigits { Tryz.laysM171 with } u h1 h2 w htab
theorem format_call (blk off cap : Nat) (u : Nat) (d : Array UInt8) (w : World) (hH : Holds (fun (b : UInt8) => Value.int .u8 (b.toNat : Int)) w blk off d) (hu : u < 10 ^ d.size) (hu64 : u < 18446744073709551616) (hsz : d.size < 4611686018427387904) :
    Calls Tryz.prog 115 #[.slice (some ⟨blk, off, none⟩) d.size cap, .int .u64 u] w fun e w' =>
      e = .returned (.tuple #[]) ∧ ∃ (n v' : Nat) (dk : Array UInt8), w' = (putRow (fun (b : UInt8) => Value.int .u8 (b.toNat : Int)) w blk off dk).drewN n ∧ Lib.FmtInv d.size u 0 v' dk :=
  Any.internal_strconv_formatBase10 { Tryz.laysM171 with } blk off cap u d w hH hu hu64 hsz
theorem holds_zero0 (w : World) (T : TypeId) (nd : Nat) (hs : nd ≤ 24) : Holds (fun (b : UInt8) => Value.int .u8 (b.toNat : Int)) (w.alloc (.cells Lib.zeros24 T)) w.heap.size 0 (Array.replicate nd (0 : UInt8)) := fun j hj => by
  have hj' : j < nd := by simpa using hj
  refine ⟨?_, World.frozen?_alloc_new _ _ _ _⟩
  rw [World.cell?_alloc_new, Lib.zeros24_at _ (by omega), getElem!_pos _ j hj]
  simp
theorem fin0 (w : World) (o : Obj) (dk : Array UInt8) (k : Nat) : Below w.heap.size w ((putRow (fun (b : UInt8) => Value.int .u8 (b.toNat : Int)) (w.alloc o) w.heap.size 0 dk).drewN k) := by
  rw [alloc_eq_grow]
  obtain ⟨os', _, e⟩ := putRow_grow_new (fun (b : UInt8) => Value.int .u8 (b.toNat : Int)) w #[o] w.heap.size 0 dk (Nat.le_refl _)
  rw [e]
  exact Lib.below_grow _ _ (Nat.le_refl _) 0 _ |> fun h => below_drewN h k

set_option maxHeartbeats 2000000 in
set_option maxRecDepth 100000 in
theorem fmt_call (u : Nat) (hu : u < 1000000000) (w : World) (htab : Lib.TabIs Tryz.prog w "internal/strconv.uint64pow10" .u64 Lib.pow10Tab) :
    Calls Tryz.prog 82 #[.int .u64 u, .int .i64 10] w fun e w' => e = .returned (.string (ds u)) ∧ Below w.heap.size w w' := by
  by_cases hs : u < 100
  · have hw : IntKind.i64.wrap (u : Int) = u := IntWalk.i64_in _ (by omega)
    have huz : (u : Int) < 100 := by omega
    go_enter Tryz.func82, Tryz.ntmps82
    go_wp2_with fail
    refine (small_call u hs w).mono ?_
    rintro e w' ⟨rfl, rfl⟩
    go_wp2_with fail
    go_ret
    exact ⟨rfl, Below.refl _ _⟩
  · have hu1 : 1 ≤ u := by omega
    have hu64 : u < 18446744073709551616 := by omega
    have hnd20 : Lib.nDigits u ≤ 20 := by have := Lib.numDigits_eq u hu1 hu64; split at this <;> omega
    have hb3 : Lib.nDigits u ≤ 24 := by omega
    have hal : Tryz.prog.arrayLen 144 = 24 := by kernel_rfl
    have hsl1 : ∀ W, (Instr.sliceAt 144 (.pointer (some ⟨w.heap.size, 0, none⟩)) none (some (.int .i64 (Lib.nDigits u : Int))) none).run Tryz.prog W = .ok (.slice (some ⟨w.heap.size, 0, none⟩) (Lib.nDigits u) 24) W := fun W => by
      rw [run_sliceAt_array_h W 144 ⟨w.heap.size, 0, none⟩ (by simp [Program.arrayLen, Program.elem, Tryz.underlying144]) .i64 (Lib.nDigits u : Int) (by omega) (by rw [hal]; omega)]
      go_simp
      try omega
    have hH0 := holds_zero0 w 144 (Lib.nDigits u) hb3
    have hfmt := format_call w.heap.size 0 24 u (Array.replicate (Lib.nDigits u) 0) (w.alloc (.cells Lib.zeros24 144)) hH0 (by rw [Array.size_replicate]; exact Lib.lt_pow_nDigits u) hu64 (by rw [Array.size_replicate]; omega)
    rw [Array.size_replicate] at hfmt
    have HFM := Lib.hid hfmt
    have HH0 := Lib.hid hH0
    have HTAB := Lib.hid htab
    clear hH0 hal hfmt htab
    have hn : ¬ (u : Int) < 100 := by omega
    go_enter Tryz.func82, Tryz.ntmps82
    go_wp2_with fail
    refine (numDigits_call u hu1 hu64 _ (Lib.tabIs_alloc HTAB.out _)).mono ?_
    rintro e w' ⟨rfl, rfl⟩
    go_wp2_with fail
    refine HFM.out.mono ?_
    rintro e w' ⟨rfl, k, v', dk, rfl, hF⟩
    have hcv : (convert 94 9 (.slice (some ⟨w.heap.size, 0, none⟩) (Lib.nDigits u) 24)).run Tryz.prog ((putRow (fun (b : UInt8) => Value.int .u8 (b.toNat : Int)) (w.alloc (.cells Lib.zeros24 144)) w.heap.size 0 dk).drewN k) = .ok (.string (ds u)) ((putRow (fun (b : UInt8) => Value.int .u8 (b.toNat : Int)) (w.alloc (.cells Lib.zeros24 144)) w.heap.size 0 dk).drewN k) := by
      have h := run_convert_bytes_back (P := Tryz.prog) ((putRow (fun (b : UInt8) => Value.int .u8 (b.toNat : Int)) (w.alloc (.cells Lib.zeros24 144)) w.heap.size 0 dk).drewN k) 94 9 5 ⟨w.heap.size, 0, none⟩ 24 (Lib.decDigits u) Tryz.underlying94 Tryz.underlying5 Tryz.underlying9 (fun j hj => by
        rw [Lib.row_is_numeral hF j hj, Lib.add_plain, World.cell?_drewN]
        exact cell?_putRow (fun (b : UInt8) => Value.int .u8 (b.toNat : Int)) _ w.heap.size 0 _ dk HH0.out (by rw [hF.size, Array.size_replicate]) j (by rw [hF.size]; rw [Lib.decDigits_length] at hj; exact hj))
      rw [Lib.decDigits_length] at h
      exact h
    have hbf := Lib.hid (fin0 w (.cells Lib.zeros24 144) dk k)
    obtain ⟨W, hW⟩ : ∃ W, W = (putRow (fun (b : UInt8) => Value.int .u8 (b.toNat : Int)) (w.alloc (.cells Lib.zeros24 144)) w.heap.size 0 dk).drewN k := ⟨_, rfl⟩
    rw [← hW] at hbf hcv ⊢
    clear hW hF HFM HH0
    go_wp2_with fail
    go_ret
    exact ⟨rfl, hbf.out⟩

theorem format_any (B : Nat) (u : Nat) (hu : u < 1000000000) (w : World) (hE : Env B w) :
    Calls Tryz.prog 53 #[.int .u64 u, .int .i64 10] w fun e w' => e = .returned (.string (ds u)) ∧ Below w.heap.size w w' := by
  have HF := Lib.hid (fmt_call u hu w hE.tab.here)
  clear hE
  go_enter Tryz.func53, Tryz.ntmps53
  go_wp2_with fail
  refine HF.out.mono ?_
  rintro e w' ⟨rfl, hb⟩
  go_wp2_with fail
  go_ret
  exact ⟨rfl, hb⟩
theorem abs_any (B : Nat) (u : Nat) (hu : u < 1000000000) (w : World) (hE : Env B w) :
    Calls Tryz.prog 34 #[.int .i64 u] w fun e w' => e = .returned (.string (ds u)) ∧ Below w.heap.size w w' := by
  have HF := Lib.hid (format_any B u hu w hE)
  have hw : IntKind.u64.wrap (u : Int) = u := IntWalk.u64_in _ (by omega)
  have hn : ¬ (u : Int) < 0 := by omega
  clear hE
  go_enter Tryz.func34, Tryz.ntmps34
  go_wp2_with fail
  refine HF.out.mono ?_
  rintro e w' ⟨rfl, hb⟩
  go_wp2_with fail
  go_ret
  exact ⟨rfl, hb⟩
theorem of_any (B : Nat) (a b : Nat) (ha : a < 1000000000) (hb0 : 0 < b) (hb : b < 1000000000) (w : World) (hE : Env B w) :
    Calls Tryz.prog 20 #[.int .i64 a, .int .i64 b] w fun e w' => e = .returned (.tuple #[.agg #[.bool (lowS false a), .string (ds (lowN a b)), .string (ds (lowD a b))], .int .i64 0]) ∧ Below w.heap.size w w' := by
  have HE := Lib.hid hE
  obtain ⟨sx, hsx⟩ : ∃ x, x = lowS false a := ⟨_, rfl⟩
  obtain ⟨nx, hnx⟩ : ∃ x, x = ds (lowN a b) := ⟨_, rfl⟩
  obtain ⟨dx, hdx⟩ : ∃ x, x = ds (lowD a b) := ⟨_, rfl⟩
  rw [← hsx, ← hnx, ← hdx]
  have HM : Hid (∀ W, Env B W → Calls Tryz.prog 27 #[.bool false, .string (ds a), .string (ds b)] W fun e w' => e = .returned (.tuple #[.agg #[.bool sx, .string nx, .string dx], .int .i64 0]) ∧ Below W.heap.size W w') :=
    Lib.hid fun W hW => by rw [hsx, hnx, hdx]; exact make_call B W false a b ha hb0 hb hW
  have h1 : ¬ (a : Int) < 0 := by omega
  have h2 : ¬ (b : Int) < 0 := by omega
  have d1 : decide ((a : Int) < 0) = false := decide_eq_false h1
  have d2 : decide ((b : Int) < 0) = false := decide_eq_false h2
  clear hE hsx hnx hdx
  have k0 : Blk (w.alloc (.cells #[.bool false, .string ⟨#[]⟩, .string ⟨#[]⟩] 31)) w.heap.size 31 #[.bool false, .string ⟨#[]⟩, .string ⟨#[]⟩] := Blk.new _ _ _
  have b0 : Below w.heap.size w (w.alloc (.cells #[.bool false, .string ⟨#[]⟩, .string ⟨#[]⟩] 31)) := (Below.refl _ _).alloc (Nat.le_refl _) _
  obtain ⟨W0, hW0⟩ : ∃ W, W = w.alloc (.cells #[.bool false, .string ⟨#[]⟩, .string ⟨#[]⟩] 31) := ⟨_, rfl⟩
  have E0 := HE.out.up b0
  have B0 := Lib.hid b0
  have HK0 := Lib.hid k0
  have HE0 := Lib.hid E0
  clear k0 b0 E0
  rw [← hW0] at B0 HK0 HE0
  go_enter Tryz.func20, Tryz.ntmps20
  go_wp2_with fail
  rw [← hW0]
  clear hW0
  refine (abs_any B a ha W0 HE0.out).mono ?_
  rintro e w1 ⟨rfl, b1⟩
  have B1 := Lib.hid b1
  clear b1
  go_wp2_with fail
  refine (abs_any B b hb w1 (HE0.out.up B1.out)).mono ?_
  rintro e w2 ⟨rfl, b2⟩
  have B2 := Lib.hid (B1.out.trans (b2.mono B1.out.size))
  clear b2
  go_wp2_with fail
  refine (HM.out w2 (HE0.out.up B2.out)).mono ?_
  rintro e w3 ⟨rfl, b3⟩
  have b03 := B2.out.trans (b3.mono B2.out.size)
  have k3 := HK0.out.below b03 HK0.out.lt
  have c0 : w3.cell? ⟨w.heap.size, 0, none⟩ = some (.bool false) := by rw [k3.cell]; rfl
  have c1 : w3.cell? ⟨w.heap.size, 1, none⟩ = some (.string ⟨#[]⟩) := by rw [k3.cell]; rfl
  have c2 : w3.cell? ⟨w.heap.size, 2, none⟩ = some (.string ⟨#[]⟩) := by rw [k3.cell]; rfl
  have f0 := k3.free 0
  have f1 := k3.free 1
  have f2 := k3.free 2
  have BB := Lib.hid (B0.out.trans (b03.mono B0.out.size))
  have HK := Lib.hid k3
  clear k3 b03 b3
  go_wp2_with fail
  have hlt := HK.out.lt
  refine bodyPost_ret (v := .tuple #[.agg #[.bool sx, .string nx, .string dx], .int .i64 0]) (by simp [results, Tryz.results20, go_sem, hlt, c0, c1, c2]) rfl ⟨rfl, ?_⟩
  exact ((BB.out.setCell (p := ⟨w.heap.size, 0, none⟩) (Nat.le_refl _) _).setCell (p := ⟨w.heap.size, 1, none⟩) (Nat.le_refl _) _).setCell (p := ⟨w.heap.size, 2, none⟩) (Nat.le_refl _) _
end Go.Proofs.YtdapflgfocideaaGreatDoor
