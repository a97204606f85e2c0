/- Contract of observatoryref03.text. -/
import Derived.Test.YtdapflgfocideaaGreatDoorRefA
import Derived.Deep.OwnRows
namespace Go.Proofs.YtdapflgfocideaaGreatDoor
open Go Go.RowKit Go.Deep
open Go.Lib (decDigits)
attribute [local go_sem] guardO guardR

def u8v (d : Nat) : Value := .int .u8 d
/-- The digits as text lays them, i of them turned. -/
def outc (l : List Nat) (i : Nat) : List Nat := List.replicate (l.length - i) 0 ++ (l.take i).reverse.map (48 + ·)
theorem rep_set (k : Nat) (M : List Nat) (v : Nat) : (List.replicate (k + 1) 0 ++ M).set k v = List.replicate k 0 ++ v :: M := by
  induction k with
  | zero => rfl
  | succ k ih => rw [List.replicate_succ, List.cons_append, List.set_cons_succ, ih]; rfl
theorem outc_set (l : List Nat) (i : Nat) (h : i < l.length) (d : Nat) (hd : l.getD i 0 = d) : (outc l i).set (l.length - 1 - i) (48 + d) = outc l (i + 1) := by
  unfold outc
  rw [show l.length - i = (l.length - 1 - i) + 1 by omega, rep_set, show l.length - (i + 1) = l.length - 1 - i by omega]
  have e : l.take (i + 1) = l.take i ++ [d] := by
    rw [List.take_succ_eq_append_getElem h, ← hd, List.getD_eq_getElem?_getD, List.getElem?_eq_getElem h]; rfl
  rw [e]; simp
theorem outc_len (l : List Nat) (i : Nat) (h : i ≤ l.length) : (outc l i).length = l.length := by
  unfold outc; simp; omega
theorem outc_all (l : List Nat) : outc l l.length = l.reverse.map (48 + ·) := by
  unfold outc; simp
theorem outc_zero (l : List Nat) : outc l 0 = List.replicate l.length 0 := by
  unfold outc; simp

/-- .. as the bytes l. -/
def RdB (w : World) (B : Nat) (A : Option Addr) (n : Nat) (l : List Nat) : Prop := Rd w B A n (l.map u8v)
theorem RdB.at {w : World} {B n : Nat} {A : Option Addr} {l : List Nat} (h : RdB w B A n l) {k : Nat} (hk : k < n) :
    ∃ b off d, A = some ⟨b, off, none⟩ ∧ b < B ∧ w.cell? ⟨b, off + k, none⟩ = some (.int .u8 (d : Nat)) ∧ Hid (l.getD k 0 = d) := by
  obtain ⟨b, off, e, hb, hc⟩ := Rd.at h hk
  have hl : k < l.length := by have := h.len; simp at this; omega
  refine ⟨b, off, l.getD k 0, e, hb, ?_, Lib.hid rfl⟩
  rw [hc, List.getD_eq_getElem?_getD, List.getD_eq_getElem?_getD, List.getElem?_map, List.getElem?_eq_getElem hl]
  rfl
theorem RdB.length {w : World} {B n : Nat} {A : Option Addr} {l : List Nat} (h : RdB w B A n l) : l.length = n := by have := h.len; simpa using this
theorem RdB.below {w w' : World} {B n : Nat} {A : Option Addr} {l : List Nat} (h : RdB w B A n l) (hb : Below B w w') : RdB w' B A n l := Rd.below h hb
theorem dig_rev {l : List Nat} (h : Dig l) : Dig l.reverse := fun d hd => h d (by simpa using hd)
theorem blk_list {w : World} {g : Nat} {t : TypeId} {M : List Nat} (h : Blk w g t (M.map u8v).toArray) (i v : Nat) : Blk (w.setCell ⟨g, i, none⟩ (u8v v)) g t ((M.set i v).map u8v).toArray := by
  have := h.set i (u8v v)
  rw [List.map_set]
  simpa using this

set_option maxHeartbeats 1000000 in
set_option maxRecDepth 10000 in
theorem text_call (w : World) (B : Nat) (A : Option Addr) (n c : Nat) (l : List Nat) (h : RdB w B A n l) (hB : B ≤ w.heap.size) (hd : Dig l) (hn : 0 < n) (hn2 : n ≤ 1000) :
    Calls Tryz.prog 66 #[.slice A n c] w fun e w' => e = .returned (.string (ds (vb l.reverse))) ∧ Below w.heap.size w w' := by
  have HF := Lib.hid (And.intro h hd)
  have HL := Lib.hid h.length
  clear h hd
  have hmk : ∀ W : World, (Instr.makeSlice 94 (.int .i64 (n : Int)) (.int .i64 (n : Int))).run Tryz.prog W = .ok (.slice (some ⟨W.heap.size, 0, none⟩) n n) (W.alloc (.cells ((outc l 0).map u8v).toArray 5)) := fun W => by
    have e : madeCells #[.int .u8 0] n = ((outc l 0).map u8v).toArray := by
      rw [outc_zero, HL.out, ← Array.toList_inj, toList_madeCells_one]
      simp [u8v]
    rw [← e]
    exact run_make_row' 94 5 (.int .u8 0) 1 Tryz.underlying94 infoByte rfl .i64 .i64 n (by omega) (by omega) W
  go_enter Tryz.func66, Tryz.ntmps66
  go_wp2_with fail
  clear hmk
  go_loopg [4] n (fun gk s4 wr => ∃ i : Nat, s4 = .int .i64 i ∧ i ≤ n ∧ gk = n - i ∧ Hid (Blk wr w.heap.size 5 ((outc l i).map u8v).toArray ∧ Below w.heap.size w wr ∧ RdB wr B A n l))
  case atStart => exact ⟨0, rfl, Nat.zero_le _, rfl, Lib.hid ⟨Blk.new _ _ _, (Below.refl _ _).alloc (Nat.le_refl _) _, HF.out.1.below ((Below.refl _ _).alloc hB _)⟩⟩
  case round =>
    obtain ⟨i, rfl, hi, rfl, hst⟩ := hrel
    by_cases hin : i < n
    · obtain ⟨gA, oA, d, hA, hg, cx, hv⟩ := hst.out.2.2.at hin
      obtain ⟨j, hj⟩ : ∃ j, j = n - 1 - i := ⟨_, rfl⟩
      have hjz : (n : Int) - 1 - i = j := by omega
      have hjn : j < n := by omega
      have hjnz : (j : Int) < n := by omega
      have hinz : (i : Int) < n := by omega
      have hd10 : d < 10 := by
        rw [← hv.out]
        exact HF.out.2 _ (by rw [List.getD_eq_getElem?_getD, List.getElem?_eq_getElem (by have := HL.out; omega)]; exact List.getElem_mem _)
      have hw8 : IntKind.u8.wrap ((d : Int) + 48) = ((48 + d : Nat) : Int) := by rw [show (d : Int) + 48 = ((48 + d : Nat) : Int) by omega]; exact IntWalk.u8_in _ (by omega)
      have hw9 : IntKind.u8.wrap ((48 : Int) + d) = ((48 + d : Nat) : Int) := by rw [show (48 : Int) + d = ((48 + d : Nat) : Int) by omega]; exact IntWalk.u8_in _ (by omega)
      have cg : ∃ v, wr.cell? ⟨w.heap.size, j, none⟩ = some v := by
        rw [hst.out.1.cell]
        have : j < ((outc l i).map u8v).toArray.size := by simp [outc_len l i (by have := HL.out; omega), HL.out]; omega
        exact ⟨_, Array.getElem?_eq_getElem this⟩
      obtain ⟨v0, cg⟩ := cg
      have fg := hst.out.1.free j
      have hfin : Hid (Blk (wr.setCell ⟨w.heap.size, j, none⟩ (u8v (48 + d))) w.heap.size 5 ((outc l (i + 1)).map u8v).toArray ∧ Below w.heap.size w (wr.setCell ⟨w.heap.size, j, none⟩ (u8v (48 + d))) ∧ RdB (wr.setCell ⟨w.heap.size, j, none⟩ (u8v (48 + d))) B A n l) := Lib.hid (by
        refine ⟨?_, hst.out.2.1.setCell (p := ⟨w.heap.size, j, none⟩) (Nat.le_refl _) _, hst.out.2.2.below ((Below.refl B wr).setCell (p := ⟨w.heap.size, j, none⟩) hB _)⟩
        have h1 := blk_list hst.out.1 j (48 + d)
        rw [hj, ← HL.out, outc_set l i (by have := HL.out; omega) d hv.out] at h1
        rw [hj, ← HL.out]
        exact h1)
      unfold u8v at hfin
      subst hA
      clear hj
      go_wp2_with fail
      go_roundg (n - (i + 1))
      case measure => omega
      case rel => exact ⟨i + 1, by go_num, by omega, rfl, hfin⟩
    · obtain rfl : i = n := by omega
      have hcv : (convert 94 9 (.slice (some ⟨w.heap.size, 0, none⟩) i i)).run Tryz.prog wr = .ok (.string (bs l.reverse)) wr := by
        have hl1 : (l.reverse.map db).length = i := by simp [HL.out]
        have h := run_convert_bytes_back (P := Tryz.prog) wr 94 9 5 ⟨w.heap.size, 0, none⟩ i (l.reverse.map db) Tryz.underlying94 Tryz.underlying5 Tryz.underlying9 (fun j hj => by
          rw [Lib.add_plain, hst.out.1.cell, ← HL.out, outc_all, Nat.zero_add]
          have hj2 : j < l.reverse.length := by simpa using hj
          rw [List.getElem?_toArray, List.getElem?_map, List.getElem?_map, List.getElem?_eq_getElem hj2, List.getElem_map, db_nat (dig_rev HF.out.2 _ (List.getElem_mem _))]
          rfl)
        rw [hl1] at h
        exact h
      have htr := trimmed_call l.reverse (dig_rev HF.out.2) (by simp [HL.out]; omega) (by simp [HL.out]; omega) wr
      have HTR := Lib.hid htr
      clear htr
      go_wp2_with fail
      refine HTR.out.mono ?_
      rintro e w' ⟨rfl, rfl⟩
      go_wp2_with fail
      go_ret
      exact ⟨rfl, hst.out.2.1⟩
end Go.Proofs.YtdapflgfocideaaGreatDoor
