/- Contracts of natural.Valid, read, limbs.text at numerals. Conditions: the number is below 10^9; the table of the library lies as laid. -/
import Derived.Test.YtdapflgfocideaaGreatDoorComp
import Derived.Test.YtdapflgfocideaaGreatDoorBuild
import Derived.Test.YtdapflgfocideaaGreatDoorDec
namespace Go.Proofs.YtdapflgfocideaaGreatDoor
open Go Go.RowKit Go.Deep
open Go.Lib (decDigits)

/-- What every world of the call keeps below block B. -/
structure Env (B : Nat) (w : World) : Prop where
  tab : Lib.TabBelow Tryz.prog B w "internal/strconv.uint64pow10" .u64 Lib.pow10Tab
  le : B ≤ w.heap.size
theorem Env.on {B : Nat} {w w' : World} (h : Env B w) (hb : Below B w w') : Env B w' := ⟨h.tab.on hb, Nat.le_trans h.le hb.size⟩
theorem Env.up {B : Nat} {w w' : World} (h : Env B w) (hb : Below w.heap.size w w') : Env B w' := h.on (hb.mono h.le)

theorem info116 : (Tryz.prog.info? 100).map (fun i => (i.zero, i.size)) = some (some (.agg (Array.replicate 256 (.bool false))), 256) := by kernel_rfl
def tens : ByteArray := ⟨#[48, 49, 50, 51, 52, 53, 54, 55, 56, 57]⟩

theorem trim_call (m : Nat) (h : m < 1000000000000000000) (w : World) : Calls Tryz.prog 49 #[.string (ds m), .string ⟨#[48, 49, 50, 51, 52, 53, 54, 55, 56, 57]⟩] w fun e w' => e = .returned (.string ⟨#[]⟩) ∧ Below w.heap.size w w' := by
  have hl := dec_len18 m h
  refine (Any.strings_Trim_laid Tryz.lays160 info116 (ds m) tens w (by rw [ds_size]; omega) (by decide) (ascii_of_all (by decide))).mono fun e w' ⟨he, hw⟩ => ⟨?_, hw⟩
  rw [he, ds_list, trim_dec]
  intro b h1 h2
  have : b.toNat ∈ [48, 49, 50, 51, 52, 53, 54, 55, 56, 57] := by simp; omega
  obtain ⟨k, hk⟩ : ∃ k, b = k := ⟨_, rfl⟩
  have hb : b = UInt8.ofNat b.toNat := by simp
  rw [hb]
  generalize b.toNat = n at *
  simp only [List.mem_cons, List.not_mem_nil, or_false] at this
  rcases this with rfl | rfl | rfl | rfl | rfl | rfl | rfl | rfl | rfl | rfl <;> decide

set_option maxHeartbeats 400000 in
theorem valid_any (m : Nat) (hm : m < 1000000000000000000) (w : World) : Calls Tryz.prog 32 #[.string (ds m)] w fun e w' => e = .returned (.bool true) ∧ Below w.heap.size w w' := by
  have HT := Lib.hid (trim_call m hm)
  have hl := dec_len18 m hm
  have hp := dec_pos m
  rw [← ds_size] at hl hp
  have h0 : ∀ h : 0 < (ds m).size, ((ds m)[0]'h).toNat = 48 → (ds m).size = 1 := by
    intro h e
    by_cases hz : m = 0
    · subst hz; rw [ds_size, dec_unfold]; rfl
    · obtain ⟨b, r, hb, hne⟩ := dec_head m hz
      exfalso
      apply hne
      rw [← e]
      show b.toNat = ((decDigits m).toArray[0]'_).toNat
      simp [hb]
  have HC := Lib.hid h0
  clear h0
  obtain ⟨s, hs⟩ : ∃ s, s = ds m := ⟨_, rfl⟩
  rw [← hs] at HT hl hp HC ⊢
  clear hs
  go_enter Tryz.func32, Tryz.ntmps32
  go_wp2_with (go_at_call 49; refine (HT.out _).mono ?_; rintro e w' ⟨rfl, hb⟩)
  · have h1 : s.size = 1 := HC.out (by omega) (by have : ((s[0]'(by omega)).toNat : Int) = 48 := by assumption
                                                  omega)
    go_ret
    exact ⟨by simp [h1], hb⟩
  · go_ret
    exact ⟨rfl, hb⟩

theorem grown_of_below {a w : World} (h : Below a.heap.size a w) (row : Option Nat) : a.grownBy w row := ⟨h.os, h.tape, h.output, h.size, fun i hi _ => h.block i hi⟩
theorem isBuilder_below {T e : TypeId} {B b : Nat} {bs : List Value} {w w' : World} (h : Lib.IsBuilder T e B b bs w) (hb : Below w.heap.size w w') : Lib.IsBuilder T e B b bs w' := by
  have key : ∀ p, Lib.BuilderAt T e B b p bs w → Lib.BuilderAt T e B b p bs w' := by
    intro p hp
    have hlt := hp.lt
    obtain ⟨hB, v, hbk, hown, hne⟩ := hp
    exact ⟨hB, v, (hb.block b hlt).trans hbk, hown.kept (grown_of_below hb none) (Classical.em _), hne⟩
  rcases h with h | h
  · exact .inl (key _ h)
  · exact .inr (key _ h)
theorem strCells_ds (m : Nat) : Lib.strCells (ds m) = Lib.byteCells (decDigits m) := by
  simp [Lib.strCells, Lib.byteCells, ds_list]

set_option maxHeartbeats 400000 in
theorem text_any (B : Nat) (w : World) (A : Option Addr) (n c m : Nat) (h : RdI w w.heap.size A n (lm m)) (hm : m < 1000000000) (hE : Env B w) :
    Calls Tryz.prog 57 #[.slice A n c] w fun e w' => e = .returned (.tuple #[.string (ds m), .int .i64 0]) ∧ Below w.heap.size w w' := by
  have L := h.length
  by_cases hz : m = 0
  · subst hz
    obtain rfl : n = 0 := by rw [← L]; rfl
    clear h L hE
    rw [show ds 0 = ⟨#[48]⟩ by unfold ds; rw [dec_unfold]; rfl]
    go_enter Tryz.func57, Tryz.ntmps57
    go_wp2_with fail
    go_ret2
    exact ⟨rfl, Below.refl _ _⟩
  · have L2 := lm_len m
    rw [if_neg hz, if_pos hm, L] at L2
    subst L2
    obtain ⟨b, off, x, rfl, hbw, hc, hx⟩ := h.at (k := 0) (by omega)
    obtain rfl : x = m := by rw [← hx.out, lm_get0 m hm]
    have HE := Lib.hid hE
    have hl9 := dec_len9 m hm
    rw [← ds_size] at hl9
    clear h L hx hE
    go_enter Tryz.func57, Tryz.ntmps57
    go_wp2_with fail
    go_loopw [12] (fun i wr => ∃ k : Nat, k ≤ 1 ∧ i = .int .i64 k ∧ Below w.heap.size w wr ∧ Hid (Lib.IsBuilder 115 5 w.heap.size w.heap.size (if k = 0 then [] else Lib.strCells (ds m)) wr)) (fun i _ => (1 - intOf i).toNat)
    case atStart => exact ⟨0, by omega, rfl, (Below.refl _ _).alloc (Nat.le_refl _) _, Lib.hid (Lib.fresh_isBuilder 115 5 w)⟩
    case round =>
      obtain ⟨k, hk, rfl, hb, hB⟩ := hrel
      rcases k with _ | k
      · have hc' : wr.cell? ⟨b, off, none⟩ = some (.int .i64 m) := (hb.cell (p := ⟨b, off, none⟩) hbw).trans hc
        go_wp2_with fail
        refine (Tryz.strconv_Itoa m (by omega) (by omega) wr (HE.out.up hb).tab.here).mono ?_
        rintro e w1 ⟨rfl, q, os, hw1⟩
        have hb1 : Below wr.heap.size wr w1 := by rw [hw1]; exact Lib.below_grow _ _ (Nat.le_refl _) _ _
        clear hw1
        have hs : (⟨(Lib.itoa (m : Int)).toArray⟩ : ByteArray) = ds m := by rw [Lib.itoa_nonneg]; rfl
        rw [hs]
        clear hs
        go_wp2_with fail
        refine (writeString_any w.heap.size w.heap.size [] (ds m) w1 (isBuilder_below (by simpa using hB.out) hb1) (by simp; omega) (Nat.le_trans hb.size hb1.size)).mono ?_
        rintro e w2 ⟨rfl, hB2, hb2⟩
        go_wp2_with fail
        go_roundw
        case rel => exact ⟨1, by omega, rfl, (hb.trans (hb1.mono hb.size)).trans hb2, Lib.hid (.inr (by simpa using hB2))⟩
        case measure => simp [intOf]
      · obtain rfl : k = 0 := by omega
        have hB' : Lib.IsBuilder 115 5 w.heap.size w.heap.size (Lib.byteCells (decDigits m)) wr := by have := hB.out; rw [strCells_ds] at this; simpa using this
        have HB := Lib.hid hB'
        have hlen : (Lib.byteCells (decDigits m)).length ≤ 9 := by rw [Lib.byteCells_length]; exact dec_len9 m hm
        clear hB hB'
        go_wp2_with fail
        refine (Tryz.Builder_Len w.heap.size w.heap.size _ wr HB.out).mono ?_
        rintro e w1 ⟨rfl, rfl⟩
        go_wp2_with fail
        refine (Tryz.Builder_String w.heap.size w.heap.size _ w1 HB.out (dec_ne_nil m)).mono ?_
        rintro e w2 ⟨rfl, hb2⟩
        go_wp2_with fail
        go_ret2
        exact ⟨rfl, hb.trans hb2⟩
end Go.Proofs.YtdapflgfocideaaGreatDoor
