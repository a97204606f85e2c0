/- Contract of observatoryref17.put at nil, and as a whole. -/
import Derived.Test.YtdapflgfocideaaGreatDoorRefQ
namespace Go.Proofs.YtdapflgfocideaaGreatDoor
open Go Go.RowKit Go.Deep
open Go.Lib (decDigits)
attribute [local go_sem] guardO guardR

theorem own_form1 {w : World} {B : Nat} {v : Value} {xs : List Value} (h : w.ownsRow B 38 2 v (0 + 1) xs) : ∃ g cap, v = .slice (some ⟨g, 0, none⟩) (0 + 1) cap ∧ 1 ≤ cap := by
  obtain ⟨_, h⟩ := h
  rcases h with ⟨_, e⟩ | ⟨g, cap, _, e, _, _, hc, _⟩
  · omega
  · exact ⟨g, cap, e, hc⟩

set_option maxHeartbeats 2000000 in
set_option maxRecDepth 10000 in
theorem put_nil (w : World) (base : Nat) (f : Int → Nat) (v : Int) (c : Nat) (hT : IsTbl [] f) (hc : c ≠ 0) (hb : base ≤ w.heap.size) :
    Calls Tryz.prog 26 #[.slice none 0 0, .int .i64 v, .string (ds c)] w fun e w' => ∃ V' L', e = .returned V' ∧ IsTbl L' (upd f v c) ∧ w'.ownsRow base 38 2 V' L'.length (ocells L') ∧ Below base w w' := by
  obtain ⟨i0, hi, hz0, hz1, hz2⟩ := info_parts info38
  have HT := Lib.hid (And.intro hT hc)
  clear hT hc
  go_enter Tryz.func26, Tryz.ntmps26
  go_wp2_with fail
  go_loopg [7] 1 (fun gk s7 wr => s7 = .int .i64 0 ∧ w = wr)
  case atStart => exact ⟨rfl, rfl⟩
  case round =>
    obtain ⟨rfl, rfl⟩ := hrel
    go_wp2_with fail
    have BB : Hid (Below w.heap.size w ((w.alloc (.cells #[] 38)).alloc (.cells #[.int .i64 v, .string (ds c)] 38)).drew) := Lib.hid (((Below.refl _ _).alloc (Nat.le_refl _) _).alloc (by simp) _).drew
    have BC : Hid (Below w.heap.size w ((w.alloc (.cells #[.int .i64 v, .string (ds c)] 38)).alloc (.cells #[] 38)).drew) := Lib.hid (((Below.refl _ _).alloc (Nat.le_refl _) _).alloc (by simp) _).drew
    have HB : Hid (((w.alloc (.cells #[] 38)).alloc (.cells #[.int .i64 v, .string (ds c)] 38)).drew.ownsRow w.heap.size 38 2 (.slice (some ⟨w.heap.size, 0, none⟩) 0 0) 0 []) := Lib.hid (own_empty ((Blk.new w 38 #[]).alloc _).drew (Nat.le_refl _))
    have HC : Hid (((w.alloc (.cells #[.int .i64 v, .string (ds c)] 38)).alloc (.cells #[] 38)).drew.ownsRow w.heap.size 38 2 (.slice (some ⟨w.heap.size + 1, 0, none⟩) 0 0) 0 []) := Lib.hid (own_empty (by have := Blk.new (w.alloc (.cells #[.int .i64 v, .string (ds c)] 38)) 38 #[]; simp at this; exact this.drew) (by omega))
    have KB : Hid (Blk ((w.alloc (.cells #[] 38)).alloc (.cells #[.int .i64 v, .string (ds c)] 38)).drew (w.heap.size + 1) 38 #[.int .i64 v, .string (ds c)]) := Lib.hid (by have := Blk.new (w.alloc (.cells #[] 38)) 38 #[.int .i64 v, .string (ds c)]; simp at this; exact this.drew)
    have KC : Hid (Blk ((w.alloc (.cells #[.int .i64 v, .string (ds c)] 38)).alloc (.cells #[] 38)).drew w.heap.size 38 #[.int .i64 v, .string (ds c)]) := Lib.hid (((Blk.new w 38 #[.int .i64 v, .string (ds c)]).alloc _).drew)
    go_region_law (first
      | (refine step_append_own rfl (.tmp 58) (.tmp 62) 25 rfl w.heap.size 38 i0 (.agg #[.int .i64 0, .string ⟨#[]⟩]) 2 24 Tryz.underlying25 hi hz0 hz1 hz2 rfl (by decide) (.slice (some ⟨w.heap.size, 0, none⟩) 0 0) 0 [] rfl HB.out ⟨w.heap.size + 1, 0, none⟩ 1 1 [.int .i64 v, .string (ds c)] rfl rfl (two_of KB.out) (by simp [Value.oneCell']) (by unfold maxLen; omega) (by omega) BB.out.size ?_
         intro v2 w2 ho2 hg2 hd2
         have B2 := Lib.hid (BB.out.grown hg2 BB.out.size (fun q e => (HB.out.lt q e).1))
         obtain ⟨g2, cap2, rfl, hcap2⟩ := own_form1 ho2
         have HO2 := Lib.hid ho2
         clear ho2 hg2 hd2)
      | (refine step_append_own rfl (.tmp 58) (.tmp 62) 25 rfl w.heap.size 38 i0 (.agg #[.int .i64 0, .string ⟨#[]⟩]) 2 24 Tryz.underlying25 hi hz0 hz1 hz2 rfl (by decide) (.slice (some ⟨w.heap.size + 1, 0, none⟩) 0 0) 0 [] rfl HC.out ⟨w.heap.size, 0, none⟩ 1 1 [.int .i64 v, .string (ds c)] rfl rfl (two_of KC.out) (by simp [Value.oneCell']) (by unfold maxLen; omega) (by omega) BC.out.size ?_
         intro v2 w2 ho2 hg2 hd2
         have B2 := Lib.hid (BC.out.grown hg2 BC.out.size (fun q e => (HC.out.lt q e).1))
         obtain ⟨g2, cap2, rfl, hcap2⟩ := own_form1 ho2
         have HO2 := Lib.hid ho2
         clear ho2 hg2 hd2))
    all_goals
      clear BB BC HB HC KB KC
      go_wp2_with fail
      go_ret
      refine ⟨_, [(v, c)], rfl, tbl_put_miss (A := []) (B := []) HT.out.1 (by simp) (by simp) HT.out.2, ?_, B2.out.mono hb⟩
      exact Go.Joins.ownsRow_le HO2.out hb

theorem put_call (w : World) (base n : Nat) (V : Value) (L : List (Int × Nat)) (f : Int → Nat) (v : Int) (c : Nat) (hown : w.ownsRow base 38 2 V n (ocells L)) (hL : L.length = n) (hT : IsTbl L f) (hc : c ≠ 0) (hc9 : c < 1000000000) (hsm : ∀ j, j < n → (L.getD j (0, 0)).2 < 1000000000) (hb : base ≤ w.heap.size) (hn : n ≤ 1000000) (hV : n = 0 → V = .slice none 0 0) :
    Calls Tryz.prog 26 #[V, .int .i64 v, .string (ds c)] w fun e w' => ∃ V' L', e = .returned V' ∧ IsTbl L' (upd f v c) ∧ w'.ownsRow base 38 2 V' L'.length (ocells L') ∧ Below base w w' := by
  rcases Nat.eq_zero_or_pos n with h0 | h0
  · obtain rfl : L = [] := List.eq_nil_of_length_eq_zero (by omega)
    rw [hV h0]
    exact put_nil w base f v c hT hc hb
  · rcases Go.Joins.ownsRow_forms hown with ⟨_, h1⟩ | ⟨g, cap, rfl⟩
    · omega
    · exact put_row w base g cap n L f v c hown hL hT hc hc9 hsm hb h0 hn
end Go.Proofs.YtdapflgfocideaaGreatDoor
