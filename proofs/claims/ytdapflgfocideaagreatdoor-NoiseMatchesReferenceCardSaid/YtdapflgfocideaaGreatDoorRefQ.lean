/- Contract of observatoryref17.put. -/
import Derived.Test.YtdapflgfocideaaGreatDoorRefP
import Derived.Deep.RegionLaw
import Derived.Lib.SmallJoins
namespace Go.Proofs.YtdapflgfocideaaGreatDoor
open Go Go.RowKit Go.Deep
open Go.Lib (decDigits)
attribute [local go_sem] guardO guardR

/-- append onto a row of the call's own, as one step of a region that draws. -/
theorem step_append_own {P : Program} {ops : Array Oper} {o : Oper} {a : Act} {w : World} {K : Act → World → Prop} {Q : Exit → Act → World → Prop} {E : Prop}
    (hg : o.guard = none) (s x : Operand) (t : TypeId) (hop : o.op = Op.call { callee := Callee.builtin Builtin.append, args := #[s, x], argTypes := #[t, t] })
    (base : Nat) (e : TypeId) (i : TypeInfo) (z : Value) (size bytes : Nat) (h1 : P.underlying t = some (.slice e)) (h2 : P.info? e = some i) (h3 : i.zero = some z) (h4 : i.size = size) (h5 : i.bytes = bytes) (h6 : z.cells.size = size) (h7 : 0 < size)
    (v : Value) (n : Nat) (xs : List Value) (hs : a.eval s = v) (hown : w.ownsRow base e size v n xs)
    (ad : Addr) (m c : Nat) (news : List Value) (hx : a.eval x = .slice (some ad) m c) (hn : news.length = m * size) (hc : ∀ j u, news[j]? = some u → w.cell? (ad.add j) = some u) (h1c : ∀ u ∈ news, u.oneCell' = true)
    (b1 : n + m ≤ maxLen) (b2 : (n + m) * bytes ≤ 140737488355328) (hb : base ≤ w.heap.size)
    (hK : ∀ v' w', w'.ownsRow base e size v' (n + m) (xs ++ news) → w.grownBy w' v.ownBlock → (v'.ownBlock = v.ownBlock ∨ v'.ownBlock = some w.heap.size) → K (a.put o.dst v') w') :
    if Region.wanted o (yielded ops a.tmps) = true then Oper.wp P o a w K Q else E := by
  have hw : Region.wanted o (yielded ops a.tmps) = true := by simp [Region.wanted, hg]
  rw [if_pos hw]
  obtain ⟨v', w', hrun, r1, r2, _, r4⟩ := run_append_own_at (P := P) w base t o.type e i z size bytes h1 h2 h3 h4 h5 h6 h7 v n xs hown ad m c news hn hc h1c b1 b2 hb
  unfold Oper.wp
  simp [execOp, hop, resolve, invoke, builtin, hs, hx, hrun, Result.andThen]
  exact hK v' w' r1 r2 r4

theorem own_empty {w : World} {g base : Nat} (h : Blk w g 38 #[]) (hb : base ≤ g) : w.ownsRow base 38 2 (.slice (some ⟨g, 0, none⟩) 0 0) 0 [] :=
  ⟨rfl, .inr ⟨g, 0, #[], rfl, hb, h, Nat.le_refl _, by decide, rfl, rfl⟩⟩
theorem ocells_one (L : List (Int × Nat)) : ∀ u ∈ ocells L, u.oneCell' = true := by
  induction L with
  | nil => intro u hu; simp [ocells] at hu
  | cons p L ih =>
    intro u hu
    simp only [ocells, List.mem_cons] at hu
    rcases hu with rfl | rfl | h
    · rfl
    · rfl
    · exact ih u h
theorem cells_of_rd {w : World} {B n g : Nat} {L : List (Int × Nat)} (h : RdO w B (some ⟨g, 0, none⟩) n L) (hn : 0 < n) (W : World) (hb : Below B w W) : ∀ j u, (ocells L)[j]? = some u → W.cell? ⟨g, j, none⟩ = some u := by
  intro j u hu
  have hj : j < (ocells L).length := (List.getElem?_eq_some_iff.1 hu).1
  rw [ocells_length] at hj
  obtain ⟨b, off, e, _, hc⟩ := (h.below hb).cells 0 hn
  cases e
  have h1 := hc (j / 2) (by omega)
  have h2 := ocells_at L (j / 2) (by omega)
  rcases (show j = j / 2 * 2 ∨ j = j / 2 * 2 + 1 by omega) with e | e
  · rw [e] at hu ⊢
    rw [h2.1] at hu
    rw [← hu]
    simpa using h1.1
  · rw [e] at hu ⊢
    rw [h2.2] at hu
    rw [← hu]
    simpa using h1.2
theorem ocells_take (L : List (Int × Nat)) : ∀ k, ocells (L.take k) = (ocells L).take (k * 2) := by
  induction L with
  | nil => intro k; simp [ocells]
  | cons p L ih =>
    intro k
    cases k with
    | zero => simp [ocells]
    | succ k => rw [List.take_succ_cons, ocells, ocells, ih k, show (k + 1) * 2 = k * 2 + 1 + 1 by omega, List.take_succ_cons, List.take_succ_cons]
theorem ocells_drop (L : List (Int × Nat)) : ∀ k, ocells (L.drop k) = (ocells L).drop (k * 2) := by
  induction L with
  | nil => intro k; simp [ocells]
  | cons p L ih =>
    intro k
    cases k with
    | zero => simp [ocells]
    | succ k => rw [List.drop_succ_cons, ocells, ih k, show (k + 1) * 2 = k * 2 + 1 + 1 by omega, List.drop_succ_cons, List.drop_succ_cons]
theorem Below.drew {B : Nat} {a w : World} (h : Below B a w) : Below B a w.drew := ⟨h.os, h.tape, h.output, h.size, h.block⟩

theorem own_fin {w : World} {B base n k : Nat} {V : Value} {L : List (Int × Nat)} {v : Int} {c : Nat} (h : w.ownsRow B 38 2 V (0 + k + 1 + (n - k)) ([] ++ ocells (L.take k) ++ [.int .i64 v, .string (ds c)] ++ ocells (L.drop k))) (hb : base ≤ B) (hn : 0 + k + 1 + (n - k) = (L.take k ++ (v, c) :: L.drop k).length) : w.ownsRow base 38 2 V (L.take k ++ (v, c) :: L.drop k).length (ocells (L.take k ++ (v, c) :: L.drop k)) := by
  rw [hn] at h
  have e : ocells (L.take k ++ (v, c) :: L.drop k) = [] ++ ocells (L.take k) ++ [.int .i64 v, .string (ds c)] ++ ocells (L.drop k) := by
    rw [ocells_append]; simp [ocells]
  rw [e]
  exact Go.Joins.ownsRow_le h hb
theorem own_fin0 {w : World} {B base k : Nat} {V : Value} {L : List (Int × Nat)} {v : Int} {c : Nat} (h : w.ownsRow B 38 2 V (0 + k + 1 + 0) ([] ++ ocells (L.take k) ++ [.int .i64 v, .string (ds c)] ++ [])) (hb : base ≤ B) (hL : L.length = k) : w.ownsRow base 38 2 V (L.take k ++ (v, c) :: L.drop k).length (ocells (L.take k ++ (v, c) :: L.drop k)) := by
  have hd : L.drop k = [] := List.drop_eq_nil_of_le (by omega)
  have e : ocells (L.take k ++ (v, c) :: L.drop k) = [] ++ ocells (L.take k) ++ [.int .i64 v, .string (ds c)] ++ [] := by
    rw [hd, ocells_append]; simp [ocells]
  rw [e]
  have hn : (L.take k ++ (v, c) :: L.drop k).length = 0 + k + 1 + 0 := by rw [hd]; simp; omega
  rw [hn]
  exact Go.Joins.ownsRow_le h hb
theorem own_free {w : World} {base g cap n : Nat} {L : List Value} {e : TypeId} {size : Nat} (h : w.ownsRow base e size (.slice (some ⟨g, 0, none⟩) n cap) n L) (i : Nat) : w.frozen? ⟨g, i, none⟩ = false := by
  obtain ⟨_, h⟩ := h
  rcases h with ⟨e1, _⟩ | ⟨g', cap', cur, e1, _, h2, _⟩
  · cases e1
  · cases e1
    have hb : Blk w g e cur := h2
    exact hb.free i
theorem two_of {w : World} {g : Nat} {t : TypeId} {a b : Value} (h : Blk w g t #[a, b]) : ∀ j u, [a, b][j]? = some u → w.cell? ((⟨g, 0, none⟩ : Addr).add j) = some u := by
  intro j u hu
  rw [Lib.add_plain, Nat.zero_add, h.cell]
  simpa using hu

set_option maxHeartbeats 2000000 in
set_option maxRecDepth 10000 in
theorem put_row (w : World) (base g cap n : Nat) (L : List (Int × Nat)) (f : Int → Nat) (v : Int) (c : Nat) (hown : w.ownsRow base 38 2 (.slice (some ⟨g, 0, none⟩) n cap) n (ocells L)) (hL : L.length = n) (hT : IsTbl L f) (hc : c ≠ 0) (hc9 : c < 1000000000) (hsm : ∀ j, j < n → (L.getD j (0, 0)).2 < 1000000000) (hb : base ≤ w.heap.size) (hn0 : 0 < n) (hn : n ≤ 1000000) :
    Calls Tryz.prog 26 #[.slice (some ⟨g, 0, none⟩) n cap, .int .i64 v, .string (ds c)] w fun e w' => ∃ V' L', e = .returned V' ∧ IsTbl L' (upd f v c) ∧ w'.ownsRow base 38 2 V' L'.length (ocells L') ∧ Below base w w' := by
  have HO := Lib.hid hown
  have HT := Lib.hid (And.intro hL (And.intro hT (And.intro hc hsm)))
  obtain ⟨A, cap', hV, hcap, hrd, hbl⟩ := own_rdO (hL.symm ▸ hown : w.ownsRow base 38 2 (.slice (some ⟨g, 0, none⟩) n cap) L.length (ocells L))
  obtain ⟨rfl, rfl⟩ : A = some ⟨g, 0, none⟩ ∧ cap' = cap := by injection hV with h1 h2 h3; exact ⟨h1.symm, h3.symm⟩
  clear hV
  rw [hL] at hrd hcap
  have HR := Lib.hid (And.intro hrd hbl)
  have hgb := hown.lt g rfl
  obtain ⟨i0, hi, hz0, hz1, hz2⟩ := info_parts info38
  have hcapz : (n : Int) ≤ cap' := by omega
  have CT : Hid (∀ k W, Below w.heap.size w W → ∀ j u, (ocells (L.take k))[j]? = some u → W.cell? ((⟨g, 0, none⟩ : Addr).add j) = some u) := Lib.hid (fun k W hb j u hu => by
    rw [Lib.add_plain, Nat.zero_add]
    rw [ocells_take, List.getElem?_take] at hu
    split at hu
    · exact cells_of_rd hrd hn0 W hb j u hu
    · cases hu)
  have CD : Hid (∀ k W, Below w.heap.size w W → ∀ j u, (ocells (L.drop k))[j]? = some u → W.cell? ((⟨g, k * 2, none⟩ : Addr).add j) = some u) := Lib.hid (fun k W hb j u hu => by
    rw [Lib.add_plain]
    rw [ocells_drop, List.getElem?_drop] at hu
    exact cells_of_rd hrd hn0 W hb _ u hu)
  clear hown hL hT hc hsm hrd hbl hcap
  go_enter Tryz.func26, Tryz.ntmps26
  go_wp2_with fail
  go_loopg [7] n (fun gk s7 wr => ∃ k : Nat, s7 = .int .i64 k ∧ k ≤ n ∧ gk = n - k ∧ Hid (∀ j, j < k → (L.getD j (0, 0)).1 < v) ∧ w = wr)
  case atStart => exact ⟨0, rfl, Nat.zero_le _, rfl, Lib.hid (fun j hj => absurd hj (by omega)), rfl⟩
  case round =>
    obtain ⟨k, rfl, hk, rfl, hlt, rfl⟩ := hrel
    have hkz : (k : Int) ≤ n := by omega
    have hkc : (k : Int) ≤ cap' := by omega
    have hkcN : k ≤ cap' := by omega
    have hkN : k ≤ n := by omega
    have hnc : n ≤ cap' := by omega
    have CT := Lib.hid (CT.out k)
    have CD := Lib.hid (CD.out k)
    by_cases hkn : k < n
    · obtain ⟨g', o, x, d, hA, _, cx, cd, hx⟩ := HR.out.1.at hkn
      cases hA
      rw [Nat.zero_add] at cx cd
      have hknz : (k : Int) < n := by omega
      by_cases hxv : x < v
      · have hnew : Hid (∀ j, j < k + 1 → (L.getD j (0, 0)).1 < v) := Lib.hid fun j hj => by
          by_cases e : j = k
          · subst e; rw [hx.out]; exact hxv
          · exact hlt.out j (by omega)
        go_wp2_with fail
        go_roundg (n - (k + 1))
        case measure => omega
        case rel => exact ⟨k + 1, by go_num, by omega, rfl, hnew, rfl⟩
      · by_cases hxe : x = v
        · rw [hxe] at cx
          have HX : Hid (L.getD k (0, 0) = (v, d)) := Lib.hid (by rw [hx.out, hxe])
          have hd9 : d < 1000000000 := by have := HT.out.2.2.2 k hkn; rw [hx.out] at this; exact this
          clear hx hxe hxv
          go_wp2_with fail
          refine (rAdd_call w d c hd9 hc9).mono ?_
          rintro e w1 ⟨rfl, b1⟩
          have o1 := HO.out.kept (grown_of_below b1 none) (Classical.em _)
          obtain ⟨g', o, x', d', hA, _, cy, cz, hx'⟩ := (HR.out.1.below b1).at hkn
          cases hA
          rw [Nat.zero_add] at cz
          have fz := own_free o1 (k * 2 + 1)
          have HO1 := Lib.hid o1
          have HB1 := Lib.hid b1
          clear o1 b1 cy hx' cx
          go_wp2_with fail
          go_ret
          have hkl : k < L.length := by rw [HT.out.1]; exact hkn
          have hsp := split_at hkl HX.out
          have htl : (L.take k).length = k := by rw [List.length_take]; omega
          refine ⟨_, L.take k ++ (v, d + c) :: L.drop (k + 1), rfl, ?_, ?_, ?_⟩
          · have hT := HT.out.2.1
            rw [hsp] at hT
            have := tbl_put_hit hT HT.out.2.2.1
            exact this
          · have hlen : (L.take k ++ (v, d + c) :: L.drop (k + 1)).length = n := by
              rw [← HT.out.1]; conv => rhs; rw [hsp]
              simp
            rw [hlen]
            refine own_set HO1.out ?_ (by rw [ocells_length]; omega)
            conv => rhs; rw [hsp]
            have := @ocells_set (L.take k) (L.drop (k + 1)) v d (d + c)
            rw [htl] at this
            exact this.symm
          · exact (HB1.out.mono hb).setCell (p := ⟨g, k * 2 + 1, none⟩) hgb.1 _
        · have hne : ¬ x = v := hxe
          have hkne : ¬ cap' = k := by omega
          have hkne2 : ¬ k = cap' := by omega
          go_wp2_with fail
          have BA : Below w.heap.size w (w.alloc (.cells #[] 38)).drew := ((Below.refl _ _).alloc (Nat.le_refl _) _).drew
          have BB : Below w.heap.size w ((w.alloc (.cells #[] 38)).alloc (.cells #[.int .i64 v, .string (ds c)] 38)).drew := (((Below.refl _ _).alloc (Nat.le_refl _) _).alloc (by simp) _).drew
          have BC : Below w.heap.size w ((w.alloc (.cells #[.int .i64 v, .string (ds c)] 38)).alloc (.cells #[] 38)).drew := (((Below.refl _ _).alloc (Nat.le_refl _) _).alloc (by simp) _).drew
          have HA : Hid ((w.alloc (.cells #[] 38)).drew.ownsRow w.heap.size 38 2 (.slice (some ⟨w.heap.size, 0, none⟩) 0 0) 0 []) := Lib.hid (own_empty (Blk.new w 38 #[]).drew (Nat.le_refl _))
          have HB : Hid (((w.alloc (.cells #[] 38)).alloc (.cells #[.int .i64 v, .string (ds c)] 38)).drew.ownsRow w.heap.size 38 2 (.slice (some ⟨w.heap.size, 0, none⟩) 0 0) 0 []) := Lib.hid (own_empty ((Blk.new w 38 #[]).alloc _).drew (Nat.le_refl _))
          have HC : Hid (((w.alloc (.cells #[.int .i64 v, .string (ds c)] 38)).alloc (.cells #[] 38)).drew.ownsRow w.heap.size 38 2 (.slice (some ⟨w.heap.size + 1, 0, none⟩) 0 0) 0 []) := Lib.hid (own_empty (by have := Blk.new (w.alloc (.cells #[.int .i64 v, .string (ds c)] 38)) 38 #[]; simp at this; exact this.drew) (by omega))
          have KB : Hid (Blk ((w.alloc (.cells #[] 38)).alloc (.cells #[.int .i64 v, .string (ds c)] 38)).drew (w.heap.size + 1) 38 #[.int .i64 v, .string (ds c)]) := Lib.hid (by have := Blk.new (w.alloc (.cells #[] 38)) 38 #[.int .i64 v, .string (ds c)]; simp at this; exact this.drew)
          have KC : Hid (Blk ((w.alloc (.cells #[.int .i64 v, .string (ds c)] 38)).alloc (.cells #[] 38)).drew w.heap.size 38 #[.int .i64 v, .string (ds c)]) := Lib.hid (((Blk.new w 38 #[.int .i64 v, .string (ds c)]).alloc _).drew)
          have BA := Lib.hid BA
          have BB := Lib.hid BB
          have BC := Lib.hid BC
          go_region_law (first
            | (refine step_append_own rfl (.tmp 54) (.tmp 57) 25 rfl w.heap.size 38 i0 (.agg #[.int .i64 0, .string ⟨#[]⟩]) 2 24 Tryz.underlying25 hi hz0 hz1 hz2 rfl (by decide) (.slice (some ⟨w.heap.size, 0, none⟩) 0 0) 0 [] rfl HA.out ⟨g, 0, none⟩ k cap' (ocells (L.take k)) rfl (by rw [ocells_length, List.length_take]; have := HT.out.1; omega) (CT.out _ BA.out) (ocells_one _) (by unfold maxLen; omega) (by omega) BA.out.size ?_
               intro v1 w1 ho1 hg1 hd1
               have B1 := Lib.hid (BA.out.grown hg1 BA.out.size (fun q e => (HA.out.lt q e).1))
               have HO1 := Lib.hid ho1
               clear ho1 hg1 hd1)
            | (refine step_append_own rfl (.tmp 54) (.tmp 57) 25 rfl w.heap.size 38 i0 (.agg #[.int .i64 0, .string ⟨#[]⟩]) 2 24 Tryz.underlying25 hi hz0 hz1 hz2 rfl (by decide) (.slice (some ⟨w.heap.size, 0, none⟩) 0 0) 0 [] rfl HB.out ⟨g, 0, none⟩ k cap' (ocells (L.take k)) rfl (by rw [ocells_length, List.length_take]; have := HT.out.1; omega) (CT.out _ BB.out) (ocells_one _) (by unfold maxLen; omega) (by omega) BB.out.size ?_
               intro v1 w1 ho1 hg1 hd1
               have B1 := Lib.hid (BB.out.grown hg1 BB.out.size (fun q e => (HB.out.lt q e).1))
               have KN := Lib.hid (two_of (KB.out.grown hg1 (by simp [Value.ownBlock])))
               have HO1 := Lib.hid ho1
               clear ho1 hg1 hd1)
            | (refine step_append_own rfl (.tmp 54) (.tmp 57) 25 rfl w.heap.size 38 i0 (.agg #[.int .i64 0, .string ⟨#[]⟩]) 2 24 Tryz.underlying25 hi hz0 hz1 hz2 rfl (by decide) (.slice (some ⟨w.heap.size + 1, 0, none⟩) 0 0) 0 [] rfl HC.out ⟨g, 0, none⟩ k cap' (ocells (L.take k)) rfl (by rw [ocells_length, List.length_take]; have := HT.out.1; omega) (CT.out _ BC.out) (ocells_one _) (by unfold maxLen; omega) (by omega) BC.out.size ?_
               intro v1 w1 ho1 hg1 hd1
               have B1 := Lib.hid (BC.out.grown hg1 BC.out.size (fun q e => (HC.out.lt q e).1))
               have KN := Lib.hid (two_of (KC.out.grown hg1 (by simp [Value.ownBlock])))
               have HO1 := Lib.hid ho1
               clear ho1 hg1 hd1)
            | (refine step_append_own rfl (.tmp 58) (.tmp 62) 25 rfl w.heap.size 38 i0 (.agg #[.int .i64 0, .string ⟨#[]⟩]) 2 24 Tryz.underlying25 hi hz0 hz1 hz2 rfl (by decide) v1 (0 + k) ([] ++ ocells (L.take k)) rfl (HO1.out.alloc _) ⟨w1.heap.size, 0, none⟩ 1 1 [.int .i64 v, .string (ds c)] rfl rfl (cell_two_new _ _ _ _) (by simp [Value.oneCell']) (by unfold maxLen; omega) (by omega) (B1.out.alloc B1.out.size (.cells #[.int .i64 v, .string (ds c)] 38)).size ?_
               intro v2 w2 ho2 hg2 hd2
               have B2 := Lib.hid ((B1.out.alloc B1.out.size (.cells #[.int .i64 v, .string (ds c)] 38)).grown hg2 (B1.out.alloc B1.out.size (.cells #[.int .i64 v, .string (ds c)] 38)).size (fun q e => (HO1.out.lt q e).1))
               have HO2 := Lib.hid ho2
               clear ho2 hg2 hd2)
            | (refine step_append_own rfl (.tmp 58) (.tmp 62) 25 rfl w.heap.size 38 i0 (.agg #[.int .i64 0, .string ⟨#[]⟩]) 2 24 Tryz.underlying25 hi hz0 hz1 hz2 rfl (by decide) v1 (0 + k) ([] ++ ocells (L.take k)) rfl (HO1.out) ⟨w.heap.size + 1, 0, none⟩ 1 1 [.int .i64 v, .string (ds c)] rfl rfl (KN.out) (by simp [Value.oneCell']) (by unfold maxLen; omega) (by omega) (B1.out).size ?_
               intro v2 w2 ho2 hg2 hd2
               have B2 := Lib.hid ((B1.out).grown hg2 (B1.out).size (fun q e => (HO1.out.lt q e).1))
               have HO2 := Lib.hid ho2
               clear ho2 hg2 hd2)
            | (refine step_append_own rfl (.tmp 58) (.tmp 62) 25 rfl w.heap.size 38 i0 (.agg #[.int .i64 0, .string ⟨#[]⟩]) 2 24 Tryz.underlying25 hi hz0 hz1 hz2 rfl (by decide) v1 (0 + k) ([] ++ ocells (L.take k)) rfl (HO1.out) ⟨w.heap.size, 0, none⟩ 1 1 [.int .i64 v, .string (ds c)] rfl rfl (KN.out) (by simp [Value.oneCell']) (by unfold maxLen; omega) (by omega) (B1.out).size ?_
               intro v2 w2 ho2 hg2 hd2
               have B2 := Lib.hid ((B1.out).grown hg2 (B1.out).size (fun q e => (HO1.out.lt q e).1))
               have HO2 := Lib.hid ho2
               clear ho2 hg2 hd2)
            | (refine step_append_own rfl (.tmp 63) (.tmp 66) 25 rfl w.heap.size 38 i0 (.agg #[.int .i64 0, .string ⟨#[]⟩]) 2 24 Tryz.underlying25 hi hz0 hz1 hz2 rfl (by decide) v2 (0 + k + 1) ([] ++ ocells (L.take k) ++ [.int .i64 v, .string (ds c)]) rfl HO2.out ⟨g, k * 2, none⟩ (n - k) (cap' - k) (ocells (L.drop k)) rfl (by rw [ocells_length, List.length_drop]; have := HT.out.1; omega) (CD.out _ B2.out) (ocells_one _) (by unfold maxLen; omega) (by omega) B2.out.size ?_
               intro v3 w3 ho3 hg3 hd3
               have B3 := Lib.hid (B2.out.grown hg3 B2.out.size (fun q e => (HO2.out.lt q e).1))
               have HO3 := Lib.hid ho3
               clear ho3 hg3 hd3))
          all_goals
            clear BA BB BC HA HB HC KB KC
            go_wp2_with fail
            go_ret
            refine ⟨v3, L.take k ++ (v, c) :: L.drop k, rfl, ?_, own_fin HO3.out hb (by have := HT.out.1; simp; omega), B3.out.mono hb⟩
            refine tbl_put_miss (by rw [List.take_append_drop]; exact HT.out.2.1) (take_lt hlt.out) (drop_gt HT.out.2.1.1 ?_) HT.out.2.2.1
            intro _
            rw [hx.out]
            show v < x
            omega
    · obtain rfl : k = n := by omega
      by_cases hkc2 : cap' = k
      · obtain rfl : k = cap' := hkc2.symm
        clear hkc2
        go_wp2_with fail
        have BA : Below w.heap.size w (w.alloc (.cells #[] 38)).drew := ((Below.refl _ _).alloc (Nat.le_refl _) _).drew
        have BB : Below w.heap.size w ((w.alloc (.cells #[] 38)).alloc (.cells #[.int .i64 v, .string (ds c)] 38)).drew := (((Below.refl _ _).alloc (Nat.le_refl _) _).alloc (by simp) _).drew
        have BC : Below w.heap.size w ((w.alloc (.cells #[.int .i64 v, .string (ds c)] 38)).alloc (.cells #[] 38)).drew := (((Below.refl _ _).alloc (Nat.le_refl _) _).alloc (by simp) _).drew
        have HA : Hid ((w.alloc (.cells #[] 38)).drew.ownsRow w.heap.size 38 2 (.slice (some ⟨w.heap.size, 0, none⟩) 0 0) 0 []) := Lib.hid (own_empty (Blk.new w 38 #[]).drew (Nat.le_refl _))
        have HB : Hid (((w.alloc (.cells #[] 38)).alloc (.cells #[.int .i64 v, .string (ds c)] 38)).drew.ownsRow w.heap.size 38 2 (.slice (some ⟨w.heap.size, 0, none⟩) 0 0) 0 []) := Lib.hid (own_empty ((Blk.new w 38 #[]).alloc _).drew (Nat.le_refl _))
        have HC : Hid (((w.alloc (.cells #[.int .i64 v, .string (ds c)] 38)).alloc (.cells #[] 38)).drew.ownsRow w.heap.size 38 2 (.slice (some ⟨w.heap.size + 1, 0, none⟩) 0 0) 0 []) := Lib.hid (own_empty (by have := Blk.new (w.alloc (.cells #[.int .i64 v, .string (ds c)] 38)) 38 #[]; simp at this; exact this.drew) (by omega))
        have KB : Hid (Blk ((w.alloc (.cells #[] 38)).alloc (.cells #[.int .i64 v, .string (ds c)] 38)).drew (w.heap.size + 1) 38 #[.int .i64 v, .string (ds c)]) := Lib.hid (by have := Blk.new (w.alloc (.cells #[] 38)) 38 #[.int .i64 v, .string (ds c)]; simp at this; exact this.drew)
        have KC : Hid (Blk ((w.alloc (.cells #[.int .i64 v, .string (ds c)] 38)).alloc (.cells #[] 38)).drew w.heap.size 38 #[.int .i64 v, .string (ds c)]) := Lib.hid (((Blk.new w 38 #[.int .i64 v, .string (ds c)]).alloc _).drew)
        have BA := Lib.hid BA
        have BB := Lib.hid BB
        have BC := Lib.hid BC
        go_region_law (first
          | (refine step_append_own rfl (.tmp 54) (.tmp 57) 25 rfl w.heap.size 38 i0 (.agg #[.int .i64 0, .string ⟨#[]⟩]) 2 24 Tryz.underlying25 hi hz0 hz1 hz2 rfl (by decide) (.slice (some ⟨w.heap.size, 0, none⟩) 0 0) 0 [] rfl HA.out ⟨g, 0, none⟩ k k (ocells (L.take k)) rfl (by rw [ocells_length, List.length_take]; have := HT.out.1; omega) (CT.out _ BA.out) (ocells_one _) (by unfold maxLen; omega) (by omega) BA.out.size ?_
             intro v1 w1 ho1 hg1 hd1
             have B1 := Lib.hid (BA.out.grown hg1 BA.out.size (fun q e => (HA.out.lt q e).1))
             have HO1 := Lib.hid ho1
             clear ho1 hg1 hd1)
          | (refine step_append_own rfl (.tmp 54) (.tmp 57) 25 rfl w.heap.size 38 i0 (.agg #[.int .i64 0, .string ⟨#[]⟩]) 2 24 Tryz.underlying25 hi hz0 hz1 hz2 rfl (by decide) (.slice (some ⟨w.heap.size, 0, none⟩) 0 0) 0 [] rfl HB.out ⟨g, 0, none⟩ k k (ocells (L.take k)) rfl (by rw [ocells_length, List.length_take]; have := HT.out.1; omega) (CT.out _ BB.out) (ocells_one _) (by unfold maxLen; omega) (by omega) BB.out.size ?_
             intro v1 w1 ho1 hg1 hd1
             have B1 := Lib.hid (BB.out.grown hg1 BB.out.size (fun q e => (HB.out.lt q e).1))
             have KN := Lib.hid (two_of (KB.out.grown hg1 (by simp [Value.ownBlock])))
             have HO1 := Lib.hid ho1
             clear ho1 hg1 hd1)
          | (refine step_append_own rfl (.tmp 54) (.tmp 57) 25 rfl w.heap.size 38 i0 (.agg #[.int .i64 0, .string ⟨#[]⟩]) 2 24 Tryz.underlying25 hi hz0 hz1 hz2 rfl (by decide) (.slice (some ⟨w.heap.size + 1, 0, none⟩) 0 0) 0 [] rfl HC.out ⟨g, 0, none⟩ k k (ocells (L.take k)) rfl (by rw [ocells_length, List.length_take]; have := HT.out.1; omega) (CT.out _ BC.out) (ocells_one _) (by unfold maxLen; omega) (by omega) BC.out.size ?_
             intro v1 w1 ho1 hg1 hd1
             have B1 := Lib.hid (BC.out.grown hg1 BC.out.size (fun q e => (HC.out.lt q e).1))
             have KN := Lib.hid (two_of (KC.out.grown hg1 (by simp [Value.ownBlock])))
             have HO1 := Lib.hid ho1
             clear ho1 hg1 hd1)
          | (refine step_append_own rfl (.tmp 58) (.tmp 62) 25 rfl w.heap.size 38 i0 (.agg #[.int .i64 0, .string ⟨#[]⟩]) 2 24 Tryz.underlying25 hi hz0 hz1 hz2 rfl (by decide) v1 (0 + k) ([] ++ ocells (L.take k)) rfl (HO1.out.alloc _) ⟨w1.heap.size, 0, none⟩ 1 1 [.int .i64 v, .string (ds c)] rfl rfl (cell_two_new _ _ _ _) (by simp [Value.oneCell']) (by unfold maxLen; omega) (by omega) (B1.out.alloc B1.out.size (.cells #[.int .i64 v, .string (ds c)] 38)).size ?_
             intro v2 w2 ho2 hg2 hd2
             have B2 := Lib.hid ((B1.out.alloc B1.out.size (.cells #[.int .i64 v, .string (ds c)] 38)).grown hg2 (B1.out.alloc B1.out.size (.cells #[.int .i64 v, .string (ds c)] 38)).size (fun q e => (HO1.out.lt q e).1))
             have HO2 := Lib.hid ho2
             clear ho2 hg2 hd2)
          | (refine step_append_own rfl (.tmp 58) (.tmp 62) 25 rfl w.heap.size 38 i0 (.agg #[.int .i64 0, .string ⟨#[]⟩]) 2 24 Tryz.underlying25 hi hz0 hz1 hz2 rfl (by decide) v1 (0 + k) ([] ++ ocells (L.take k)) rfl (HO1.out) ⟨w.heap.size + 1, 0, none⟩ 1 1 [.int .i64 v, .string (ds c)] rfl rfl (KN.out) (by simp [Value.oneCell']) (by unfold maxLen; omega) (by omega) (B1.out).size ?_
             intro v2 w2 ho2 hg2 hd2
             have B2 := Lib.hid ((B1.out).grown hg2 (B1.out).size (fun q e => (HO1.out.lt q e).1))
             have HO2 := Lib.hid ho2
             clear ho2 hg2 hd2)
          | (refine step_append_own rfl (.tmp 58) (.tmp 62) 25 rfl w.heap.size 38 i0 (.agg #[.int .i64 0, .string ⟨#[]⟩]) 2 24 Tryz.underlying25 hi hz0 hz1 hz2 rfl (by decide) v1 (0 + k) ([] ++ ocells (L.take k)) rfl (HO1.out) ⟨w.heap.size, 0, none⟩ 1 1 [.int .i64 v, .string (ds c)] rfl rfl (KN.out) (by simp [Value.oneCell']) (by unfold maxLen; omega) (by omega) (B1.out).size ?_
             intro v2 w2 ho2 hg2 hd2
             have B2 := Lib.hid ((B1.out).grown hg2 (B1.out).size (fun q e => (HO1.out.lt q e).1))
             have HO2 := Lib.hid ho2
             clear ho2 hg2 hd2)
          | (refine step_append_own rfl (.tmp 63) (.tmp 66) 25 rfl w.heap.size 38 i0 (.agg #[.int .i64 0, .string ⟨#[]⟩]) 2 24 Tryz.underlying25 hi hz0 hz1 hz2 rfl (by decide) v2 (0 + k + 1) ([] ++ ocells (L.take k) ++ [.int .i64 v, .string (ds c)]) rfl HO2.out _ 0 _ [] rfl rfl (by simp) (by simp) (by unfold maxLen; omega) (by omega) B2.out.size ?_
             intro v3 w3 ho3 hg3 hd3
             have B3 := Lib.hid (B2.out.grown hg3 B2.out.size (fun q e => (HO2.out.lt q e).1))
             have HO3 := Lib.hid ho3
             clear ho3 hg3 hd3))
        all_goals
          clear BA BB BC HA HB HC KB KC
          go_wp2_with fail
          go_ret
          refine ⟨v3, L.take k ++ (v, c) :: L.drop k, rfl, ?_, own_fin0 HO3.out hb HT.out.1, B3.out.mono hb⟩
          refine tbl_put_miss (by rw [List.take_append_drop]; exact HT.out.2.1) (take_lt hlt.out) (drop_gt HT.out.2.1.1 ?_) HT.out.2.2.1
          intro h; have := HT.out.1; omega
      · have hkne2 : ¬ k = cap' := fun e => hkc2 e.symm
        go_wp2_with fail
        have BA : Below w.heap.size w (w.alloc (.cells #[] 38)).drew := ((Below.refl _ _).alloc (Nat.le_refl _) _).drew
        have BB : Below w.heap.size w ((w.alloc (.cells #[] 38)).alloc (.cells #[.int .i64 v, .string (ds c)] 38)).drew := (((Below.refl _ _).alloc (Nat.le_refl _) _).alloc (by simp) _).drew
        have BC : Below w.heap.size w ((w.alloc (.cells #[.int .i64 v, .string (ds c)] 38)).alloc (.cells #[] 38)).drew := (((Below.refl _ _).alloc (Nat.le_refl _) _).alloc (by simp) _).drew
        have HA : Hid ((w.alloc (.cells #[] 38)).drew.ownsRow w.heap.size 38 2 (.slice (some ⟨w.heap.size, 0, none⟩) 0 0) 0 []) := Lib.hid (own_empty (Blk.new w 38 #[]).drew (Nat.le_refl _))
        have HB : Hid (((w.alloc (.cells #[] 38)).alloc (.cells #[.int .i64 v, .string (ds c)] 38)).drew.ownsRow w.heap.size 38 2 (.slice (some ⟨w.heap.size, 0, none⟩) 0 0) 0 []) := Lib.hid (own_empty ((Blk.new w 38 #[]).alloc _).drew (Nat.le_refl _))
        have HC : Hid (((w.alloc (.cells #[.int .i64 v, .string (ds c)] 38)).alloc (.cells #[] 38)).drew.ownsRow w.heap.size 38 2 (.slice (some ⟨w.heap.size + 1, 0, none⟩) 0 0) 0 []) := Lib.hid (own_empty (by have := Blk.new (w.alloc (.cells #[.int .i64 v, .string (ds c)] 38)) 38 #[]; simp at this; exact this.drew) (by omega))
        have KB : Hid (Blk ((w.alloc (.cells #[] 38)).alloc (.cells #[.int .i64 v, .string (ds c)] 38)).drew (w.heap.size + 1) 38 #[.int .i64 v, .string (ds c)]) := Lib.hid (by have := Blk.new (w.alloc (.cells #[] 38)) 38 #[.int .i64 v, .string (ds c)]; simp at this; exact this.drew)
        have KC : Hid (Blk ((w.alloc (.cells #[.int .i64 v, .string (ds c)] 38)).alloc (.cells #[] 38)).drew w.heap.size 38 #[.int .i64 v, .string (ds c)]) := Lib.hid (((Blk.new w 38 #[.int .i64 v, .string (ds c)]).alloc _).drew)
        have BA := Lib.hid BA
        have BB := Lib.hid BB
        have BC := Lib.hid BC
        go_region_law (first
          | (refine step_append_own rfl (.tmp 54) (.tmp 57) 25 rfl w.heap.size 38 i0 (.agg #[.int .i64 0, .string ⟨#[]⟩]) 2 24 Tryz.underlying25 hi hz0 hz1 hz2 rfl (by decide) (.slice (some ⟨w.heap.size, 0, none⟩) 0 0) 0 [] rfl HA.out ⟨g, 0, none⟩ k cap' (ocells (L.take k)) rfl (by rw [ocells_length, List.length_take]; have := HT.out.1; omega) (CT.out _ BA.out) (ocells_one _) (by unfold maxLen; omega) (by omega) BA.out.size ?_
             intro v1 w1 ho1 hg1 hd1
             have B1 := Lib.hid (BA.out.grown hg1 BA.out.size (fun q e => (HA.out.lt q e).1))
             have HO1 := Lib.hid ho1
             clear ho1 hg1 hd1)
          | (refine step_append_own rfl (.tmp 54) (.tmp 57) 25 rfl w.heap.size 38 i0 (.agg #[.int .i64 0, .string ⟨#[]⟩]) 2 24 Tryz.underlying25 hi hz0 hz1 hz2 rfl (by decide) (.slice (some ⟨w.heap.size, 0, none⟩) 0 0) 0 [] rfl HB.out ⟨g, 0, none⟩ k cap' (ocells (L.take k)) rfl (by rw [ocells_length, List.length_take]; have := HT.out.1; omega) (CT.out _ BB.out) (ocells_one _) (by unfold maxLen; omega) (by omega) BB.out.size ?_
             intro v1 w1 ho1 hg1 hd1
             have B1 := Lib.hid (BB.out.grown hg1 BB.out.size (fun q e => (HB.out.lt q e).1))
             have KN := Lib.hid (two_of (KB.out.grown hg1 (by simp [Value.ownBlock])))
             have HO1 := Lib.hid ho1
             clear ho1 hg1 hd1)
          | (refine step_append_own rfl (.tmp 54) (.tmp 57) 25 rfl w.heap.size 38 i0 (.agg #[.int .i64 0, .string ⟨#[]⟩]) 2 24 Tryz.underlying25 hi hz0 hz1 hz2 rfl (by decide) (.slice (some ⟨w.heap.size + 1, 0, none⟩) 0 0) 0 [] rfl HC.out ⟨g, 0, none⟩ k cap' (ocells (L.take k)) rfl (by rw [ocells_length, List.length_take]; have := HT.out.1; omega) (CT.out _ BC.out) (ocells_one _) (by unfold maxLen; omega) (by omega) BC.out.size ?_
             intro v1 w1 ho1 hg1 hd1
             have B1 := Lib.hid (BC.out.grown hg1 BC.out.size (fun q e => (HC.out.lt q e).1))
             have KN := Lib.hid (two_of (KC.out.grown hg1 (by simp [Value.ownBlock])))
             have HO1 := Lib.hid ho1
             clear ho1 hg1 hd1)
          | (refine step_append_own rfl (.tmp 58) (.tmp 62) 25 rfl w.heap.size 38 i0 (.agg #[.int .i64 0, .string ⟨#[]⟩]) 2 24 Tryz.underlying25 hi hz0 hz1 hz2 rfl (by decide) v1 (0 + k) ([] ++ ocells (L.take k)) rfl (HO1.out.alloc _) ⟨w1.heap.size, 0, none⟩ 1 1 [.int .i64 v, .string (ds c)] rfl rfl (cell_two_new _ _ _ _) (by simp [Value.oneCell']) (by unfold maxLen; omega) (by omega) (B1.out.alloc B1.out.size (.cells #[.int .i64 v, .string (ds c)] 38)).size ?_
             intro v2 w2 ho2 hg2 hd2
             have B2 := Lib.hid ((B1.out.alloc B1.out.size (.cells #[.int .i64 v, .string (ds c)] 38)).grown hg2 (B1.out.alloc B1.out.size (.cells #[.int .i64 v, .string (ds c)] 38)).size (fun q e => (HO1.out.lt q e).1))
             have HO2 := Lib.hid ho2
             clear ho2 hg2 hd2)
          | (refine step_append_own rfl (.tmp 58) (.tmp 62) 25 rfl w.heap.size 38 i0 (.agg #[.int .i64 0, .string ⟨#[]⟩]) 2 24 Tryz.underlying25 hi hz0 hz1 hz2 rfl (by decide) v1 (0 + k) ([] ++ ocells (L.take k)) rfl (HO1.out) ⟨w.heap.size + 1, 0, none⟩ 1 1 [.int .i64 v, .string (ds c)] rfl rfl (KN.out) (by simp [Value.oneCell']) (by unfold maxLen; omega) (by omega) (B1.out).size ?_
             intro v2 w2 ho2 hg2 hd2
             have B2 := Lib.hid ((B1.out).grown hg2 (B1.out).size (fun q e => (HO1.out.lt q e).1))
             have HO2 := Lib.hid ho2
             clear ho2 hg2 hd2)
          | (refine step_append_own rfl (.tmp 58) (.tmp 62) 25 rfl w.heap.size 38 i0 (.agg #[.int .i64 0, .string ⟨#[]⟩]) 2 24 Tryz.underlying25 hi hz0 hz1 hz2 rfl (by decide) v1 (0 + k) ([] ++ ocells (L.take k)) rfl (HO1.out) ⟨w.heap.size, 0, none⟩ 1 1 [.int .i64 v, .string (ds c)] rfl rfl (KN.out) (by simp [Value.oneCell']) (by unfold maxLen; omega) (by omega) (B1.out).size ?_
             intro v2 w2 ho2 hg2 hd2
             have B2 := Lib.hid ((B1.out).grown hg2 (B1.out).size (fun q e => (HO1.out.lt q e).1))
             have HO2 := Lib.hid ho2
             clear ho2 hg2 hd2)
          | (refine step_append_own rfl (.tmp 63) (.tmp 66) 25 rfl w.heap.size 38 i0 (.agg #[.int .i64 0, .string ⟨#[]⟩]) 2 24 Tryz.underlying25 hi hz0 hz1 hz2 rfl (by decide) v2 (0 + k + 1) ([] ++ ocells (L.take k) ++ [.int .i64 v, .string (ds c)]) rfl HO2.out _ 0 _ [] rfl rfl (by simp) (by simp) (by unfold maxLen; omega) (by omega) B2.out.size ?_
             intro v3 w3 ho3 hg3 hd3
             have B3 := Lib.hid (B2.out.grown hg3 B2.out.size (fun q e => (HO2.out.lt q e).1))
             have HO3 := Lib.hid ho3
             clear ho3 hg3 hd3))
        all_goals
          clear BA BB BC HA HB HC KB KC
          go_wp2_with fail
          go_ret
          refine ⟨v3, L.take k ++ (v, c) :: L.drop k, rfl, ?_, own_fin0 HO3.out hb HT.out.1, B3.out.mono hb⟩
          refine tbl_put_miss (by rw [List.take_append_drop]; exact HT.out.2.1) (take_lt hlt.out) (drop_gt HT.out.2.1.1 ?_) HT.out.2.2.1
          intro h; have := HT.out.1; omega
end Go.Proofs.YtdapflgfocideaaGreatDoor
