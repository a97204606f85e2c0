/- A map from int to numerals, as a function of the key; the laws of look-up, store and range at it. -/
import Derived.Test.YtdapflgfocideaaGreatDoorRat
import Derived.Test.YtdapflgfocideaaGreatDoorConv
import Derived.Maps.StringElems
namespace Go.Proofs.YtdapflgfocideaaGreatDoor
open Go Go.RowKit Go.Deep
open Go.Lib (decDigits)
open Go.Maps (Keyed)

abbrev DU := DataW Unit
theorem keyed3 : Keyed Tryz.prog 3 := Maps.int_keyed Tryz.underlying3
theorem und29 : Tryz.prog.underlying 29 = some .string := by kernel_rfl
theorem zero29 (w : World) : (zeroValue 29).run Tryz.prog w = .ok (.string ⟨#[]⟩) w := by kernel_rfl

/-- The reading D holds at each key x the numeral of f x; no entry where f x is 0. -/
structure Rep (D : DU) (f : Int → Nat) : Prop where
  is : Maps.IsMap D
  at_ : ∀ x : Int, (Lit.int .i64 x).wf = true → ∀ zd, D.atKey (.int .i64 x) zd = if f x = 0 then zd else .lit (.string (decDigits (f x)))
theorem Rep.has {D : DU} {f : Int → Nat} (h : Rep D f) (x : Int) (hx : (Lit.int .i64 x).wf = true) : Maps.has D (.int .i64 x) = decide (f x ≠ 0) := by
  by_cases h0 : f x = 0
  · rw [Maps.has_false_of_atKey (fun z => by rw [h.at_ x hx, if_pos h0])]; simp [h0]
  · rw [Maps.has_true_of_atKey (y := .lit (.string (decDigits (f x)))) (fun z => by rw [h.at_ x hx, if_neg h0])]; simp [h0]
theorem Rep.nil : Rep (.map []) fun _ => 0 := ⟨Maps.isMap_empty, fun x _ zd => by simp; rfl⟩

theorem Rep.put {D : DU} {f : Int → Nat} (h : Rep D f) (k : Int) (hk : (Lit.int .i64 k).wf = true) (c : Nat) (hc : 0 < c) : Rep (D.put (.int .i64 k) (.lit (.string (decDigits (f k + c))))) (upd f k c) :=
  ⟨h.is.put _ _, fun x hx zd => by
    by_cases e : x = k
    · subst e
      rw [Maps.atKey_put_same h.is (by simp [WideAt.IsKeyLit])]
      simp [upd]; omega
    · rw [Maps.atKey_put_other (by simpa using e), h.at_ x hx]
      simp [upd, e]⟩

theorem bytes_eq {c : ByteArray} {l : List UInt8} (h : c.data.toList = l) : c = ⟨l.toArray⟩ := by
  cases c; simp at h; subst h; simp

section
variable {P : Program} (w : World) {ops : Array Oper} {rest : List Oper} {o : Oper} {a : Act} {Q : Exit → Act → World → Prop}

theorem wpList_look_ok (hg : o.guard = none) (m x : Operand) (hop : o.op = Op.lookup 46 m x true) (b n : Nat) (D : DU) (f : Int → Nat)
    (hm : a.eval m = .map (some b)) (hown : w.ownsMap Tryz.prog 3 (plainElem Tryz.prog 29) b n D) (hR : Rep D f) (k : Int) (hx : a.eval x = .int .i64 k) (hk : (Lit.int .i64 k).wf = true)
    (hK : wpList Tryz.prog ops Q rest (a.put o.dst (.tuple #[.string (if f k = 0 then ⟨#[]⟩ else ds (f k)), .bool (decide (f k ≠ 0))])) w) :
    wpList Tryz.prog ops Q (o :: rest) a w :=
  wpList_lookup_own_ok w hg m x 46 hop 3 29 keyed3 Tryz.underlying46 (plainElem Tryz.prog 29) (zero29 w) (.lit (.string [])) [] (plainElem_string und29 (by decide)) b n D hm hown (.int .i64 k) (.int .i64 k) hx (Maps.keyOf_int_mk Tryz.underlying3 hk) (fun v ps hv => by
    obtain ⟨c, rfl, hc, _⟩ := plainElem_string_inv und29 hv
    have hc1 := congrArg Prod.fst hc
    simp only [hR.at_ k hk] at hc1
    rw [hR.has k hk]
    have e : c = if f k = 0 then ⟨#[]⟩ else ds (f k) := by
      by_cases h0 : f k = 0
      · rw [if_pos h0] at hc1 ⊢
        simp only [DataW.lit.injEq, Lit.string.injEq] at hc1
        exact bytes_eq hc1.symm
      · rw [if_neg h0] at hc1 ⊢
        simp only [DataW.lit.injEq, Lit.string.injEq] at hc1
        exact bytes_eq hc1.symm
    rw [e]
    exact hK)

theorem wpList_look_hit (hg : o.guard = none) (m x : Operand) (hop : o.op = Op.lookup 46 m x true) (b n : Nat) (D : DU) (f : Int → Nat)
    (hm : a.eval m = .map (some b)) (hown : w.ownsMap Tryz.prog 3 (plainElem Tryz.prog 29) b n D) (hR : Rep D f) (k : Int) (v : Nat) (hx : a.eval x = .int .i64 k) (hk : (Lit.int .i64 k).wf = true) (hv : f k = v) (h0 : v ≠ 0)
    (hK : wpList Tryz.prog ops Q rest (a.put o.dst (.tuple #[.string (ds v), .bool true])) w) :
    wpList Tryz.prog ops Q (o :: rest) a w :=
  wpList_look_ok w hg m x hop b n D f hm hown hR k hx hk (by rw [hv, if_neg h0, decide_eq_true h0]; exact hK)
theorem wpList_look_miss (hg : o.guard = none) (m x : Operand) (hop : o.op = Op.lookup 46 m x true) (b n : Nat) (D : DU) (f : Int → Nat)
    (hm : a.eval m = .map (some b)) (hown : w.ownsMap Tryz.prog 3 (plainElem Tryz.prog 29) b n D) (hR : Rep D f) (k : Int) (hx : a.eval x = .int .i64 k) (hk : (Lit.int .i64 k).wf = true) (h0 : f k = 0)
    (hK : wpList Tryz.prog ops Q rest (a.put o.dst (.tuple #[.string ⟨#[]⟩, .bool false])) w) :
    wpList Tryz.prog ops Q (o :: rest) a w :=
  wpList_look_ok w hg m x hop b n D f hm hown hR k hx hk (by rw [if_pos h0, decide_eq_false (by omega)]; exact hK)

theorem wpList_look (hg : o.guard = none) (m x : Operand) (hop : o.op = Op.lookup 46 m x false) (b n : Nat) (D : DU) (f : Int → Nat)
    (hm : a.eval m = .map (some b)) (hown : w.ownsMap Tryz.prog 3 (plainElem Tryz.prog 29) b n D) (hR : Rep D f) (k : Int) (hx : a.eval x = .int .i64 k) (hk : (Lit.int .i64 k).wf = true) (h0 : f k ≠ 0)
    (hK : wpList Tryz.prog ops Q rest (a.put o.dst (.string (ds (f k)))) w) :
    wpList Tryz.prog ops Q (o :: rest) a w := by
  refine wpList_plain hg fun K' hK' => ?_
  obtain ⟨v, ps, hrun, hv⟩ := hown.lookup keyed3 Tryz.underlying46 (zero29 w) (plainElem_string und29 (by decide) : plainElem Tryz.prog 29 (.string ⟨#[]⟩) = some (.lit (.string []), [])) (Maps.keyOf_int_mk Tryz.underlying3 hk)
  obtain ⟨c, rfl, hc, _⟩ := plainElem_string_inv und29 hv
  have hc1 := congrArg Prod.fst hc
  simp only [hR.at_ k hk, if_neg h0] at hc1
  simp only [DataW.lit.injEq, Lit.string.injEq] at hc1
  obtain rfl : c = ds (f k) := bytes_eq hc1.symm
  unfold Oper.wp
  simp [execOp, hop, hm, hx, hrun, Result.andThen]
  exact hK' _ _ hK

theorem wpList_store (hg : o.guard = none) (m x v : Operand) (hop : o.op = Op.mapUpdate 46 m x v) (b n : Nat) (D : DU) (f : Int → Nat)
    (hm : a.eval m = .map (some b)) (hown : w.ownsMap Tryz.prog 3 (plainElem Tryz.prog 29) b n D) (hR : Rep D f) (k : Int) (c : Nat) (hx : a.eval x = .int .i64 k) (hv : a.eval v = .string (ds (f k + c))) (hk : (Lit.int .i64 k).wf = true) (hc : 0 < c) (hn : n < maxLen) (hl : (ds (f k + c)).size ≤ maxLen)
    (hK : ∀ D' w', w'.ownsMap Tryz.prog 3 (plainElem Tryz.prog 29) b (n + 1) D' → Rep D' (upd f k c) → w.grownBy w' (some b) → wpList Tryz.prog ops Q rest (a.put o.dst undef) w') :
    wpList Tryz.prog ops Q (o :: rest) a w :=
  wpList_mapUpdate_own w hg m x v 46 hop 3 29 keyed3 Tryz.underlying46 (plainElem Tryz.prog 29) b n D hm hown hn (.int .i64 k) (.string (ds (f k + c))) (.int .i64 k) hx hv (Maps.keyOf_int_mk Tryz.underlying3 hk) _ [] (plainElem_string und29 hl) (fun w' h1 h2 => hK _ w' h1 (by rw [ds_list]; exact hR.put k hk c hc) h2)
end
end Go.Proofs.YtdapflgfocideaaGreatDoor
