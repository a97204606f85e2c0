/- Words on memory for the walks of this seat: a slice of ints that reads as a list. Condition: none. -/
import Derived.WalkKit
import Derived.Deep.Draws
import Derived.Deep.QuietTactic
import Derived.BigQuiet
import Derived.Lib.Hide
namespace Go.Proofs.YtdapflgfocideaaGreatDoor
open Go Go.RowKit

/-- The slice value of length n at address A reads as the cells xs, and lies below block B. -/
structure Rd (w : World) (B : Nat) (A : Option Addr) (n : Nat) (xs : List Value) : Prop where
  len : xs.length = n
  cells : ∀ k, k < n → ∃ b off, A = some ⟨b, off, none⟩ ∧ b < B ∧ ∀ j (h : j < xs.length), w.cell? ⟨b, off + j, none⟩ = some xs[j]

theorem Rd.nil (w : World) (B : Nat) (A : Option Addr) : Rd w B A 0 [] := ⟨rfl, fun k h => absurd h (by omega)⟩
theorem Rd.keep {w w' : World} {B n : Nat} {A : Option Addr} {xs : List Value} (h : Rd w B A n xs) (hk : ∀ p : Addr, p.block < B → w'.cell? p = w.cell? p) : Rd w' B A n xs :=
  ⟨h.len, fun k hkn => by
    obtain ⟨b, off, e, hb, hc⟩ := h.cells k hkn
    exact ⟨b, off, e, hb, fun j hj => (hk _ hb).trans (hc j hj)⟩⟩
theorem Rd.more {w : World} {B B' n : Nat} {A : Option Addr} {xs : List Value} (h : Rd w B A n xs) (hB : B ≤ B') : Rd w B' A n xs :=
  ⟨h.len, fun k hkn => by
    obtain ⟨b, off, e, hb, hc⟩ := h.cells k hkn
    exact ⟨b, off, e, by omega, hc⟩⟩
theorem Rd.below {w w' : World} {B n : Nat} {A : Option Addr} {xs : List Value} (h : Rd w B A n xs) (hb : Below B w w') : Rd w' B A n xs := h.keep fun _ hp => hb.cell hp
theorem Rd.at {w : World} {B n : Nat} {A : Option Addr} {xs : List Value} (h : Rd w B A n xs) {k : Nat} (hk : k < n) :
    ∃ b off, A = some ⟨b, off, none⟩ ∧ b < B ∧ w.cell? ⟨b, off + k, none⟩ = some (xs.getD k undef) := by
  obtain ⟨b, off, e, hb, hc⟩ := h.cells k hk
  have hl : k < xs.length := by rw [h.len]; exact hk
  refine ⟨b, off, e, hb, ?_⟩
  rw [hc k hl, List.getD_eq_getElem?_getD, List.getElem?_eq_getElem hl]; rfl

def i64 (x : Int) : Value := .int .i64 x
/-- .. as the integers xs. -/
def RdI (w : World) (B : Nat) (A : Option Addr) (n : Nat) (xs : List Int) : Prop := Rd w B A n (xs.map (Value.int .i64))
theorem RdI.at {w : World} {B n : Nat} {A : Option Addr} {xs : List Int} (h : RdI w B A n xs) {k : Nat} (hk : k < n) :
    ∃ b off x, A = some ⟨b, off, none⟩ ∧ b < B ∧ w.cell? ⟨b, off + k, none⟩ = some (.int .i64 x) ∧ Hid (xs.getD k 0 = x) := by
  obtain ⟨b, off, e, hb, hc⟩ := Rd.at h hk
  have hl : k < xs.length := by have := h.len; simp at this; omega
  refine ⟨b, off, xs[k], e, hb, ?_, Lib.hid (by rw [List.getD_eq_getElem?_getD, List.getElem?_eq_getElem hl]; rfl)⟩
  rw [hc]
  simp [List.getD_eq_getElem?_getD, List.getElem?_eq_getElem hl]
theorem RdI.length {w : World} {B n : Nat} {A : Option Addr} {xs : List Int} (h : RdI w B A n xs) : xs.length = n := by have := h.len; simpa using this

end Go.Proofs.YtdapflgfocideaaGreatDoor
namespace Go.Proofs.YtdapflgfocideaaGreatDoor
open Go Go.RowKit
/-- Block g is just the cells cs of element type t, none frozen. -/
def Blk (w : World) (g : Nat) (t : TypeId) (cs : Array Value) : Prop := w.heap[g]? = some (.cells cs t (0, 0))
theorem Blk.lt {w : World} {g : Nat} {t : TypeId} {cs : Array Value} (h : Blk w g t cs) : g < w.heap.size := lt_of_block h
theorem Blk.cell {w : World} {g : Nat} {t : TypeId} {cs : Array Value} (h : Blk w g t cs) (i : Nat) : w.cell? ⟨g, i, none⟩ = cs[i]? := cell_of_row w g i cs t (0, 0) h
theorem Blk.one {w : World} {g : Nat} {t : TypeId} {v : Value} (h : Blk w g t #[v]) : w.cell? ⟨g, 0, none⟩ = some v := cell_of_one h
theorem Blk.free {w : World} {g : Nat} {t : TypeId} {cs : Array Value} (h : Blk w g t cs) (i : Nat) : w.frozen? ⟨g, i, none⟩ = false := by
  unfold Blk at h; simp [World.frozen?, h]
theorem Blk.new (w : World) (t : TypeId) (cs : Array Value) : Blk (w.alloc (.cells cs t)) w.heap.size t cs := heap_alloc_new w _
theorem Blk.alloc {w : World} {g : Nat} {t : TypeId} {cs : Array Value} (h : Blk w g t cs) (o : Obj) : Blk (w.alloc o) g t cs := (Below.heap_alloc w o g h.lt).trans h
theorem Blk.drew {w : World} {g : Nat} {t : TypeId} {cs : Array Value} (h : Blk w g t cs) : Blk w.drew g t cs := h
theorem Blk.drewN {w : World} {g : Nat} {t : TypeId} {cs : Array Value} (h : Blk w g t cs) (n : Nat) : Blk (w.drewN n) g t cs := h
theorem Blk.set {w : World} {g : Nat} {t : TypeId} {cs : Array Value} (h : Blk w g t cs) (i : Nat) (u : Value) : Blk (w.setCell ⟨g, i, none⟩ u) g t (cs.setIfInBounds i u) := by
  unfold Blk at h ⊢
  simp [World.setCell, Array.getElem?_modify, h]
theorem Blk.far {w : World} {g : Nat} {t : TypeId} {cs : Array Value} (h : Blk w g t cs) {b i : Nat} (hp : g ≠ b) (u : Value) : Blk (w.setCell ⟨b, i, none⟩ u) g t cs := (Below.heap_setCell w _ u g hp).trans h
theorem Blk.below {w w' : World} {B g : Nat} {t : TypeId} {cs : Array Value} (h : Blk w g t cs) (hb : Below B w w') (hg : g < B) : Blk w' g t cs := (hb.block g hg).trans h
theorem Blk.grown {w w' : World} {g : Nat} {t : TypeId} {cs : Array Value} {row : Option Nat} (h : Blk w g t cs) (hb : w.grownBy w' row) (hg : some g ≠ row) : Blk w' g t cs := (hb.block g h.lt hg).trans h

/-- The cells of a row of integers. -/
def ints (xs : List Int) : Array Value := (xs.map (Value.int .i64)).toArray
theorem Blk.rdI {w : World} {g : Nat} {t : TypeId} {xs : List Int} (h : Blk w g t (ints xs)) {B : Nat} (hB : g < B) : RdI w B (some ⟨g, 0, none⟩) xs.length xs :=
  ⟨by simp, fun k hk => ⟨g, 0, rfl, hB, fun j hj => by rw [Nat.zero_add, h.cell j]; simp [ints] at hj ⊢⟩⟩
theorem ints_set (xs : List Int) (i : Nat) (x : Int) : (ints xs).setIfInBounds i (.int .i64 x) = ints (xs.set i x) := by
  simp [ints, List.map_set]
theorem below_drewN {B : Nat} {a w : World} (h : Below B a w) (n : Nat) : Below B a (w.drewN n) := ⟨h.os, h.tape, h.output, h.size, h.block⟩
end Go.Proofs.YtdapflgfocideaaGreatDoor
namespace Go.Proofs.YtdapflgfocideaaGreatDoor
open Go Go.RowKit
theorem quiet_left {P : Program} {f : FuncId} {args : Array Value} {w : World} {n : Nat} {v : Value} (h : Calls P f args (w.drewN n) fun e w' => e = .returned v ∧ w.drewN n = w') : Calls P f args (w.drewN n) fun e w'' => e = .returned v ∧ ∃ m, w'' = w.drewN m :=
  h.mono fun _ _ ⟨he, hm⟩ => ⟨he, n, hm.symm⟩
theorem quiet_more {P : Program} {f : FuncId} {args : Array Value} {w : World} {a n : Nat} {v : Value} (h : Calls P f args (w.drewN (a + n)) fun e w' => e = .returned v ∧ w.drewN (a + n) = w') :
    Calls P f args (w.drewN (a + n)) fun e w'' => e = .returned v ∧ ∃ m, w'' = w.drewN (a + m) :=
  h.mono fun _ _ ⟨he, hm⟩ => ⟨he, n, hm.symm⟩
end Go.Proofs.YtdapflgfocideaaGreatDoor
namespace Go.Proofs.YtdapflgfocideaaGreatDoor
open Go Go.RowKit
theorem Rd.drewN {w : World} {B n : Nat} {A : Option Addr} {xs : List Value} (h : Rd w B A n xs) (k : Nat) : Rd (w.drewN k) B A n xs := h.keep fun _ _ => rfl
theorem RdI.drewN {w : World} {B n : Nat} {A : Option Addr} {xs : List Int} (h : RdI w B A n xs) (k : Nat) : RdI (w.drewN k) B A n xs := Rd.drewN h k
theorem RdI.below {w w' : World} {B n : Nat} {A : Option Addr} {xs : List Int} (h : RdI w B A n xs) (hb : Below B w w') : RdI w' B A n xs := Rd.below h hb
theorem RdI.more {w : World} {B B' n : Nat} {A : Option Addr} {xs : List Int} (h : RdI w B A n xs) (hB : B ≤ B') : RdI w B' A n xs := Rd.more h hB
theorem RdI.up {w w' : World} {n : Nat} {A : Option Addr} {xs : List Int} (h : RdI w w.heap.size A n xs) (hb : Below w.heap.size w w') : RdI w' w'.heap.size A n xs := (h.below hb).more hb.size
end Go.Proofs.YtdapflgfocideaaGreatDoor
namespace Go.Proofs.YtdapflgfocideaaGreatDoor
open Go Go.RowKit
/-- A row of the call's own, of at least one element, as a slice that reads. -/
theorem own_rd {w : World} {base : Nat} {e : TypeId} {v : Value} {n : Nat} {xs : List Value} (h : w.ownsRow base e 1 v n xs) (hn : 0 < n) :
    ∃ g cap, v = .slice (some ⟨g, 0, none⟩) n cap ∧ n ≤ cap ∧ base ≤ g ∧ g < w.heap.size ∧ Rd w w.heap.size (some ⟨g, 0, none⟩) n xs := by
  rcases h.2 with ⟨_, h0⟩ | ⟨g, cap, cur, rfl, hb, hg, h1, h2, h3, h4⟩
  · omega
  · have hlt := lt_of_block hg
    have hl : xs.length = n := by have := h.1; omega
    refine ⟨g, cap, rfl, h1, hb, hlt, hl, fun k hk => ⟨g, 0, rfl, hlt, fun j hj => ?_⟩⟩
    rw [Nat.zero_add, cell_of_row w g j cur e (0, 0) hg]
    have : xs[j]? = cur[j]? := by rw [← h4, List.getElem?_take, if_pos (by omega)]; simp
    rw [← this, List.getElem?_eq_getElem hj]
/-- .. of whatever length: nil, or a slice that reads. -/
theorem own_rd0 {w : World} {base : Nat} {e : TypeId} {v : Value} {n : Nat} {xs : List Value} (h : w.ownsRow base e 1 v n xs) :
    ∃ A cap, v = .slice A n cap ∧ n ≤ cap ∧ Rd w w.heap.size A n xs ∧ (∀ g, v.ownBlock = some g → base ≤ g ∧ g < w.heap.size) := by
  have hlt := h.lt
  rcases Nat.eq_zero_or_pos n with h0 | h0
  · subst h0
    obtain rfl : xs = [] := List.eq_nil_of_length_eq_zero (by have := h.1; omega)
    rcases h.2 with ⟨rfl, _⟩ | ⟨g, cap, cur, rfl, hb, hg, h1, h2, h3, h4⟩
    · exact ⟨none, 0, rfl, Nat.le_refl _, Rd.nil _ _ _, hlt⟩
    · exact ⟨_, cap, rfl, h1, Rd.nil _ _ _, hlt⟩
  · obtain ⟨g, cap, rfl, h1, h2, h3, h4⟩ := own_rd h h0
    exact ⟨_, _, rfl, h1, h4, hlt⟩
end Go.Proofs.YtdapflgfocideaaGreatDoor
