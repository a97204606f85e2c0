/- Three rows of the call's own that grow side by side. -/
import Derived.Test.YtdapflgfocideaaGreatDoorShiftLaw
import Derived.Test.YtdapflgfocideaaGreatDoorConvs
import Derived.Maps.AppendAt
namespace Go.Proofs.YtdapflgfocideaaGreatDoor
open Go Go.RowKit Go.Deep

/-- Three rows, each in a block of its own. -/
structure R3 (w : World) (base : Nat) (v1 : Value) (n1 : Nat) (l1 : List Value) (v2 : Value) (n2 : Nat) (l2 : List Value) (v3 : Value) (n3 : Nat) (l3 : List Value) : Prop where
  o1 : w.ownsRow base 3 1 v1 n1 l1
  o2 : w.ownsRow base 3 1 v2 n2 l2
  o3 : w.ownsRow base 3 1 v3 n3 l3
  d12 : ∀ q, v1.ownBlock = some q → v2.ownBlock ≠ some q
  d13 : ∀ q, v1.ownBlock = some q → v3.ownBlock ≠ some q
  d23 : ∀ q, v2.ownBlock = some q → v3.ownBlock ≠ some q

theorem apart_of {v u : Value} (h : ∀ q, v.ownBlock = some q → u.ownBlock ≠ some q) : u.ownBlock = none ∨ u.ownBlock ≠ v.ownBlock := by
  cases hu : u.ownBlock with
  | none => exact .inl rfl
  | some q => exact .inr fun e => h q e.symm hu
theorem apart_new {w : World} {base n : Nat} {v v' u : Value} {xs : List Value} (h : ∀ q, v.ownBlock = some q → u.ownBlock ≠ some q) (hb : v'.ownBlock = v.ownBlock ∨ v'.ownBlock = some w.heap.size) (ho : w.ownsRow base 3 1 u n xs) : ∀ q, v'.ownBlock = some q → u.ownBlock ≠ some q := by
  intro q hq
  rcases hb with hb | hb
  · exact h q (hb ▸ hq)
  · intro hu
    have h1 := (ho.lt q hu).2
    rw [hb] at hq
    cases hq
    omega
theorem apart_swap {v u : Value} (h : ∀ q, v.ownBlock = some q → u.ownBlock ≠ some q) : ∀ q, u.ownBlock = some q → v.ownBlock ≠ some q := fun q hq e => h q e hq
theorem R3.alloc {w : World} {base : Nat} {v1 v2 v3 : Value} {n1 n2 n3 : Nat} {l1 l2 l3 : List Value} (h : R3 w base v1 n1 l1 v2 n2 l2 v3 n3 l3) (o : Obj) : R3 (w.alloc o) base v1 n1 l1 v2 n2 l2 v3 n3 l3 :=
  ⟨h.o1.alloc _, h.o2.alloc _, h.o3.alloc _, h.d12, h.d13, h.d23⟩
/-- The first row grows; then it is the last. -/
theorem R3.step {w w' : World} {base : Nat} {v1 v2 v3 v' : Value} {n1 n2 n3 n' : Nat} {l1 l2 l3 l' : List Value} (h : R3 w base v1 n1 l1 v2 n2 l2 v3 n3 l3) (ho : w'.ownsRow base 3 1 v' n' l') (hg : w.grownBy w' v1.ownBlock) (hd : v'.ownBlock = v1.ownBlock ∨ v'.ownBlock = some w.heap.size) :
    R3 w' base v2 n2 l2 v3 n3 l3 v' n' l' :=
  ⟨h.o2.kept hg (apart_of h.d12), h.o3.kept hg (apart_of h.d13), ho, h.d23, apart_swap (apart_new h.d12 hd h.o2), apart_swap (apart_new h.d13 hd h.o3)⟩
end Go.Proofs.YtdapflgfocideaaGreatDoor
