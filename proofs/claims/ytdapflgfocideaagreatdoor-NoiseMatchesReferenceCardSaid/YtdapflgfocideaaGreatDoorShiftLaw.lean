/- Plain laws on sums: shifted, mirrored and turned tapes. -/
import Derived.Test.YtdapflgfocideaaGreatDoorCaseLaw
namespace Go.Proofs.YtdapflgfocideaaGreatDoor

theorem sum_reverse' (l : List Nat) : l.reverse.sum = l.sum := by
  induction l with
  | nil => rfl
  | cons a l ih => rw [List.reverse_cons, List.sum_append, ih, List.sum_cons]; simp; omega
theorem cnt_reverse (t : List Int) (n : Nat) : cnt t.reverse n = cnt t n := by
  induction n with
  | zero => rfl
  | succ n ih =>
    funext v
    show (t.reverse.map fun o => cnt t.reverse n (v - o)).sum = (t.map fun o => cnt t n (v - o)).sum
    rw [List.map_reverse, sum_reverse', ih]
theorem cnt_shift (t : List Int) (s : Int) (n : Nat) : ∀ v, cnt (t.map (· + s)) n v = cnt t n (v - n * s) := by
  induction n with
  | zero => intro v; show _ = if _ then _ else _; simp [cnt]
  | succ n ih =>
    intro v
    show ((t.map (· + s)).map fun o => cnt (t.map (· + s)) n (v - o)).sum = (t.map fun o => cnt t n (v - ((n + 1 : Nat) : Int) * s - o)).sum
    rw [List.map_map]
    congr 1
    apply List.map_congr_left
    intro o _
    show cnt (t.map (· + s)) n (v - (o + s)) = _
    rw [ih]
    congr 1
    have : ((n + 1 : Nat) : Int) * s = n * s + s := by rw [Int.natCast_add, Int.add_mul]; simp
    omega
theorem cnt_neg (t : List Int) (n : Nat) : ∀ v, cnt (t.map fun o => -o) n v = cnt t n (-v) := by
  induction n with
  | zero =>
    intro v
    show (if v = 0 then 1 else 0) = if -v = 0 then 1 else 0
    by_cases h : v = 0
    · subst h; rfl
    · rw [if_neg h, if_neg (by omega)]
  | succ n ih =>
    intro v
    show ((t.map fun o => -o).map fun o => cnt (t.map fun o => -o) n (v - o)).sum = (t.map fun o => cnt t n (-v - o)).sum
    rw [List.map_map]
    congr 1
    apply List.map_congr_left
    intro o _
    show cnt (t.map fun o => -o) n (v - -o) = _
    rw [ih]
    congr 1
    omega
theorem tbl_shift {L : List (Int × Nat)} {f : Int → Nat} (h : IsTbl L f) (d : Int) : IsTbl (L.map fun p => (p.1 + d, p.2)) (fun v => f (v - d)) := by
  refine ⟨?_, fun x c => ?_⟩
  · rw [List.pairwise_map]
    exact h.1.imp fun {a b} hab => by show a.1 + d < b.1 + d; omega
  · rw [List.mem_map]
    constructor
    · rintro ⟨⟨y, e⟩, hp, he⟩
      have := (h.2 y e).1 hp
      cases he
      show f (y + d - d) = e ∧ _
      rw [show y + d - d = y by omega]
      exact this
    · rintro ⟨h1, h2⟩
      exact ⟨(x - d, c), (h.2 _ _).2 ⟨h1, h2⟩, by simp⟩
theorem tbl_neg {L : List (Int × Nat)} {f : Int → Nat} (h : IsTbl L f) : IsTbl (L.map fun p => (-p.1, p.2)).reverse (fun v => f (-v)) := by
  refine ⟨?_, fun x c => ?_⟩
  · rw [List.pairwise_reverse, List.pairwise_map]
    exact h.1.imp fun {a b} hab => by show -b.1 < -a.1; omega
  · rw [List.mem_reverse, List.mem_map]
    constructor
    · rintro ⟨⟨y, e⟩, hp, he⟩
      have := (h.2 y e).1 hp
      cases he
      show f (- -y) = e ∧ _
      rw [Int.neg_neg]
      exact this
    · rintro ⟨h1, h2⟩
      exact ⟨(-x, c), (h.2 _ _).2 ⟨h1, h2⟩, by simp⟩
end Go.Proofs.YtdapflgfocideaaGreatDoor
