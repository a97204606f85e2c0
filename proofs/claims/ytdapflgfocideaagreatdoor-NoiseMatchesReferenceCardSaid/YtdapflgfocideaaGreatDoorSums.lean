/- Plain facts on the sums of n offsets, as a list of all cases. -/
import Derived.Test.YtdapflgfocideaaGreatDoorConv
namespace Go.Proofs.YtdapflgfocideaaGreatDoor

/-- All sums of n offsets, a case each. -/
def sums (t : List Int) : Nat → List Int
  | 0 => [0]
  | n + 1 => t.flatMap fun o => (sums t n).map (· + o)
def cntL (S : List Int) (v : Int) : Nat := S.count v

theorem count_map_add (S : List Int) (o v : Int) : (S.map (· + o)).count v = S.count (v - o) := by
  induction S with
  | nil => rfl
  | cons x S ih =>
    simp only [List.map_cons, List.count_cons, ih]
    congr 1
    have : (x + o == v) = (x == v - o) := by rw [Bool.eq_iff_iff]; simp; omega
    rw [this]
theorem count_flatMap' (t : List Int) (g : Int → List Int) (v : Int) : (t.flatMap g).count v = (t.map fun o => (g o).count v).sum := by
  induction t with
  | nil => rfl
  | cons o t ih => simp only [List.flatMap_cons, List.count_append, List.map_cons, List.sum_cons, ih]
theorem sums_conv (t : List Int) (n : Nat) : cntL (sums t (n + 1)) = conv t (cntL (sums t n)) := by
  funext v
  show (t.flatMap fun o => (sums t n).map (· + o)).count v = (t.map fun o => (sums t n).count (v - o)).sum
  rw [count_flatMap']
  congr 1
  apply List.map_congr_left
  intro o _
  exact count_map_add _ _ _
theorem sums_zero (t : List Int) (v : Int) : cntL (sums t 0) v = if v = 0 then 1 else 0 := by
  unfold cntL sums
  rw [List.count_cons]
  by_cases h : v = 0
  · subst h; simp
  · have : ¬ (0 = v) := fun e => h e.symm
    simp [h, this]
theorem sums_length (t : List Int) (n : Nat) : (sums t n).length = t.length ^ n := by
  induction n with
  | zero => rfl
  | succ n ih =>
    have gen : ∀ s : List Int, (s.flatMap fun o => (sums t n).map (· + o)).length = s.length * t.length ^ n := by
      intro s
      induction s with
      | nil => simp
      | cons o s ihs => simp only [List.flatMap_cons, List.length_append, List.length_map, ihs, ih, List.length_cons, Nat.add_mul, Nat.one_mul]; omega
    show (t.flatMap _).length = _
    rw [gen, Nat.pow_succ, Nat.mul_comm]
theorem sums_bd (t : List Int) (lo hi : Int) (h : ∀ o ∈ t, lo ≤ o ∧ o ≤ hi) (n : Nat) : ∀ v ∈ sums t n, n * lo ≤ v ∧ v ≤ n * hi := by
  induction n with
  | zero => intro v hv; simp [sums] at hv; subst hv; simp
  | succ n ih =>
    intro v hv
    simp only [sums, List.mem_flatMap, List.mem_map] at hv
    obtain ⟨o, ho, y, hy, rfl⟩ := hv
    have h1 := ih y hy
    have h2 := h o ho
    have e1 : ((n + 1 : Nat) : Int) * lo = n * lo + lo := by rw [Int.natCast_add, Int.add_mul]; simp
    have e2 : ((n + 1 : Nat) : Int) * hi = n * hi + hi := by rw [Int.natCast_add, Int.add_mul]; simp
    omega
theorem sums_mul (t : List Int) (o : Int) (h : o ∈ t) (n : Nat) : (n : Int) * o ∈ sums t n := by
  induction n with
  | zero => simp [sums]
  | succ n ih =>
    simp only [sums, List.mem_flatMap, List.mem_map]
    exact ⟨o, h, _, ih, by rw [Int.natCast_add, Int.add_mul]; simp⟩

theorem sum_zero (m : List Int) : (m.map fun _ => (0 : Nat)).sum = 0 := by
  induction m with
  | nil => rfl
  | cons _ m im => simp only [List.map_cons, List.sum_cons, im]
theorem sum_add (m : List Int) (f g : Int → Nat) : (m.map fun x => f x + g x).sum = (m.map f).sum + (m.map g).sum := by
  induction m with
  | nil => rfl
  | cons _ m im => simp only [List.map_cons, List.sum_cons, im]; omega
/-- The sum of the counts over a list that has every element once. -/
theorem sum_counts (S : List Int) : ∀ ks : List Int, ks.Nodup → (∀ x ∈ S, x ∈ ks) → (ks.map (S.count ·)).sum = S.length := by
  induction S with
  | nil =>
    intro ks _ _
    exact sum_zero ks
  | cons a S ih =>
    intro ks hn hm
    have h1 := ih ks hn (fun x hx => hm x (by simp [hx]))
    have ha := hm a (by simp)
    have h2 : (ks.map ((a :: S).count ·)).sum = (ks.map (S.count ·)).sum + (ks.map fun x => if a = x then 1 else 0).sum := by
      rw [← sum_add]
      congr 1
      apply List.map_congr_left
      intro k _
      rw [List.count_cons]
      by_cases e : a = k <;> simp [e]
    have h3 : ∀ l : List Int, l.Nodup → a ∈ l → (l.map fun x => if a = x then 1 else 0).sum = 1 := by
      intro l
      induction l with
      | nil => intro _ h; simp at h
      | cons k l ihl =>
        intro hn hm
        simp only [List.map_cons, List.sum_cons]
        obtain ⟨hk, hl⟩ := List.nodup_cons.1 hn
        by_cases e : a = k
        · subst e
          have : (l.map fun x => if a = x then 1 else 0) = l.map fun _ => 0 := by
            apply List.map_congr_left
            intro x hx
            rw [if_neg (fun e : a = x => hk (by rw [e]; exact hx))]
          rw [this]
          rw [sum_zero]; simp
        · rw [if_neg e, ihl hl (by rcases List.mem_cons.1 hm with h | h; exact absurd h e; exact h)]
    rw [h2, h1, h3 ks hn ha]; rfl
end Go.Proofs.YtdapflgfocideaaGreatDoor
