/- Contracts of limbs.add, sub, times, compare at numbers below 10^18. -/
import Derived.Test.YtdapflgfocideaaGreatDoorCollect
namespace Go.Proofs.YtdapflgfocideaaGreatDoor
open Go Go.RowKit Go.Deep

/-- The limbs of a number below 10^18. -/
def lm (m : Nat) : List Int := if m = 0 then [] else if m < 1000000000 then [(m : Int)] else [((m % 1000000000 : Nat) : Int), ((m / 1000000000 : Nat) : Int)]
theorem lm_length_le (m : Nat) : (lm m).length ≤ 2 := by unfold lm; split; simp; split <;> simp
/-- A slice of limbs is returned, that reads as m. -/
def RetL (w : World) (m : Nat) (e : Ending) (w' : World) : Prop := ∃ A n c, e = .returned (.slice A n c) ∧ (n ≤ c ∧ ∀ p, A = some p → w.heap.size ≤ p.block) ∧ RdI w' w'.heap.size A n (lm m) ∧ Below w.heap.size w w'

theorem getD_bd (m i : Nat) : 0 ≤ (lm m).getD i 0 ∧ (lm m).getD i 0 ≤ m := by
  unfold lm
  split
  · simp
  · split
    · rcases i with _ | i <;> simp
    · rcases i with _ | _ | i <;> simp <;> omega

set_option maxHeartbeats 400000 in
theorem addAt_any (w : World) (B bx bz : Nat) (A1 A2 : Option Addr) (n1 c1 n2 c2 i a b : Nat) (hb1 : Blk w bx 72 #[.slice A1 n1 c1]) (hb2 : Blk w bz 72 #[.slice A2 n2 c2])
    (h1 : RdI w B A1 n1 (lm a)) (h2 : RdI w B A2 n2 (lm b)) (hi : i ≤ 1000000) (ha : a < 1000000000000000000) (hb : b < 1000000000000000000) :
    Calls Tryz.prog 60 #[.int .i64 i, .pointer (some ⟨bx, 0, none⟩), .pointer (some ⟨bz, 0, none⟩)] w fun e w' => e = .returned (.int .i64 ((lm a).getD i 0 + (lm b).getD i 0)) ∧ ∃ m, w' = w.drewN m := by
  have n1l : n1 ≤ 1000000 := by have := h1.length; have := lm_length_le a; omega
  have n2l : n2 ≤ 1000000 := by have := h2.length; have := lm_length_le b; omega
  obtain ⟨x, hx⟩ : ∃ x, x = (lm a).getD i 0 := ⟨_, rfl⟩
  obtain ⟨y, hy⟩ : ∃ y, y = (lm b).getD i 0 := ⟨_, rfl⟩
  have hx0 := getD_bd a i
  have hy0 := getD_bd b i
  rw [← hx] at hx0
  rw [← hy] at hy0
  rw [← hx, ← hy]
  have k1 : ∀ W, W = w.drewN 0 ∨ True → True := fun _ _ => trivial
  have hs : IntKind.i64.wrap (x + y) = x + y := IntWalk.i64_in _ (by omega)
  have C1 := Lib.hid (fun m => limb_any (w.drewN m) B A1 n1 c1 (lm a) i (h1.drewN m) n1l hi)
  have C2 := Lib.hid (fun m => limb_any (w.drewN m) B A2 n2 c2 (lm b) i (h2.drewN m) n2l hi)
  rw [← hx] at C1
  rw [← hy] at C2
  have d1 := hb1.one
  have d2 := hb2.one
  clear h1 h2 hx hy hx0 hy0 k1 hb1 hb2 ha hb
  go_enter Tryz.func60, Tryz.ntmps60
  go_wp2_with fail
  go_quiet (first | (go_at_call 61; with_reducible exact quiet_left (C1.out _)) | (go_at_call 61; with_reducible exact quiet_left (C2.out _)))
  go_wp2
  go_ret
  exact ⟨rfl, _, rfl⟩


theorem trim_outs (v : Nat → Int) (n m : Nat) (h0 : v 0 = m) (h1 : v 1 = 0) (hn : n ≤ 2) (hn0 : n = 0 → m = 0) (hn1 : n = 1 → m < 1000000000) (hm : m < 1000000000000000000) :
    (outs v n n).take (trimLen (outs v n n) n) = lm m ∧ trimLen (outs v n n) n = (lm m).length := by
  have e0 : outAt v 0 = ((m % 1000000000 : Nat) : Int) := by simp [outAt, carr, h0]
  have e1 : outAt v 1 = ((m / 1000000000 : Nat) : Int) := by simp [outAt, carr, h0, h1]; omega
  rcases n with _ | _ | _ | n
  · obtain rfl := hn0 rfl
    simp [outs, trimLen, lm]
  · have := hn1 rfl
    have e2 : m % 1000000000 = m := by omega
    have ho : outs v 1 1 = [(m : Int)] := by simp [outs, e0, List.range_succ]; omega
    simp only [Nat.zero_add, ho, trimLen, lm]
    by_cases hz : m = 0
    · simp [hz]
    · have : ¬ ((m : Int) = 0) := by omega
      simp [hz, this, hn1]
  · have ho : outs v 2 2 = [((m % 1000000000 : Nat) : Int), ((m / 1000000000 : Nat) : Int)] := by simp [outs, e0, e1, List.range_succ]
    simp only [Nat.zero_add, Nat.reduceAdd, ho, trimLen, lm]
    by_cases hz : m = 0
    · simp [hz]
    · by_cases hl : m < 1000000000
      · have e2 : m % 1000000000 = m := by omega
        have e3 : m / 1000000000 = 0 := by omega
        have : ¬ ((m : Int) = 0) := by omega
        simp [hz, hl, e2, e3, this]
      · have e3 : m / 1000000000 ≠ 0 := by omega
        have : ¬ (((m / 1000000000 : Nat) : Int) = 0) := by omega
        simp only [List.getD_cons_succ, List.getD_cons_zero, this, if_false, hz, hl]
        simp
  · omega

theorem Blk.rdTake {w : World} {g : Nat} {t : TypeId} {xs : List Int} (h : Blk w g t (ints xs)) {B : Nat} (hB : g < B) (k : Nat) (hk : k ≤ xs.length) : RdI w B (some ⟨g, 0, none⟩) k (xs.take k) :=
  ⟨by simp; omega, fun j hj => ⟨g, 0, rfl, hB, fun i hi => by rw [Nat.zero_add, h.cell i]; simp [ints] at hi ⊢⟩⟩

/-- What collect hands back, as limbs. -/
theorem retL_mk {w w0 w' : World} {g n m : Nat} {v : Nat → Int} (h0 : v 0 = m) (h1 : v 1 = 0) (hn : n ≤ 2) (hn0 : n = 0 → m = 0) (hn1 : n = 1 → m < 1000000000) (hm : m < 1000000000000000000)
    (hb : Blk w' g 3 (ints (outs v n n))) (hg : w0.heap.size ≤ g) (hw : Below w.heap.size w w0) (hw' : Below w0.heap.size w0 w') : RetL w m (.returned (.slice (some ⟨g, 0, none⟩) (trimLen (outs v n n) n) n)) w' := by
  obtain ⟨t1, t2⟩ := trim_outs v n m h0 h1 hn hn0 hn1 hm
  have hle := trimLen_le (outs v n n) n
  refine ⟨_, _, _, rfl, ⟨hle, fun p hp => by cases hp; exact Nat.le_trans hw.size hg⟩, ?_, hw.trans (hw'.mono hw.size)⟩
  have := hb.rdTake hb.lt (trimLen (outs v n n) n) (by rw [outs_length]; exact hle)
  rwa [t1] at this

theorem below2 (w : World) (x y : Value) (s t : TypeId) : Below w.heap.size w ((w.alloc (.cells #[x] s)).alloc (.cells #[y] t)) := ((Below.refl _ _).alloc (Nat.le_refl _) _).alloc (by simp) _

theorem lm_len (m : Nat) : (lm m).length = if m = 0 then 0 else if m < 1000000000 then 1 else 2 := by
  unfold lm; split; rfl; split <;> rfl
theorem lm_len1 (m : Nat) (h : m < 1000000000) : (lm m).length ≤ 1 := by rw [lm_len]; split; omega; omega
theorem lm_get0 (m : Nat) (h : m < 1000000000) : (lm m).getD 0 0 = m := by
  unfold lm; split
  · simp; omega
  · simp
theorem lm_get1 (m : Nat) (h : m < 1000000000) : (lm m).getD 1 0 = 0 := by
  unfold lm; split
  · simp
  · simp

set_option maxHeartbeats 400000 in
theorem add_any (w : World) (A1 A2 : Option Addr) (n1 c1 n2 c2 a b : Nat) (h1 : RdI w w.heap.size A1 n1 (lm a)) (h2 : RdI w w.heap.size A2 n2 (lm b)) (hab : a + b < 1000000000) :
    Calls Tryz.prog 40 #[.slice A1 n1 c1, .slice A2 n2 c2] w (RetL w (a + b)) := by
  have L1 := h1.length
  have L2 := h2.length
  have n1l : n1 ≤ 1000000 := by have := lm_length_le a; omega
  have n2l : n2 ≤ 1000000 := by have := lm_length_le b; omega
  have hall : ∀ n : Nat, n ≤ 2 → (n = 0 → a + b = 0) → Calls Tryz.prog 59 #[.int .i64 n, .func (.func 60) #[] #[.pointer (some ⟨w.heap.size, 0, none⟩), .pointer (some ⟨w.heap.size + 1, 0, none⟩)]] ((w.alloc (.cells #[.slice A1 n1 c1] 72)).alloc (.cells #[.slice A2 n2 c2] 72)) (RetL w (a + b)) := by
    intro n hn hn0
    refine (collect60 n _ _ (fun i => (lm a).getD i 0 + (lm b).getD i 0) _ (by omega) (fun i => ?_) (fun i w' hi hb => ?_)).mono ?_
    · have := getD_bd a i; have := getD_bd b i; omega
    · have b1 := ((Blk.new w 72 #[.slice A1 n1 c1]).alloc (.cells #[.slice A2 n2 c2] 72)).below hb (by simp; omega)
      have b2 := (Blk.new (w.alloc (.cells #[.slice A1 n1 c1] 72)) 72 #[.slice A2 n2 c2]).below hb (by simp)
      rw [World.size_alloc] at b2
      have hb' := (below2 w (.slice A1 n1 c1) (.slice A2 n2 c2) 72 72).trans (hb.mono (by simp; omega))
      exact addAt_any w' w.heap.size _ _ A1 A2 n1 c1 n2 c2 i a b b1 b2 (h1.below hb') (h2.below hb') (by omega) (by omega) (by omega)
    · rintro e w' ⟨g, rfl, hb, hw, hg⟩
      exact retL_mk (by rw [lm_get0 _ (by omega), lm_get0 _ (by omega)]; omega) (by rw [lm_get1 _ (by omega), lm_get1 _ (by omega)]; rfl) hn hn0 (fun _ => hab) (by omega) hb hg (below2 w _ _ _ _) hw
  have HA := Lib.hid hall
  have hn1 : n1 ≤ 1 := by rw [← L1, lm_len]; split; omega; rw [if_pos (by omega)]; omega
  have hn2 : n2 ≤ 1 := by rw [← L2, lm_len]; split; omega; rw [if_pos (by omega)]; omega
  clear h1 h2 L1 L2 hall hab
  go_enter Tryz.func40, Tryz.ntmps40
  go_wp2_with fail
  · rw [show ((n2 : Int) + 1) = ((n2 + 1 : Nat) : Int) from rfl]
    refine (HA.out (n2 + 1) (by omega) (by omega)).mono ?_
    rintro e w' ⟨A, n, c, rfl, hc, hr, hb⟩
    go_wp2_with fail
    go_ret
    exact ⟨A, n, c, rfl, hc, hr, hb⟩
  · rw [show ((n1 : Int) + 1) = ((n1 + 1 : Nat) : Int) from rfl]
    refine (HA.out (n1 + 1) (by omega) (by omega)).mono ?_
    rintro e w' ⟨A, n, c, rfl, hc, hr, hb⟩
    go_wp2_with fail
    go_ret
    exact ⟨A, n, c, rfl, hc, hr, hb⟩

theorem getD_small (m i : Nat) (h : m < 1000000000) : 0 ≤ (lm m).getD i 0 ∧ (lm m).getD i 0 < 1000000000 := by have := getD_bd m i; omega

set_option maxHeartbeats 400000 in
theorem timesAt_any (w : World) (B bq bx : Nat) (A1 : Option Addr) (n1 c1 i a q : Nat) (hb1 : Blk w bq 3 #[.int .i64 (q : Int)]) (hb2 : Blk w bx 72 #[.slice A1 n1 c1])
    (h1 : RdI w B A1 n1 (lm a)) (hi : i ≤ 1000000) (ha : a < 1000000000) (hq : q < 1000000000) :
    Calls Tryz.prog 117 #[.int .i64 i, .pointer (some ⟨bq, 0, none⟩), .pointer (some ⟨bx, 0, none⟩)] w fun e w' => e = .returned (.int .i64 ((q : Int) * (lm a).getD i 0)) ∧ ∃ m, w' = w.drewN m := by
  have n1l : n1 ≤ 1000000 := by have := h1.length; have := lm_length_le a; omega
  obtain ⟨x, hx⟩ : ∃ x, x = (lm a).getD i 0 := ⟨_, rfl⟩
  have hx0 := getD_small a i ha
  rw [← hx] at hx0
  rw [← hx]
  have hs : IntKind.i64.wrap ((q : Int) * x) = (q : Int) * x := by
    have hp : (q : Int) * x ≤ 1000000000 * 1000000000 := Int.mul_le_mul (by omega) (by omega) hx0.1 (by omega)
    have hp2 : 0 ≤ (q : Int) * x := Int.mul_nonneg (by omega) hx0.1
    exact IntWalk.i64_in _ (by omega)
  have C1 := Lib.hid (fun m => limb_any (w.drewN m) B A1 n1 c1 (lm a) i (h1.drewN m) n1l hi)
  rw [← hx] at C1
  have d1 := hb1.one
  have d2 := hb2.one
  clear h1 hx hx0 hb1 hb2 ha hq
  go_enter Tryz.func117, Tryz.ntmps117
  go_wp2_with fail
  go_quiet ((go_at_call 61; with_reducible exact quiet_left (C1.out _)))
  go_wp2
  go_ret
  exact ⟨by first | rfl | rw [hs], _, rfl⟩

set_option maxHeartbeats 400000 in
theorem times_any (w : World) (A1 : Option Addr) (n1 c1 a q : Nat) (h1 : RdI w w.heap.size A1 n1 (lm a)) (ha : a < 1000000000) (hq : q < 1000000000) :
    Calls Tryz.prog 85 #[.slice A1 n1 c1, .int .i64 q] w (RetL w (q * a)) := by
  have L1 := h1.length
  have n1l : n1 ≤ 1000000 := by have := lm_length_le a; omega
  have hqa : q * a < 1000000000000000000 := Nat.lt_of_le_of_lt (Nat.mul_le_mul (Nat.le_of_lt_succ (Nat.lt_succ_of_lt hq)) (show a ≤ 999999999 by omega)) (by omega)
  have hn1 : n1 ≤ 1 := by rw [← L1]; exact lm_len1 a ha
  have hz : n1 + 1 = 1 → q * a < 1000000000 := by
    intro h
    have : n1 = 0 := by omega
    rw [this, lm_len] at L1
    by_cases h0 : a = 0
    · simp [h0]
    · rw [if_neg h0, if_pos ha] at L1; omega
  have hall : Calls Tryz.prog 59 #[.int .i64 ((n1 + 1 : Nat) : Int), .func (.func 117) #[] #[.pointer (some ⟨w.heap.size + 1, 0, none⟩), .pointer (some ⟨w.heap.size, 0, none⟩)]] ((w.alloc (.cells #[.slice A1 n1 c1] 72)).alloc (.cells #[.int .i64 q] 3)) (RetL w (q * a)) := by
    refine (collect117 (n1 + 1) _ _ (fun i => (q : Int) * (lm a).getD i 0) _ (by omega) (fun i => ?_) (fun i w' hi hb => ?_)).mono ?_
    · have hx0 := getD_small a i ha
      have hp : (q : Int) * (lm a).getD i 0 ≤ 1000000000 * 1000000000 := Int.mul_le_mul (by omega) (by omega) hx0.1 (by omega)
      have hp2 : 0 ≤ (q : Int) * (lm a).getD i 0 := Int.mul_nonneg (by omega) hx0.1
      show 0 ≤ (q : Int) * (lm a).getD i 0 ∧ (q : Int) * (lm a).getD i 0 ≤ _
      omega
    · have b1 := ((Blk.new w 72 #[.slice A1 n1 c1]).alloc (.cells #[.int .i64 q] 3)).below hb (by simp; omega)
      have b2 := (Blk.new (w.alloc (.cells #[.slice A1 n1 c1] 72)) 3 #[.int .i64 q]).below hb (by simp)
      rw [World.size_alloc] at b2
      have hb' := (below2 w (.slice A1 n1 c1) (.int .i64 q) 72 3).trans (hb.mono (by simp; omega))
      exact timesAt_any w' w.heap.size _ _ A1 n1 c1 i a q b2 b1 (h1.below hb') (by omega) ha hq
    · rintro e w' ⟨g, rfl, hb, hw, hg⟩
      exact retL_mk (by rw [lm_get0 _ ha]; simp) (by rw [lm_get1 _ ha]; simp) (by omega) (by omega) hz hqa hb hg (below2 w _ _ _ _) hw
  have HA := Lib.hid hall
  clear h1 L1 hall ha hq hqa hz
  go_enter Tryz.func85, Tryz.ntmps85
  go_wp2_with fail
  rw [show ((n1 : Int) + 1) = ((n1 + 1 : Nat) : Int) from rfl]
  refine HA.out.mono ?_
  rintro e w' ⟨A, n, c, rfl, hc, hr, hb⟩
  go_wp2_with fail
  go_ret
  exact ⟨A, n, c, rfl, hc, hr, hb⟩

set_option maxHeartbeats 400000 in
theorem subAt_any (w : World) (B bx bz : Nat) (A1 A2 : Option Addr) (n1 c1 n2 c2 i a b : Nat) (hb1 : Blk w bx 72 #[.slice A1 n1 c1]) (hb2 : Blk w bz 72 #[.slice A2 n2 c2])
    (h1 : RdI w B A1 n1 (lm a)) (h2 : RdI w B A2 n2 (lm b)) (hi : i < n1) (ha : a < 1000000000) (hb : b < 1000000000) :
    Calls Tryz.prog 118 #[.int .i64 i, .pointer (some ⟨bx, 0, none⟩), .pointer (some ⟨bz, 0, none⟩)] w fun e w' => e = .returned (.int .i64 ((lm a).getD i 0 - (lm b).getD i 0)) ∧ ∃ m, w' = w.drewN m := by
  have n1l : n1 ≤ 1000000 := by have := h1.length; have := lm_length_le a; omega
  have n2l : n2 ≤ 1000000 := by have := h2.length; have := lm_length_le b; omega
  have hx0 := getD_small a i ha
  have hy0 := getD_small b i hb
  obtain ⟨g, off, x, rfl, _, hc, hx⟩ := h1.at hi
  obtain ⟨y, hy⟩ : ∃ y, y = (lm b).getD i 0 := ⟨_, rfl⟩
  rw [hx.out] at hx0
  rw [← hy] at hy0
  rw [hx.out, ← hy]
  have hs : IntKind.i64.wrap (x - y) = x - y := IntWalk.i64_in _ (by omega)
  have C2 := Lib.hid (fun m => limb_any (w.drewN m) B A2 n2 c2 (lm b) i (h2.drewN m) n2l (by omega))
  rw [← hy] at C2
  have d1 := hb1.one
  have d2 := hb2.one
  have hi2 : (i : Int) < n1 := by omega
  clear h1 h2 hy hx0 hy0 hb1 hb2 ha hb hx
  go_enter Tryz.func118, Tryz.ntmps118
  go_wp2_with fail
  go_quiet ((go_at_call 61; with_reducible exact quiet_left (C2.out _)))
  go_wp2
  go_ret
  exact ⟨by first | rfl | rw [hs], _, rfl⟩

set_option maxHeartbeats 400000 in
theorem sub_any (w : World) (A1 A2 : Option Addr) (n1 c1 n2 c2 a b : Nat) (h1 : RdI w w.heap.size A1 n1 (lm a)) (h2 : RdI w w.heap.size A2 n2 (lm b)) (ha : a < 1000000000) (hba : b ≤ a) :
    Calls Tryz.prog 86 #[.slice A1 n1 c1, .slice A2 n2 c2] w (RetL w (a - b)) := by
  have L1 := h1.length
  have n1l : n1 ≤ 1000000 := by have := lm_length_le a; omega
  have hn1 : n1 ≤ 1 := by rw [← L1]; exact lm_len1 a ha
  have hn0 : n1 = 0 → a - b = 0 := by
    intro h
    rw [h, lm_len] at L1
    by_cases h0 : a = 0
    · omega
    · rw [if_neg h0, if_pos ha] at L1; omega
  have hall : Calls Tryz.prog 59 #[.int .i64 n1, .func (.func 118) #[] #[.pointer (some ⟨w.heap.size, 0, none⟩), .pointer (some ⟨w.heap.size + 1, 0, none⟩)]] ((w.alloc (.cells #[.slice A1 n1 c1] 72)).alloc (.cells #[.slice A2 n2 c2] 72)) (RetL w (a - b)) := by
    refine (collect118 n1 _ _ (fun i => if i = 0 then ((a - b : Nat) : Int) else 0) _ (by omega) (fun i => ?_) (fun i w' hi hb => ?_)).mono ?_
    · split <;> omega
    · obtain rfl : i = 0 := by omega
      have b1 := ((Blk.new w 72 #[.slice A1 n1 c1]).alloc (.cells #[.slice A2 n2 c2] 72)).below hb (by simp; omega)
      have b2 := (Blk.new (w.alloc (.cells #[.slice A1 n1 c1] 72)) 72 #[.slice A2 n2 c2]).below hb (by simp)
      rw [World.size_alloc] at b2
      have hb' := (below2 w (.slice A1 n1 c1) (.slice A2 n2 c2) 72 72).trans (hb.mono (by simp; omega))
      have hc := subAt_any w' w.heap.size _ _ A1 A2 n1 c1 n2 c2 0 a b b1 b2 (h1.below hb') (h2.below hb') hi ha (by omega)
      rw [lm_get0 _ ha, lm_get0 _ (by omega)] at hc
      rw [if_pos rfl, show ((a - b : Nat) : Int) = (a : Int) - b by omega]
      exact hc
    · rintro e w' ⟨g, rfl, hb, hw, hg⟩
      exact retL_mk rfl rfl (by omega) hn0 (fun _ => by omega) (by omega) hb hg (below2 w _ _ _ _) hw
  have HA := Lib.hid hall
  clear h1 h2 L1 hall ha hba hn0
  go_enter Tryz.func86, Tryz.ntmps86
  go_wp2_with fail
  refine HA.out.mono ?_
  rintro e w' ⟨A, n, c, rfl, hc, hr, hb⟩
  go_wp2_with fail
  go_ret
  exact ⟨A, n, c, rfl, hc, hr, hb⟩
end Go.Proofs.YtdapflgfocideaaGreatDoor
