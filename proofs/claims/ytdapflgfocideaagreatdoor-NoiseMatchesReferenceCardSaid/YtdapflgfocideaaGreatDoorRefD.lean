/- Plain facts on digit lists, the greatest place first. -/
import Derived.Test.YtdapflgfocideaaGreatDoorRows3
namespace Go.Proofs.YtdapflgfocideaaGreatDoor
open Go Go.Lib

/-- The byte of a digit. -/
def db (d : Nat) : UInt8 := UInt8.ofNat (48 + d)
/-- The string of a digit list. -/
def bs (L : List Nat) : ByteArray := ⟨(L.map db).toArray⟩
/-- The value of a digit list. -/
def vb (L : List Nat) : Nat := L.foldl (fun a d => 10 * a + d) 0
def Dig (L : List Nat) : Prop := ∀ d ∈ L, d < 10
theorem db_nat {d : Nat} (h : d < 10) : (db d).toNat = 48 + d := u8_digit d h
theorem bs_size (L : List Nat) : (bs L).size = L.length := by
  show ((L.map db).toArray).size = _
  simp
theorem vb_snoc (L : List Nat) (d : Nat) : vb (L ++ [d]) = 10 * vb L + d := by
  unfold vb; rw [List.foldl_append]; rfl
theorem vb_from (L : List Nat) : ∀ a, L.foldl (fun a d => 10 * a + d) a = a * 10 ^ L.length + vb L := by
  induction L with
  | nil => intro a; simp [vb]
  | cons x L ih =>
    intro a
    have h1 : vb (x :: L) = x * 10 ^ L.length + vb L := by
      show (L.foldl (fun a d => 10 * a + d) (10 * 0 + x)) = _
      rw [ih]; simp
    rw [h1]
    show L.foldl (fun a d => 10 * a + d) (10 * a + x) = _
    rw [ih, List.length_cons, Nat.pow_succ, Nat.add_mul]
    have : 10 * a * 10 ^ L.length = a * (10 ^ L.length * 10) := by rw [Nat.mul_comm 10 a, Nat.mul_assoc, Nat.mul_comm 10]
    omega
theorem vb_cons (x : Nat) (L : List Nat) : vb (x :: L) = x * 10 ^ L.length + vb L := by
  show (L.foldl (fun a d => 10 * a + d) (10 * 0 + x)) = _
  rw [vb_from]; simp
theorem vb_lt (L : List Nat) (h : Dig L) : vb L < 10 ^ L.length := by
  induction L with
  | nil => simp [vb]
  | cons x L ih =>
    rw [vb_cons, List.length_cons, Nat.pow_succ]
    have h1 := ih fun d hd => h d (by simp [hd])
    have h2 := h x (by simp)
    have : x * 10 ^ L.length ≤ 9 * 10 ^ L.length := Nat.mul_le_mul_right _ (by omega)
    omega
theorem vb_pos (x : Nat) (L : List Nat) (h : x ≠ 0) : 0 < vb (x :: L) := by
  rw [vb_cons]
  have : 0 < x * 10 ^ L.length := Nat.mul_pos (by omega) (Nat.pow_pos (by omega))
  omega
/-- A digit list with no leading zero is the numeral of its value. -/
theorem dec_vb : ∀ (n : Nat) (L : List Nat), L.length = n → Dig L → (∃ x M, L = x :: M ∧ (x ≠ 0 ∨ M = [])) → decDigits (vb L) = L.map db := by
  intro n
  induction n with
  | zero => intro L hl _ ⟨x, M, e, _⟩; rw [e] at hl; simp at hl
  | succ n ih =>
    intro L hl hd ⟨x, M, e, hx⟩
    rcases List.eq_nil_or_concat M with hM | ⟨M', d, hM⟩
    · subst hM
      subst e
      have h10 := hd x (by simp)
      have : vb [x] = x := by simp [vb]
      rw [this, dec_unfold, if_pos h10]
      rfl
    · rw [List.concat_eq_append] at hM
      subst hM
      have hx0 : x ≠ 0 := by rcases hx with h | h; exact h; simp at h
      have e2 : L = (x :: M') ++ [d] := by rw [e]; rfl
      have hd10 := hd d (by rw [e2]; simp)
      have hpos := vb_pos x M' hx0
      have hlen : (x :: M').length = n := by rw [e2] at hl; simpa using hl
      have h1 := ih (x :: M') hlen (fun y hy => hd y (by rw [e2]; exact List.mem_append_left _ hy)) ⟨x, M', rfl, .inl hx0⟩
      rw [e2, vb_snoc, dec_unfold, if_neg (by omega), show (10 * vb (x :: M') + d) / 10 = vb (x :: M') by omega, show (10 * vb (x :: M') + d) % 10 = d by omega, h1, List.map_append]
      rfl
/-- The digits of a number. -/
def dl (m : Nat) : List Nat := if m < 10 then [m] else dl (m / 10) ++ [m % 10]
theorem dl_unfold (m : Nat) : dl m = if m < 10 then [m] else dl (m / 10) ++ [m % 10] := by rw [dl]
theorem dl_dig (m : Nat) : Dig (dl m) := by
  induction m using Nat.strongRecOn with
  | ind m ih =>
    rw [dl_unfold]
    split
    · intro d hd; simp at hd; omega
    · intro d hd
      rcases List.mem_append.1 hd with h | h
      · exact ih _ (by omega) d h
      · simp at h; omega
theorem dl_vb (m : Nat) : vb (dl m) = m := by
  induction m using Nat.strongRecOn with
  | ind m ih =>
    rw [dl_unfold]
    split
    · simp [vb]
    · rw [vb_snoc, ih _ (by omega)]; omega
theorem dl_ds (m : Nat) : bs (dl m) = ds m := by
  unfold bs ds
  congr 2
  induction m using Nat.strongRecOn with
  | ind m ih =>
    rw [dl_unfold, dec_unfold]
    split
    · rfl
    · rw [List.map_append, ih _ (by omega)]; rfl
theorem dl_len (m : Nat) : (dl m).length = (decDigits m).length := by
  have := congrArg ByteArray.size (dl_ds m)
  rw [bs_size, ds_size] at this
  exact this
/-- The digit at a place from the right. -/
theorem dl_at (m : Nat) : ∀ p, p < (dl m).length → (dl m).getD ((dl m).length - 1 - p) 0 = m / 10 ^ p % 10 := by
  induction m using Nat.strongRecOn with
  | ind m ih =>
    intro p hp
    rw [dl_unfold] at hp ⊢
    split at hp <;> rename_i h
    · rw [if_pos h]
      simp at hp
      subst hp
      simp; omega
    · rw [if_neg h]
      rw [List.length_append] at hp ⊢
      simp only [List.length_singleton] at hp ⊢
      rcases p with _ | p
      · rw [List.getD_eq_getElem?_getD, List.getElem?_append_right (by omega)]
        simp
      · have h1 := ih (m / 10) (by omega) p (by omega)
        rw [List.getD_eq_getElem?_getD, List.getElem?_append_left (by omega)]
        rw [List.getD_eq_getElem?_getD] at h1
        rw [show (dl (m / 10)).length + 1 - 1 - (p + 1) = (dl (m / 10)).length - 1 - p by omega, h1, Nat.div_div_eq_div_mul, Nat.pow_succ, Nat.mul_comm]
theorem dl_beyond (m p : Nat) (h : (dl m).length ≤ p) : m / 10 ^ p = 0 := by
  apply Nat.div_eq_of_lt
  have h1 := vb_lt (dl m) (dl_dig m)
  rw [dl_vb] at h1
  exact Nat.lt_of_lt_of_le h1 (Nat.pow_le_pow_right (by omega) h)
theorem vb_zeros (L : List Nat) : ∀ i, (∀ j, j < i → L.getD j 0 = 0) → vb (L.drop i) = vb L := by
  intro i
  induction i generalizing L with
  | zero => intro _; rfl
  | succ i ih =>
    intro h
    cases L with
    | nil => rfl
    | cons x L =>
      have hx : x = 0 := h 0 (by omega)
      subst hx
      rw [List.drop_succ_cons, ih L (fun j hj => h (j + 1) (by omega)), vb_cons]
      simp
theorem bs_drop (L : List Nat) (i : Nat) : (bs (L.drop i)) = ⟨((L.map db).drop i).toArray⟩ := by
  unfold bs; rw [List.map_drop]
/-- What is left behind the leading zeros is the numeral. -/
theorem bs_trim (L : List Nat) (hd : Dig L) (i : Nat) (hi : i < L.length) (h0 : ∀ j, j < i → L.getD j 0 = 0) (hz : L.getD i 0 ≠ 0 ∨ i + 1 = L.length) : bs (L.drop i) = ds (vb L) := by
  rw [← vb_zeros L i h0]
  unfold bs ds
  congr 2
  refine (dec_vb _ _ rfl (fun d h => hd d (List.mem_of_mem_drop h)) ⟨L.getD i 0, L.drop (i + 1), ?_, ?_⟩).symm
  · rw [List.getD_eq_getElem?_getD, List.getElem?_eq_getElem hi]
    exact List.drop_eq_getElem_cons hi
  · rcases hz with h | h
    · exact .inl h
    · exact .inr (List.drop_eq_nil_of_le (by omega))
end Go.Proofs.YtdapflgfocideaaGreatDoor
