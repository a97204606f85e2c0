/- Plain facts on decimal numerals. -/
import Derived.Lib.ItoaNum
import Derived.Lib.ItoaMem
import Derived.Lib.AtoiTie
import Derived.Lib.SlTrimSet
namespace Go.Proofs.YtdapflgfocideaaGreatDoor
open Go Go.Lib

theorem dec_unfold (m : Nat) : decDigits m = if m < 10 then [UInt8.ofNat (48 + m)] else decDigits (m / 10) ++ [UInt8.ofNat (48 + m % 10)] := by
  rw [decDigits]; split <;> rfl
theorem u8_digit (d : Nat) (h : d < 10) : (UInt8.ofNat (48 + d)).toNat = 48 + d := by
  simp only [UInt8.toNat_ofNat']; omega
theorem dec_digit (m : Nat) : ∀ b ∈ decDigits m, 48 ≤ b.toNat ∧ b.toNat ≤ 57 := by
  induction m using Nat.strongRecOn with
  | ind m ih =>
    rw [dec_unfold]
    split
    · intro b hb
      simp only [List.mem_singleton] at hb
      subst hb
      rw [u8_digit _ (by omega)]; omega
    · intro b hb
      rcases List.mem_append.1 hb with hb | hb
      · exact ih _ (by omega) b hb
      · simp only [List.mem_singleton] at hb
        subst hb
        rw [u8_digit _ (by omega)]; omega
theorem dec_ne_nil (m : Nat) : decDigits m ≠ [] := by
  rw [dec_unfold]; split <;> simp
theorem dec_pos (m : Nat) : 1 ≤ (decDigits m).length := by
  rcases Nat.eq_zero_or_pos (decDigits m).length with h | h
  · exact absurd (List.eq_nil_of_length_eq_zero h) (dec_ne_nil m)
  · exact h
theorem dec_len (k m : Nat) (h : m < 10 ^ (k + 1)) : (decDigits m).length ≤ k + 1 := by
  induction k generalizing m with
  | zero => rw [dec_unfold, if_pos (by simpa using h)]; simp
  | succ k ih =>
    rw [dec_unfold]
    split
    · simp
    · rw [List.length_append]
      have := ih (m / 10) (by rw [Nat.pow_succ] at h; omega)
      simp; omega
theorem dec_len9 (m : Nat) (h : m < 1000000000) : (decDigits m).length ≤ 9 := dec_len 8 m (by simpa using h)
theorem dec_len18 (m : Nat) (h : m < 1000000000000000000) : (decDigits m).length ≤ 18 := dec_len 17 m (by simpa using h)
theorem dec_head (m : Nat) (hm : m ≠ 0) : ∃ b r, decDigits m = b :: r ∧ b.toNat ≠ 48 := by
  induction m using Nat.strongRecOn with
  | ind m ih =>
    rw [dec_unfold]
    split
    · exact ⟨_, [], rfl, by rw [u8_digit _ (by omega)]; omega⟩
    · obtain ⟨b, r, e, hb⟩ := ih (m / 10) (by omega) (by omega)
      exact ⟨b, r ++ [_], by rw [e]; rfl, hb⟩
theorem decFrom_append (a : Nat) (l r : List UInt8) : decFrom a (l ++ r) = (decFrom a l).bind fun n => decFrom n r := by
  induction l generalizing a with
  | nil => rfl
  | cons x l ih =>
    simp only [List.cons_append, decFrom]
    cases digitVal x with
    | none => rfl
    | some d => exact ih _
theorem digitVal_of (d : Nat) (h : d < 10) : digitVal (UInt8.ofNat (48 + d)) = some d := by
  unfold digitVal
  rw [u8_digit d h, if_pos (by omega)]
  congr 1; omega
theorem decFrom_dec (m : Nat) : decFrom 0 (decDigits m) = some m := by
  induction m using Nat.strongRecOn with
  | ind m ih =>
    rw [dec_unfold]
    split
    · rename_i h
      simp only [decFrom, digitVal_of _ h]; simp
    · rw [decFrom_append, ih _ (by omega)]
      have h : m % 10 < 10 := by omega
      simp only [decFrom, digitVal_of _ h, Option.bind_some]
      congr 1; omega
theorem dec_inj {a b : Nat} (h : decDigits a = decDigits b) : a = b := by
  have := decFrom_dec a
  rw [h, decFrom_dec b] at this
  exact (Option.some.inj this).symm
theorem atoi_dec (m : Nat) (h : m < 1000000000000000000) : atoiAll (decDigits m) = .ok (m : Int) := by
  rw [atoiAll_short _ (dec_len18 m h)]
  have hd := dec_digit m
  have hf := decFrom_dec m
  cases hl : decDigits m with
  | nil => exact absurd hl (dec_ne_nil m)
  | cons b r =>
    rw [hl] at hd hf
    have hb := hd b (by simp)
    have h1 : ¬ b = 45 := by rintro rfl; simp at hb
    have h2 : ¬ b = 43 := by rintro rfl; simp at hb
    simp [atoi, h1, h2, decNat, hf, NumEnd.ofOption]
theorem trim_dec (m : Nat) (l : List UInt8) (h : ∀ b : UInt8, 48 ≤ b.toNat → b.toNat ≤ 57 → l.contains b = true) : trimS (decDigits m) l = [] := by
  have hd := dec_digit m
  have gen : ∀ r : List UInt8, (∀ x ∈ r, l.contains x = true) → r.dropWhile (l.contains ·) = [] := by
    intro r
    induction r with
    | nil => intro _; rfl
    | cons x r ih =>
      intro hx
      rw [List.dropWhile_cons, if_pos (hx x (by simp))]
      exact ih fun y hy => hx y (by simp [hy])
  have h1 : (decDigits m).reverse.dropWhile (l.contains ·) = [] := gen _ fun x hx => by
    have := hd x (by simpa using hx)
    exact h x this.1 this.2
  unfold trimS trimRightS
  rw [h1]
  rfl
/-- The numeral as a string. -/
def ds (m : Nat) : ByteArray := ⟨(decDigits m).toArray⟩
theorem ds_inj {a b : Nat} : ds a = ds b ↔ a = b := by
  constructor
  · intro h
    unfold ds at h
    injection h with h
    exact dec_inj (by simpa using congrArg Array.toList h)
  · rintro rfl; rfl
theorem ds_size (m : Nat) : (ds m).size = (decDigits m).length := by simp [ds, ByteArray.size]
theorem ds_list (m : Nat) : (ds m).data.toList = decDigits m := by simp [ds]
end Go.Proofs.YtdapflgfocideaaGreatDoor
