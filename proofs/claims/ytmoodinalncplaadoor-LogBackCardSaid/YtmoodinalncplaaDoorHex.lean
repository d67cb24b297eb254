/- Plain facts about hexadecimal numerals of 16 digits: no program in sight. -/
import Derived.Below
namespace Go.Proofs.YtmoodinalncplaaDoor
namespace Hex

def dig (d : Nat) : UInt8 := if d < 10 then UInt8.ofNat (48 + d) else UInt8.ofNat (87 + d)

/-- the numeral without leading zeros -/
def num : Nat → Nat → List UInt8
  | 0, u => [dig u]
  | f + 1, u => if u < 16 then [dig u] else num f (u / 16) ++ [dig (u % 16)]

/-- k digits -/
def fix : Nat → Nat → List UInt8
  | 0, _ => []
  | k + 1, u => fix k (u / 16) ++ [dig (u % 16)]

theorem fix_length (k u : Nat) : (fix k u).length = k := by
  induction k generalizing u with
  | zero => rfl
  | succ k ih => simp [fix, ih]

theorem num_length (f u : Nat) : 1 ≤ (num f u).length ∧ (num f u).length ≤ f + 1 := by
  induction f generalizing u with
  | zero => simp [num]
  | succ f ih =>
    have := ih (u / 16)
    unfold num
    split <;> simp <;> omega

theorem fix_zero (k : Nat) : fix k 0 = List.replicate k 48 := by
  induction k with
  | zero => rfl
  | succ k ih => rw [fix, Nat.zero_div, ih, List.replicate_succ']; rfl

/-- with zeros ahead the numeral is the one of k digits -/
theorem pad (f k u : Nat) (hf : u < 16 ^ (f + 1)) (hk : (num f u).length ≤ k) : List.replicate (k - (num f u).length) 48 ++ num f u = fix k u := by
  induction f generalizing u k with
  | zero =>
    have hu : u < 16 := by simpa using hf
    simp only [num, List.length_singleton] at hk ⊢
    obtain ⟨k, rfl⟩ : ∃ m, k = m + 1 := ⟨k - 1, by omega⟩
    rw [fix, Nat.div_eq_of_lt hu, fix_zero, Nat.mod_eq_of_lt hu]; simp
  | succ f ih =>
    unfold num at hk ⊢
    split
    · next hu =>
      rw [if_pos hu] at hk
      simp only [List.length_singleton] at hk ⊢
      obtain ⟨k, rfl⟩ : ∃ m, k = m + 1 := ⟨k - 1, by omega⟩
      rw [fix, Nat.div_eq_of_lt hu, fix_zero, Nat.mod_eq_of_lt hu]; simp
    · next hu =>
      rw [if_neg hu] at hk
      simp only [List.length_append, List.length_singleton] at hk ⊢
      obtain ⟨k, rfl⟩ : ∃ m, k = m + 1 := ⟨k - 1, by omega⟩
      have h16 : u / 16 < 16 ^ (f + 1) := by
        rw [Nat.div_lt_iff_lt_mul (by omega)]
        simpa [Nat.pow_succ] using hf
      have := ih k (u / 16) h16 (by omega)
      rw [fix, ← this, Nat.add_sub_add_right, List.append_assoc]

/-- value of a digit, if it is one of base 16 -/
def val (c : Nat) : Option Nat :=
  if 48 ≤ c ∧ c ≤ 57 then some (c - 48) else if 97 ≤ c ∧ c ≤ 102 then some (c - 87) else if 65 ≤ c ∧ c ≤ 70 then some (c - 55) else none

inductive Res where
  | ok (n : Nat)
  | bad
  | large

/-- internal/strconv.ParseUint at base 16, 64 bits, from n on -/
def parse : Nat → List UInt8 → Res
  | n, [] => .ok n
  | n, c :: l => match val c.toNat with
    | none => .bad
    | some d => if 1152921504606846976 ≤ n then .large else parse (n * 16 + d) l

theorem val_dig (d : Nat) (h : d < 16) : val (dig d).toNat = some d := by
  have : ∀ d : Fin 16, val (dig d.1).toNat = some d.1 := by decide
  exact this ⟨d, h⟩

theorem parse_append (n m : Nat) (l : List UInt8) (k : List UInt8) (h : parse n l = .ok m) : parse n (l ++ k) = parse m k := by
  induction l generalizing n with
  | nil => simp [parse] at h; subst h; rfl
  | cons c l ih =>
    simp only [List.cons_append, parse] at h ⊢
    cases hv : val c.toNat with
    | none => rw [hv] at h; cases h
    | some d =>
      rw [hv] at h
      simp only at h ⊢
      by_cases hn : 1152921504606846976 ≤ n
      · rw [if_pos hn] at h; cases h
      · rw [if_neg hn] at h ⊢; exact ih _ h

theorem parse_fix (k u : Nat) (hk : k ≤ 16) (hu : u < 16 ^ k) : parse 0 (fix k u) = .ok u := by
  induction k generalizing u with
  | zero => simp at hu; subst hu; rfl
  | succ k ih =>
    have h16 : u / 16 < 16 ^ k := by
      rw [Nat.div_lt_iff_lt_mul (by omega)]
      simpa [Nat.pow_succ] using hu
    rw [fix, parse_append _ _ _ _ (ih (u / 16) (by omega) h16)]
    have hk' : 16 ^ k ≤ 16 ^ 15 := Nat.pow_le_pow_right (by omega) (by omega)
    have : ¬ 1152921504606846976 ≤ u / 16 := by have : (16 : Nat) ^ 15 = 1152921504606846976 := by decide
                                                omega
    simp only [parse, val_dig _ (Nat.mod_lt u (by omega : 0 < 16))]
    rw [if_neg this]
    congr 1
    omega

end Hex
end Go.Proofs.YtmoodinalncplaaDoor
