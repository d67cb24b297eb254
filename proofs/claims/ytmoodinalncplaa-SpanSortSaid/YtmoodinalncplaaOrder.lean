/- Contracts of span.key and span.Order: times are ordered by a number of their bits. -/
import Derived.Test.YtmoodinalncplaaProg
import Derived.Test.YtmoodinalncplaaKit
import Derived.Lib.Hide
import Derived.Laws.BitsAllLaws
import Derived.Laws.BitsLemmas
import Derived.Laws.Bits64b
import Derived.WalkKit
import Derived.BigCall
import Derived.BigGuard
import Derived.Outline
import Derived.Handy
import Derived.WalkSpells
import Derived.WalkLawsBesides
import Derived.Deep.DeepMust
import Derived.Deep.QuietTactic
import Derived.BigQuiet
namespace Go.Proofs.Ytmoodinalncplaa
open Go.RowKit

theorem run_bits0 (b : Nat) (w : World) : (callFunc 9 #[.float .f64 b]).run Try.prog w = .ok (.value (.int .u64 b)) w := by kernel_rfl

/-- the number by which times are in order -/
def keyN (u : Nat) : Nat := if 9223372036854775808 ≤ u then 18446744073709551615 - u else u + 9223372036854775808

theorem or_top (u : Nat) (h : u < 9223372036854775808) : bits .or .u64 (u : Int) 9223372036854775808 = ((u + 9223372036854775808 : Nat) : Int) := by
  have hb := bits_or_u64_nat u 9223372036854775808 (by omega) (by omega)
  rw [show ((9223372036854775808 : Nat) : Int) = 9223372036854775808 from rfl] at hb
  rw [hb, Nat.or_comm, show (9223372036854775808 : Nat) = 2 ^ 63 * 1 from rfl, ← Nat.two_pow_add_eq_or_of_lt (by omega) 1, Nat.add_comm]

theorem key_low (u : Nat) (h : u < 9223372036854775808) (w : World) : Calls Try.prog 17 #[.float .f64 u] w fun e w' => e = .returned (.int .u64 ((u + 9223372036854775808 : Nat) : Int)) ∧ w = w' := by
  have fb := run_bits0
  have ho := or_top u h
  generalize ((u + 9223372036854775808 : Nat) : Int) = q at ho
  have h1 : ((u : Int) / 9223372036854775808 == 1) = false := by simp; omega
  go_enter Try.func17, Try.ntmps17
  go_wp2
  go_ret
  exact ⟨rfl, rfl⟩

theorem not_u64 (u : Nat) (hu : u < 18446744073709551616) : bits .xor .u64 IntKind.u64.max (u : Int) = ((18446744073709551615 - u : Nat) : Int) := by
  have h2 : (BitVec.ofInt 64 (u : Int)).toNat = u := by
    rw [BitVec.ofInt_natCast, BitVec.toNat_ofNat]; exact Nat.mod_eq_of_lt (by omega)
  show IntKind.u64.wrap ((BitVec.ofInt 64 IntKind.u64.max ^^^ BitVec.ofInt 64 (u : Int)).toNat : Int) = _
  rw [show BitVec.ofInt 64 IntKind.u64.max = BitVec.allOnes 64 from by decide, BitVec.allOnes_xor, BitVec.toNat_not, h2, IntKind.wrap_u64]
  omega

theorem key_high (u : Nat) (h : 9223372036854775808 ≤ u) (hu : u < 18446744073709551616) (w : World) : Calls Try.prog 17 #[.float .f64 u] w fun e w' => e = .returned (.int .u64 ((18446744073709551615 - u : Nat) : Int)) ∧ w = w' := by
  have fb := run_bits0
  have h1 : ((u : Int) / 9223372036854775808 == 1) = true := by simp; omega
  have hn := not_u64 u hu
  generalize ((18446744073709551615 - u : Nat) : Int) = q at hn
  have hs : IntKind.u64.signed = false := rfl
  go_enter Try.func17, Try.ntmps17
  go_wp2
  go_ret
  exact ⟨rfl, rfl⟩

theorem key_any (u : Nat) (hu : u < 18446744073709551616) (w : World) : Calls Try.prog 17 #[.float .f64 u] w fun e w' => e = .returned (.int .u64 (keyN u : Int)) ∧ w = w' := by
  unfold keyN
  split
  · next h => exact key_high u h hu w
  · next h => exact key_low u (by omega) w

theorem keyN_lt (u : Nat) (hu : u < 18446744073709551616) : keyN u < 18446744073709551616 := by unfold keyN; split <;> omega
theorem keyN_inj (u v : Nat) (hu : u < 18446744073709551616) (hv : v < 18446744073709551616) (h : keyN u = keyN v) : u = v := by
  unfold keyN at h; split at h <;> split at h <;> omega

/-- cmp.Compare of two numbers -/
def cmpN (a b : Nat) : Int := if a < b then -1 else if b < a then 1 else 0

theorem compare_any (a b : Nat) (w : World) : Calls Try.prog 16 #[.int .u64 a, .int .u64 b] w fun e w' => e = .returned (.int .i64 (cmpN a b)) ∧ w = w' := by
  have ha : ((a : Int) != (a : Int)) = false := by simp
  have hb : ((b : Int) != (b : Int)) = false := by simp
  unfold cmpN
  rcases Nat.lt_trichotomy a b with h | h | h
  · rw [if_pos h]
    have h1 : (a : Int) < (b : Int) := by omega
    go_enter Try.func16, Try.ntmps16
    go_wp2
    go_ret
    exact ⟨rfl, rfl⟩
  · subst h
    rw [if_neg (by omega), if_neg (by omega)]
    go_enter Try.func16, Try.ntmps16
    go_wp2
    go_ret
    exact ⟨rfl, rfl⟩
  · rw [if_neg (by omega), if_pos h]
    have h1 : (b : Int) < (a : Int) := by omega
    have h2 : ¬ (a : Int) < (b : Int) := by omega
    go_enter Try.func16, Try.ntmps16
    go_wp2
    go_ret
    exact ⟨rfl, rfl⟩

/-- span.Order -/
theorem order_any (u v : Nat) (hu : u < 18446744073709551616) (hv : v < 18446744073709551616) (w : World) :
    Calls Try.prog 7 #[.float .f64 u, .float .f64 v] w fun e w' => e = .returned (.int .i64 (cmpN (keyN u) (keyN v))) ∧ w = w' := by
  go_enter Try.func7, Try.ntmps7
  go_wp2_with fail
  refine (key_any u hu _).mono ?_
  rintro e w' ⟨rfl, rfl⟩
  go_wp2_with fail
  refine (key_any v hv _).mono ?_
  rintro e w' ⟨rfl, rfl⟩
  go_wp2_with fail
  refine (compare_any _ _ _).mono ?_
  rintro e w' ⟨rfl, rfl⟩
  go_wp2_with fail
  go_ret
  exact ⟨rfl, rfl⟩
end Go.Proofs.Ytmoodinalncplaa
