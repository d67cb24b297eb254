/- span.Right. -/
import Derived.Test.YtmoodinalncplaaDoorLogA
namespace Go.Proofs.YtmoodinalncplaaDoor
open Go.RowKit
namespace Log

set_option maxHeartbeats 1000000 in
set_option maxRecDepth 100000 in
theorem signbit_aux (u : Nat) (z : Int) (hz : wrap64 (u : Int) = z) (w : World) : Calls Tryd.prog 80 #[.float .f64 u] w fun e w' => e = .returned (.bool (decide (z < 0))) ∧ w' = w := by
  have hb := run_bits u
  generalize (u : Int) = x at hz hb
  go_enter Tryd.func80, Tryd.ntmps80
  go_wp2_with fail
  go_ret
  exact ⟨rfl, rfl⟩

theorem signbit_any (u : Nat) (w : World) : Calls Tryd.prog 80 #[.float .f64 u] w fun e w' => e = .returned (.bool (negB u)) ∧ w' = w := signbit_aux u _ rfl w

theorem run_ge (u : Nat) (W : World) : (binOp .geq 22 (.float .f64 u) (.float .f64 0)).run Tryd.prog W = .ok (.bool (geZ u)) W := by
  rw [binOp_float_cmp_geq]
  rfl

attribute [-go_sem] binOp_float_cmp_geq

set_option maxHeartbeats 1000000 in
theorem right_aux (u : Nat) (b n : Bool) (hg : ∀ W, (binOp .geq 22 (.float .f64 u) (.float .f64 0)).run Tryd.prog W = .ok (.bool b) W)
    (hs : ∀ W, Calls Tryd.prog 80 #[.float .f64 u] W fun e w' => e = .returned (.bool n) ∧ w' = W) (w : World) :
    Calls Tryd.prog 54 #[.float .f64 u] w fun e w' => e = .returned (.bool (b && !n)) ∧ w' = w := by
  have HS := Lib.hid hs
  clear hs
  cases b with
  | false =>
    go_enter Tryd.func54, Tryd.ntmps54
    go_wp2_with fail
    go_ret
    exact ⟨rfl, rfl⟩
  | true =>
    go_enter Tryd.func54, Tryd.ntmps54
    go_wp2_with fail
    refine (HS.out _).mono ?_
    rintro e w1 ⟨rfl, rfl⟩
    go_wp2_with fail
    go_ret
    exact ⟨rfl, rfl⟩

theorem right_any (u : Nat) (w : World) : Calls Tryd.prog 54 #[.float .f64 u] w fun e w' => e = .returned (.bool (rightB u)) ∧ w' = w :=
  right_aux u (geZ u) (negB u) (run_ge u) (signbit_any u) w
end Log
end Go.Proofs.YtmoodinalncplaaDoor
