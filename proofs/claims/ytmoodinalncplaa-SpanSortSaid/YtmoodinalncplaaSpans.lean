/- The closed fact of the layer span: spans() is true. -/
import Derived.Test.YtmoodinalncplaaProg
import Derived.Test.YtmoodinalncplaaKit
import Derived.Test.YtmoodinalncplaaOrder
import Derived.Lib.Hide
import Derived.WalkKit
import Derived.BigCall
import Derived.BigGuard
import Derived.Outline
import Derived.Handy
import Derived.WalkSpells
import Derived.WalkLawsBesides
import Derived.Deep.DeepMust
import Derived.Deep.QuietTactic
import Derived.BigQuiet
namespace Go.Proofs.Ytmoodinalncplaa
open Go.RowKit

theorem sum_12 (w : World) (b : Nat) (h0 : w.cell? ⟨b, 0, none⟩ = some (.float .f64 4607182418800017408)) (h1 : w.cell? ⟨b, 1, none⟩ = some (.float .f64 4611686018427387904)) :
    Calls Try.prog 13 #[.slice (some ⟨b, 0, none⟩) 2 2] w fun e w' => e = .returned (.float .f64 4613937818241073152) ∧ w = w' := by
  have a1 : ∀ W, (binOp .add 26 (.float .f64 0) (.float .f64 4607182418800017408)).run Try.prog W = .ok (.float .f64 4607182418800017408) W := fun _ => by kernel_rfl
  have a2 : ∀ W, (binOp .add 26 (.float .f64 4607182418800017408) (.float .f64 4611686018427387904)).run Try.prog W = .ok (.float .f64 4613937818241073152) W := fun _ => by kernel_rfl
  have a3 : ∀ W, (binOp .neq 26 (.float .f64 4613937818241073152) (.float .f64 4613937818241073152)).run Try.prog W = .ok (.bool false) W := fun _ => by kernel_rfl
  go_enter Try.func13, Try.ntmps13
  go_wp2
  refine wp_loop_rounds 3 ?_
  rw [rounds_succ]
  go_wp2
  rw [rounds_succ]
  go_wp2
  rw [rounds_succ]
  go_wp2
  go_ret
  exact ⟨rfl, rfl⟩

set_option maxRecDepth 100000 in
theorem spans_any (w : World) : Calls Try.prog 4 #[] w fun e w' => e = .returned (.bool true) ∧ Below w.heap.size w w' := by
  have a3 : ∀ W, (binOp .eql 26 (.float .f64 4613937818241073152) (.float .f64 4613937818241073152)).run Try.prog W = .ok (.bool true) W := fun _ => by kernel_rfl
  have hb := Blk.new w 26 #[.float .f64 4607182418800017408, .float .f64 4611686018427387904]
  have h0 := hb.cell 0
  have h1 := hb.cell 1
  go_enter Try.func4, Try.ntmps4
  go_wp2_with (first | (go_at_call 13; refine (sum_12 _ _ h0 h1).mono ?_; rintro e w' ⟨rfl, rfl⟩) | (go_at_call 7; refine (order_any 4607182418800017408 4611686018427387904 (by omega) (by omega) _).mono ?_; rintro e w' ⟨rfl, rfl⟩; simp only [show cmpN (keyN 4607182418800017408) (keyN 4611686018427387904) = -1 from by decide]))
  go_ret
  exact ⟨rfl, (Below.refl _ _).alloc (Nat.le_refl _) _⟩
end Go.Proofs.Ytmoodinalncplaa
