/- The functions that the laws of this seat come to, as plain Lean functions, each with the proof that the machine's call comes to it. -/
import Derived.Test.YtpphdmpnnnimdaaPx0
namespace Go.Proofs.Ytpphdmpnnnimdaa.P
open Go.RowKit Go.Proofs.YtpphdmpnnnimdaaW.PrintWords Go.Proofs.YtpphdmpnnnimdaaW.PrintLast Go.Proofs.YtpphdmpnnnimdaaW.PrintMore
attribute [local go_sem] max2_int min2_int max_two min_two max_three min_three max_four min_four   -- for this text's walks alone
set_option linter.unusedVariables false
set_option linter.unusedSimpArgs false

/-! ### brickyardlaw09_long: function 12 -/
def brickyardlaw09_long.f (a0 : Int) : Option (Bool) := some (decide (a0 > 1048576))
set_option maxHeartbeats 8000000 in
set_option maxRecDepth 100000 in
theorem brickyardlaw09_long.calls (a0 : Int) (r : Bool) (w : World) (h : brickyardlaw09_long.f a0 = some r) :
    Calls Try.prog 12 #[.int .i64 a0] w fun e w' => e = .returned (.bool r) ∧ Drawn0 w w' := by
  have H : (some (decide (a0 > 1048576))) = some r := h
  clear h
  obtain rfl := Option.some.inj H
  go_enter Try.func12, Try.ntmps12
  go_wp2
  go_ret
  exact ⟨by first | rfl | (simp; done) | (simp [*]; done), by repeat (first | exact Drawn0.refl _ | apply Drawn0.step)⟩

end Go.Proofs.Ytpphdmpnnnimdaa.P
