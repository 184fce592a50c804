/- The guard of the statements on paths: one answer of the program. -/
import Derived.Test.YtpphdmpnnnimdaaPlPathC
namespace Go.Proofs.Ytpphdmpnnnimdaa.P
open Go.RowKit Go.Proofs.YtpphdmpnnnimdaaW.PrintWords Go.Proofs.YtpphdmpnnnimdaaW.PrintLast Go.Proofs.YtpphdmpnnnimdaaW.PrintMore
set_option linter.unusedVariables false

theorem works_norm : ∃ k, path_Norm.f k (⟨#[97, 47, 47, 98, 47, 46, 47, 46, 46, 47, 99]⟩ : ByteArray) = some ((⟨#[97, 47, 99]⟩ : ByteArray), 0) := by
  have h := Ev.rounds (Pl.pathnorm_ev (⟨#[97, 47, 47, 98, 47, 46, 47, 46, 46, 47, 99]⟩ : ByteArray) (by decide))
  exact h
theorem run_equalIn_func_nil {P : Program} (w : World) (d : Nat) (t : TypeId) {ps rs : Array TypeId} {v : Bool} (hu : P.underlying t = some (.func ps rs v)) (fn : Fn) (first cap : Array Value) : (Op.equalIn (d + 1) t (.func fn first cap) .nilFunc).run P w = .ok false w := by
  simp [Op.equalIn, run_underlying hu]
theorem run_neq_func_nil {P : Program} (w : World) (t : TypeId) {ps rs : Array TypeId} {v : Bool} (hu : P.underlying t = some (.func ps rs v)) (fn : Fn) (first cap : Array Value) :
    (binOp .neq t (.func fn first cap) .nilFunc).run P w = .ok (.bool true) w := by
  simp only [binOp]
  simp [Op.equal, Op.maxDepth, run_equalIn_func_nil w 9999 t hu fn first cap]
def brickyardlaw09_works.f : Option Bool := some true
set_option maxHeartbeats 1000000 in
set_option maxRecDepth 100000 in
theorem brickyardlaw09_works.calls (r : Bool) (w : World) (h : brickyardlaw09_works.f = some r) :
    Calls Try.prog 11 #[] w fun e w' => e = .returned (.bool r) ∧ Below w.heap.size w w' := by
  obtain rfl := Option.some.inj h
  obtain ⟨k, hk⟩ := works_norm
  have HK := Aside0.mk hk
  clear hk h
  have he := fun (W : World) fn f c => run_neq_func_nil (P := Try.prog) W 38 Try.underlying38 fn f c
  go_enter Try.func11, Try.ntmps11
  go_wp2_with fail
  refine (path_Norm.calls k _ _ _ _ HK.out).mono ?_
  rintro e w1 ⟨rfl, hb⟩
  go_wp2
  go_ret
  exact ⟨rfl, (hb.alloc hb.size _)⟩
end Go.Proofs.Ytpphdmpnnnimdaa.P
