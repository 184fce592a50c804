/- The row of the law PathSides: every input that its statement speaks of; out of the pure statement and the walk. -/
import Derived.Test.YtpphdmpnnnimdaaRows
import Derived.Test.YtpphdmpnnnimdaaPxf10
import Derived.Test.YtpphdmpnnnimdaaPurePathSides
import Derived.WalkKit
import Derived.ProofKit
import Derived.OpenShut
import Derived.ShutString
import Derived.ChangeOld
import Derived.Below
import Derived.SizedLaws
import Derived.Carry
import Derived.Lib.SmallJoins
namespace Go.Proofs.Ytpphdmpnnnimdaa.pathSides
open Go.ChangeShapes Go.WideShapes Go.ChangeAt Go.RowKit Go.Joins
open Go.ChangeMaps (open_string shut_string)
set_option linter.unusedVariables false
theorem own : ownKnob Try.prog.godebug = none := by kernel_rfl
theorem laidOut : laidOutB Try.prog = true := by kernel_rfl
theorem cells44 : Try.prog.cellsOf 44 = 4 := by kernel_rfl
set_option maxRecDepth 100000 in
theorem lifted (os : Os) (started : os.Started) (H : Type) (enc : TypeId × Value → H) :
    ReturnsInHanded {} Try.checked os 10 .any (Rows.pathSidesSpec.pre6 enc Try.prog Try.f10 Rows.pathSidesRow.domain false) (Rows.pathSidesSpec.post enc Try.prog Try.f10 false true false false) := by
  refine returnsInHanded_of_change_sized (C := Try.checked) own started (by kernel_rfl) Try.func10
    (ChangeSpec.witness6 (enc := enc) (C := Try.checked) false ⟨#[], #[.agg #[.string ByteArray.empty, .string ByteArray.empty, .string ByteArray.empty, .string ByteArray.empty]], []⟩ 8 (by kernel_rfl) (by kernel_rfl) (by kernel_rfl) (by kernel_rfl)) ?_
  intro W base args ds gs before hval0 hW hcnd hsz0 _
  have hsz : (DataW.weightsEach Try.prog (Try.f10.params.toList ++ Rows.pathSidesSpec.plain.varTypes Try.prog) (ds ++ gs)).all (· ≤ reachBytes) = true := hsz0
  have hval : ∀ (j : Nat) t v, Try.f10.params[j]? = some t → args[j]? = some v → Value.okWide Try.prog W .any base t v := hval0
  have hW' := hW
  obtain ⟨p, q, hA0, hV, rfl, hfz, hnd⟩ := hW
  have hA : DataW.TrodAll enc Try.prog W 0 (fun _ => true) true Try.f10.params.toList args.toList ds p := hA0
  rw [Try.params10] at hA hval hsz
  obtain ⟨v0, vs0, d0, ds0, p0, q0, hargs, rfl, rfl, h0, r0⟩ := trodAll_cons hA
  obtain ⟨rfl, rfl, rfl⟩ := trodAll_nil r0
  obtain rfl : args = #[v0] := by cases args; simp_all
  obtain ⟨rfl, rfl⟩ := trodVars_none hV
  have k0 := h0
  have lt0 : ∀ x ∈ p0, x.block < W.heap.size := by obtain ⟨m, hm⟩ := k0; exact DataW.trod_lt m _ _ _ hm
  obtain ⟨c0_0, c0_1, c0_2, c0_3, y0_0, y0_1, y0_2, y0_3, m0, e0, _, _, hy0_0, hy0_1, hy0_2, hy0_3⟩ := open_agg4 Try.underlying44 (by kernel_rfl) cells44 (hval 0 44 v0 rfl rfl) h0
  obtain ⟨a0_0, x0_0, _, _⟩ := DataW.trod_string Try.underlying9 hy0_0
  simp only [List.cons.injEq, and_true] at x0_0
  subst x0_0
  obtain ⟨a0_1, x0_1, _, _⟩ := DataW.trod_string Try.underlying9 hy0_1
  simp only [List.cons.injEq, and_true] at x0_1
  subst x0_1
  obtain ⟨a0_2, x0_2, _, _⟩ := DataW.trod_string Try.underlying9 hy0_2
  simp only [List.cons.injEq, and_true] at x0_2
  subst x0_2
  obtain ⟨a0_3, x0_3, _, _⟩ := DataW.trod_string Try.underlying9 hy0_3
  simp only [List.cons.injEq, and_true] at x0_3
  subst x0_3
  subst e0
  clear hA0 hval0 hsz0 hsz
  obtain ⟨k, hk⟩ := Pure.PathSides a0_0 a0_1 a0_2 a0_3
  refine (P.brickyardlaw09_PathSides.calls k a0_0 a0_1 a0_2 a0_3 true W hk).mono fun e W' hh => ?_
  obtain ⟨he, bel0⟩ := hh
  have bel : Below W.heap.size W W' := bel0
  subst he
  exact ⟨_, rfl, _, _, _, [], _, [], hW', trodAll_mk1 (shut_bool Try.underlying4 _), (trodAll_cons_mk (Below.trod laidOut (by kernel_rfl) (of_decide_eq_true (by kernel_rfl)) k0 bel lt0) trodAll_mk0), rfl, bel.frame _, fun h => by cases h⟩
theorem over : Rows.pathSidesRow.holds Try.pinned (OpenSpec.ofChange Rows.pathSidesSpec) :=
  OpenClaim.holds_of_wide 10 Try.f10 rfl rfl rfl rfl rfl rfl rfl ⟨rfl, rfl, rfl, rfl, rfl⟩ rfl rfl rfl rfl rfl (by kernel_rfl) Try.func10 (by kernel_rfl)
    (of_decide_eq_true (by kernel_rfl)) (by unfold Func.isWrapper; first | (rw [if_pos (by decide +kernel)]; kernel_rfl) | (rw [if_neg (by decide +kernel)]; exact ⟨rfl, rfl⟩))
    (fun os started H enc _ => lifted os started H enc)
theorem proved : Rows.PathSidesSaid := over
#print axioms proved
end Go.Proofs.Ytpphdmpnnnimdaa.pathSides
namespace Go.Proofs.Ytpphdmpnnnimdaa
/-- The row, under a short name, for the claim. -/
theorem pathSides_holds : Rows.PathSidesSaid := pathSides.proved
end Go.Proofs.Ytpphdmpnnnimdaa
