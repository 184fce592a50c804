/- The row of GraphClosed. -/
import Derived.Test.YtmhbdgnajlnhnaaRows
import Derived.Test.YtmhbdgnajlnhnaaGLawClosed
import Derived.Test.YtmhbdgnajlnhnaaGRowE
import Derived.WalkKit
import Derived.ProofKit
import Derived.OpenShut
import Derived.ShutString
import Derived.ChangeOld
import Derived.Below
import Derived.SizedLaws
import Derived.Carry
namespace Go.Proofs.Ytmhbdgnajlnhnaa.graphClosed
open Go.ChangeShapes Go.WideShapes Go.ChangeAt Go.RowKit
open Go.ChangeMaps (open_string shut_string)
set_option linter.unusedVariables false
theorem own : ownKnob Try.prog.godebug = none := by kernel_rfl
theorem laidOut : laidOutB Try.prog = true := by kernel_rfl
set_option maxRecDepth 100000 in
theorem lifted (os : Os) (started : os.Started) (H : Type) (enc : TypeId × Value → H) :
    ReturnsInHanded {} Try.checked os 9 .any (Rows.graphClosedSpec.pre6 enc Try.prog Try.f9 Rows.graphClosedRow.domain false) (Rows.graphClosedSpec.post enc Try.prog Try.f9 false true false false) := by
  refine returnsInHanded_of_change_sized (C := Try.checked) own started (by kernel_rfl) Try.func9
    (ChangeSpec.witness6 (enc := enc) (C := Try.checked) false ⟨#[], #[.slice none 0 0, .slice none 0 0, .slice none 0 0, .slice none 0 0], []⟩ 8 (by kernel_rfl) (by kernel_rfl) (by kernel_rfl) (by kernel_rfl)) ?_
  intro W base args ds gs before hval0 hW hcnd hsz0 _
  have hsz : (DataW.weightsEach Try.prog (Try.f9.params.toList ++ Rows.graphClosedSpec.plain.varTypes Try.prog) (ds ++ gs)).all (· ≤ reachBytes) = true := hsz0
  have hval : ∀ (j : Nat) t v, Try.f9.params[j]? = some t → args[j]? = some v → Value.okWide Try.prog W .any base t v := hval0
  have hW' := hW
  obtain ⟨p, q, hA0, hV, rfl, hfz, hnd⟩ := hW
  have hA : DataW.TrodAll enc Try.prog W 0 (fun _ => true) true Try.f9.params.toList args.toList ds p := hA0
  rw [Try.params9] at hA hval hsz
  obtain ⟨v0, vs0, d0, ds0, p0, q0, hargs, rfl, rfl, h0, r0⟩ := trodAll_cons hA
  obtain ⟨v1, vs1, d1, ds1, p1, q1, rfl, rfl, rfl, h1, r1⟩ := trodAll_cons r0
  obtain ⟨v2, vs2, d2, ds2, p2, q2, rfl, rfl, rfl, h2, r2⟩ := trodAll_cons r1
  obtain ⟨v3, vs3, d3, ds3, p3, q3, rfl, rfl, rfl, h3, r3⟩ := trodAll_cons r2
  obtain ⟨rfl, rfl, rfl⟩ := trodAll_nil r3
  obtain rfl : args = #[v0, v1, v2, v3] := by cases args; simp_all
  obtain ⟨rfl, rfl⟩ := trodVars_none hV
  have k0 := h0
  have lt0 : ∀ x ∈ p0, x.block < W.heap.size := by obtain ⟨m, hm⟩ := k0; exact DataW.trod_lt m _ _ _ hm
  obtain ⟨b0, len0, cap0, rfl⟩ := okWide_slice Try.underlying22 (hval 0 22 v0 rfl rfl)
  have hw0 : ∀ n ∈ d0.weights Try.prog 22, n ≤ reachBytes := fun n hn => by
    have := List.all_eq_true.1 hsz n (DataW.weights_mem_each (j := 0) rfl rfl n hn)
    simpa using this
  obtain ⟨A0, c0, l0, e0, hl0, hC0, hB0⟩ : ∃ (A : Option Addr) (c : Nat) (xs : List P.S45), Value.slice b0 len0 cap0 = .slice A xs.length c ∧ xs.length ≤ c ∧ YtmhbdgnajlnhnaaW.PrintWords.Kd.C P.k45 W A xs.length xs ∧ ∀ o ∈ xs, o.f0.size ≤ reachBytes ∧ o.f1.size ≤ reachBytes := by
    obtain ⟨fuel, hf⟩ := h0
    exact P.edges_open (by simpa [Value.cells] using hf) hw0
  have k1 := h1
  have lt1 : ∀ x ∈ p1, x.block < W.heap.size := by obtain ⟨m, hm⟩ := k1; exact DataW.trod_lt m _ _ _ hm
  obtain ⟨b1, len1, cap1, rfl⟩ := okWide_slice Try.underlying23 (hval 1 23 v1 rfl rfl)
  have hw1 : ∀ n ∈ d1.weights Try.prog 23, n ≤ reachBytes := fun n hn => by
    have := List.all_eq_true.1 hsz n (DataW.weights_mem_each (j := 1) rfl rfl n hn)
    simpa using this
  obtain ⟨A1, c1, l1, e1, hl1, hC1, hB1⟩ : ∃ (A : Option Addr) (c : Nat) (xs : List ByteArray), Value.slice b1 len1 cap1 = .slice A xs.length c ∧ xs.length ≤ c ∧ YtmhbdgnajlnhnaaW.PrintWords.Kd.C YtmhbdgnajlnhnaaW.PrintWords.Kd.string W A xs.length xs ∧ P.TB xs := by
    obtain ⟨fuel, hf⟩ := h1
    exact P.texts_open (by simpa [Value.cells] using hf) hw1
  have k2 := h2
  have lt2 : ∀ x ∈ p2, x.block < W.heap.size := by obtain ⟨m, hm⟩ := k2; exact DataW.trod_lt m _ _ _ hm
  obtain ⟨b2, len2, cap2, rfl⟩ := okWide_slice Try.underlying23 (hval 2 23 v2 rfl rfl)
  have hw2 : ∀ n ∈ d2.weights Try.prog 23, n ≤ reachBytes := fun n hn => by
    have := List.all_eq_true.1 hsz n (DataW.weights_mem_each (j := 2) rfl rfl n hn)
    simpa using this
  obtain ⟨A2, c2, l2, e2, hl2, hC2, hB2⟩ : ∃ (A : Option Addr) (c : Nat) (xs : List ByteArray), Value.slice b2 len2 cap2 = .slice A xs.length c ∧ xs.length ≤ c ∧ YtmhbdgnajlnhnaaW.PrintWords.Kd.C YtmhbdgnajlnhnaaW.PrintWords.Kd.string W A xs.length xs ∧ P.TB xs := by
    obtain ⟨fuel, hf⟩ := h2
    exact P.texts_open (by simpa [Value.cells] using hf) hw2
  have k3 := h3
  have lt3 : ∀ x ∈ p3, x.block < W.heap.size := by obtain ⟨m, hm⟩ := k3; exact DataW.trod_lt m _ _ _ hm
  obtain ⟨b3, len3, cap3, rfl⟩ := okWide_slice Try.underlying23 (hval 3 23 v3 rfl rfl)
  have hw3 : ∀ n ∈ d3.weights Try.prog 23, n ≤ reachBytes := fun n hn => by
    have := List.all_eq_true.1 hsz n (DataW.weights_mem_each (j := 3) rfl rfl n hn)
    simpa using this
  obtain ⟨A3, c3, l3, e3, hl3, hC3, hB3⟩ : ∃ (A : Option Addr) (c : Nat) (xs : List ByteArray), Value.slice b3 len3 cap3 = .slice A xs.length c ∧ xs.length ≤ c ∧ YtmhbdgnajlnhnaaW.PrintWords.Kd.C YtmhbdgnajlnhnaaW.PrintWords.Kd.string W A xs.length xs ∧ P.TB xs := by
    obtain ⟨fuel, hf⟩ := h3
    exact P.texts_open (by simpa [Value.cells] using hf) hw3
  injection e0 with ea0 eb0 ec0
  subst ea0 eb0 ec0
  injection e1 with ea1 eb1 ec1
  subst ea1 eb1 ec1
  injection e2 with ea2 eb2 ec2
  subst ea2 eb2 ec2
  injection e3 with ea3 eb3 ec3
  subst ea3 eb3 ec3
  clear hA0 hval0 hsz0 hsz
  refine (P.closed_walk _ _ l0 _ _ l1 _ _ l2 _ _ l3 W hC0 hl0 (fun o ho => by have := hB0 o ho; have hM : maxLen = 9223372036854775807 := rfl; unfold reachBytes at this; omega) hC1 hl1 (fun o ho => by have := hB1.2 o ho; have hM : maxLen = 9223372036854775807 := rfl; unfold reachBytes at this; omega) hC2 hl2 (fun o ho => by have := hB2.2 o ho; have hM : maxLen = 9223372036854775807 := rfl; unfold reachBytes at this; omega) hC3 hl3 (fun o ho => by have := hB3.2 o ho; have hM : maxLen = 9223372036854775807 := rfl; unfold reachBytes at this; omega)).mono fun e W' ⟨he, bel⟩ => ?_
  subst he
  exact ⟨_, rfl, _, _, _, [], _, [], hW', trodAll_mk1 (shut_bool Try.underlying4 _), (trodAll_cons_mk (Below.trod laidOut (by kernel_rfl) (of_decide_eq_true (by kernel_rfl)) k0 bel lt0) (trodAll_cons_mk (Below.trod laidOut (by kernel_rfl) (of_decide_eq_true (by kernel_rfl)) k1 bel lt1) (trodAll_cons_mk (Below.trod laidOut (by kernel_rfl) (of_decide_eq_true (by kernel_rfl)) k2 bel lt2) (trodAll_cons_mk (Below.trod laidOut (by kernel_rfl) (of_decide_eq_true (by kernel_rfl)) k3 bel lt3) trodAll_mk0)))), rfl, bel.frame _, fun h => by cases h⟩
theorem over : Rows.graphClosedRow.holds Try.pinned (OpenSpec.ofChange Rows.graphClosedSpec) :=
  OpenClaim.holds_of_wide 9 Try.f9 rfl rfl rfl rfl rfl rfl rfl ⟨rfl, rfl, rfl, rfl, rfl⟩ rfl rfl rfl rfl rfl (by kernel_rfl) Try.func9 (by kernel_rfl)
    (of_decide_eq_true (by kernel_rfl)) (by unfold Func.isWrapper; first | (rw [if_pos (by decide +kernel)]; kernel_rfl) | (rw [if_neg (by decide +kernel)]; exact ⟨rfl, rfl⟩))
    (fun os started H enc _ => lifted os started H enc)
theorem proved : Rows.GraphClosedSaid := over
#print axioms proved
end Go.Proofs.Ytmhbdgnajlnhnaa.graphClosed
namespace Go.Proofs.Ytmhbdgnajlnhnaa
/-- The row, under a short name, for the claim. -/
theorem graphClosed_holds : Rows.GraphClosedSaid := graphClosed.proved
end Go.Proofs.Ytmhbdgnajlnhnaa
