/- A row's parameter of calls ([]Op), opened: what it holds, and how great it may be. -/
import Derived.Test.YtkldaghhfnpcjaaPx0
import Derived.Test.YtkldaghhfnpcjaaProg
import Derived.Deep.SlicePairs
import Derived.SizedLaws
namespace Go.Proofs.Ytkldaghhfnpcjaa.P
open Go.RowKit Go.Deep Go.ChangeShapes Go.WideShapes Go.Proofs.YtkldaghhfnpcjaaW.PrintWords Go.Proofs.YtkldaghhfnpcjaaW.PrintLast Go.Proofs.YtkldaghhfnpcjaaW.PrintMore
set_option linter.unusedVariables false
set_option linter.unusedSimpArgs false
theorem weightsAll_mem {H : Type} {P : Program} {e : TypeId} : ∀ (l : List (DataW H)) (d : DataW H), d ∈ l → ∀ n ∈ d.weights P e, n ∈ DataW.weightsAll P e l
  | d0 :: l, d, h, n, hn => by
    rw [DataW.weightsAll, List.mem_append]
    rcases List.mem_cons.1 h with rfl | h
    · exact .inl hn
    · exact .inr (weightsAll_mem l d h n hn)
instance : Inhabited S28 := ⟨z28⟩
section
variable {H : Type} {enc : TypeId × Value → H} {W : World} {base : Nat} {sp : Nat → Bool} {held : Bool}
set_option maxRecDepth 100000 in
set_option maxHeartbeats 1000000 in
theorem ops_open {fuel : Nat} {V : Value} {x : DataW H × List MemPlace} (h : DataW.trod enc Try.prog W base sp held fuel 22 [V] = some x) (hw : ∀ n ∈ x.1.weights Try.prog 22, n ≤ reachBytes) :
    ∃ (A : Option Addr) (c : Nat) (xs : List S28), V = .slice A xs.length c ∧ xs.length ≤ c ∧ Kd.C k28 W A xs.length xs ∧ xs.length * 48 ≤ reachBytes ∧ ∀ o ∈ xs, o.f1.size ≤ reachBytes ∧ o.f2.size ≤ reachBytes := by
  rcases open_slice Try.underlying22 h with ⟨hc, rfl⟩ | ⟨a, len, cap, m, n, D, Pl, hc, hb, hl, hm, hmm, rfl, hx⟩
  · injection hc with hc
    subst hc
    exact ⟨none, 0, [], rfl, Nat.le_refl _, Kd.C_nil _ _, by simp, fun o ho => by cases ho⟩
  · injection hc with hc
    subst hc
    have hle : len ≤ m := by rw [hmm]; split <;> omega
    have hw' : ∀ k, k ∈ DataW.weights Try.prog 22 (.slice ((List.range len).map D) ((List.range (m - len)).map fun j => D (len + j))) → k ≤ reachBytes := hw
    simp only [DataW.weights, Try.underlying22, List.mem_cons, List.mem_append] at hw'
    obtain ⟨f, hf⟩ := choose_lt (n := len) (p := fun i (r : S28) => (W.cell? (a.add (i * 4)) = some (.int .i64 r.f0) ∧ W.cell? (a.add (i * 4 + 1)) = some (.string r.f1) ∧ W.cell? (a.add (i * 4 + 2)) = some (.string r.f2) ∧ W.cell? (a.add (i * 4 + 3)) = some (.int .i64 r.f3)) ∧ r.f1.size ≤ reachBytes ∧ r.f2.size ≤ reachBytes) (fun i hi => by
      have hwi : ∀ k, k ∈ DataW.weights Try.prog 28 (D i) → k ≤ reachBytes := fun k hk => hw' k (.inr (.inl (weightsAll_mem _ _ (List.mem_map.2 ⟨i, List.mem_range.2 hi, rfl⟩) _ hk)))
      obtain ⟨cs', h1, h2⟩ := hx i (by omega)
      rw [show Try.prog.cellsOf 28 = 4 by kernel_rfl] at h1
      obtain ⟨_, hlen, hcell⟩ := World.cells?_some h1
      obtain ⟨xs, k, hk, hxy, _, hxl, hfs⟩ := DataW.trod_struct Try.underlying28 h2
      match xs, hxl, cs', hlen with
      | [y0, y1, y2, y3], _, [v0, v1, v2, v3], _ =>
        have g0 := hfs 0 _ rfl
        have g1 := hfs 1 _ rfl
        have g2 := hfs 2 _ rfl
        have g3 := hfs 3 _ rfl
        simp [show Try.prog.cellsOf 3 = 1 by kernel_rfl, show Try.prog.cellsOf 9 = 1 by kernel_rfl] at g0 g1 g2 g3
        have e0 := hcell 0 (by omega)
        have e1 := hcell 1 (by omega)
        have e2 := hcell 2 (by omega)
        have e3 := hcell 3 (by omega)
        rw [Go.Deep.add_add] at e0 e1 e2 e3
        simp only [Prod.mk.injEq] at hxy
        obtain ⟨n0, a0, b0, _⟩ := DataW.trod_int Try.underlying3 g0
        obtain ⟨s1, a1, b1, _⟩ := DataW.trod_string Try.underlying9 g1
        obtain ⟨s2, a2, b2, _⟩ := DataW.trod_string Try.underlying9 g2
        obtain ⟨n3, a3, b3, _⟩ := DataW.trod_int Try.underlying3 g3
        injection a0 with a0; subst a0
        injection a1 with a1; subst a1
        injection a2 with a2; subst a2
        injection a3 with a3; subst a3
        subst b0 b1 b2 b3
        have hD := hxy.1
        simp at hD
        rw [hD] at hwi
        simp [DataW.weights, Try.underlying28, DataW.weightsEach] at hwi
        exact ⟨⟨n0, s1, s2, n3⟩, ⟨by simpa using e0, by simpa using e1, by simpa using e2, by simpa using e3⟩, hwi.1, hwi.2⟩)
    have hlen : ((List.range len).map f).length = len := by simp
    refine ⟨some a, cap, (List.range len).map f, by rw [hlen], by omega, ⟨rfl, by (have hM : maxLen = 9223372036854775807 := rfl); omega, fun _ => ⟨a, rfl, fun j p hj => ?_⟩⟩, ?_, ?_⟩
    · have hjl : j < len := by
        have := (List.getElem?_eq_some_iff.1 hj).1
        omega
      simp [hjl] at hj
      subst hj
      obtain ⟨⟨e0, e1, e2, e3⟩, _⟩ := hf j hjl
      refine ⟨[.int .i64 (f j).f0, .string (f j).f1, .string (f j).f2, .int .i64 (f j).f3], rfl, k28_mk W (f j), fun i u hu => ?_⟩
      match i, hu with
      | 0, hu => simp at hu; subst hu; exact e0
      | 1, hu => simp at hu; subst hu; exact e1
      | 2, hu => simp at hu; subst hu; exact e2
      | 3, hu => simp at hu; subst hu; exact e3
    · have := hw' _ (.inl rfl)
      rw [show Try.prog.bytesOf 28 = 48 by kernel_rfl] at this
      simp only [List.length_map, List.length_range] at this ⊢
      first | exact this | omega
    · intro o ho
      obtain ⟨j, hj, rfl⟩ := List.mem_map.1 ho
      exact (hf j (List.mem_range.1 hj)).2
end
end Go.Proofs.Ytkldaghhfnpcjaa.P
