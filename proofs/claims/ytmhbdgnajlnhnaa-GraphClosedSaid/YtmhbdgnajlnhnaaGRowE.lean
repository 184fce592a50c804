/- A row's parameters of edges and of names, opened: what they hold, and how great they may be. -/
import Derived.Test.YtmhbdgnajlnhnaaPx0
import Derived.Test.YtmhbdgnajlnhnaaProg
import Derived.Deep.SlicePairs
import Derived.SizedLaws
namespace Go.Proofs.Ytmhbdgnajlnhnaa.P
open Go.RowKit Go.Deep Go.ChangeShapes Go.WideShapes Go.Proofs.YtmhbdgnajlnhnaaW.PrintWords Go.Proofs.YtmhbdgnajlnhnaaW.PrintLast Go.Proofs.YtmhbdgnajlnhnaaW.PrintMore
set_option linter.unusedVariables false
set_option linter.unusedSimpArgs false
def TB (l : List ByteArray) : Prop := l.length * 16 ≤ reachBytes ∧ ∀ d ∈ l, d.size ≤ reachBytes
theorem weightsAll_mem {H : Type} {P : Program} {e : TypeId} : ∀ (l : List (DataW H)) (d : DataW H), d ∈ l → ∀ n ∈ d.weights P e, n ∈ DataW.weightsAll P e l
  | d0 :: l, d, h, n, hn => by
    rw [DataW.weightsAll, List.mem_append]
    rcases List.mem_cons.1 h with rfl | h
    · exact .inl hn
    · exact .inr (weightsAll_mem l d h n hn)
instance : Inhabited ByteArray := ⟨ByteArray.empty⟩
instance : Inhabited S45 := ⟨⟨ByteArray.empty, ByteArray.empty⟩⟩
section
variable {H : Type} {enc : TypeId × Value → H} {W : World} {base : Nat} {sp : Nat → Bool} {held : Bool}
theorem texts_open {fuel : Nat} {V : Value} {x : DataW H × List MemPlace} (h : DataW.trod enc Try.prog W base sp held fuel 23 [V] = some x) (hw : ∀ n ∈ x.1.weights Try.prog 23, n ≤ reachBytes) :
    ∃ (A : Option Addr) (c : Nat) (xs : List ByteArray), V = .slice A xs.length c ∧ xs.length ≤ c ∧ Kd.string.C W A xs.length xs ∧ TB xs := by
  rcases open_slice1 Try.underlying23 (by kernel_rfl) h with ⟨hc, rfl⟩ | ⟨a, len, cap, m, n, V', D, Pl, hc, hb, hl, hm, hmm, rfl, hx⟩
  · injection hc with hc
    subst hc
    exact ⟨none, 0, [], rfl, Nat.le_refl _, Kd.C_nil _ _, by simp [TB]⟩
  · injection hc with hc
    subst hc
    have hle : len ≤ m := by rw [hmm]; split <;> omega
    obtain ⟨f, hf⟩ := choose_lt (n := len) (p := fun i s => V' i = .string s ∧ D i = .lit (.string s.data.toList)) (fun i hi => by
      obtain ⟨s, h1, h2, h3⟩ := DataW.trod_string Try.underlying9 (hx i (by omega)).2
      injection h1 with h1
      injection h2 with h2 h4
      exact ⟨s, h1, h2⟩)
    have hw' : ∀ k, k ∈ DataW.weights Try.prog 23 (.slice ((List.range len).map D) ((List.range (m - len)).map fun j => D (len + j))) → k ≤ reachBytes := hw
    simp only [DataW.weights, Try.underlying23, List.mem_cons, List.mem_append] at hw'
    have hlen : ((List.range len).map f).length = len := by simp
    refine ⟨some a, cap, (List.range len).map f, by rw [hlen], by omega, ⟨rfl, by (have hM : maxLen = 9223372036854775807 := rfl); omega, fun _ => ⟨a, rfl, fun j p hj => ?_⟩⟩, ?_, ?_⟩
    · have hjl : j < len := by
        have := (List.getElem?_eq_some_iff.1 hj).1
        omega
      simp [hjl] at hj
      subst hj
      refine ⟨[.string (f j)], rfl, rfl, fun i u hu => ?_⟩
      match i, hu with
      | 0, hu =>
        simp at hu
        subst hu
        have := (hx j (by omega)).1
        rw [(hf j hjl).1] at this
        simpa [Kd.string, Kd.scalar] using this
    · have := hw' _ (.inl rfl)
      rw [show Try.prog.bytesOf 9 = 16 by kernel_rfl] at this
      simp only [List.length_map, List.length_range] at this ⊢
      omega
    · intro d hd
      obtain ⟨i, hi, rfl⟩ := List.mem_map.1 hd
      rw [List.mem_range] at hi
      have h1 := hw' (f i).data.toList.length (.inr (.inl (weightsAll_mem _ (D i) (List.mem_map.2 ⟨i, List.mem_range.2 hi, rfl⟩) _ (by rw [(hf i hi).2]; simp [DataW.weights]))))
      rw [Array.length_toList] at h1
      exact h1
set_option maxRecDepth 100000 in
set_option maxHeartbeats 1000000 in
theorem edges_open {fuel : Nat} {V : Value} {x : DataW H × List MemPlace} (h : DataW.trod enc Try.prog W base sp held fuel 22 [V] = some x) (hw : ∀ n ∈ x.1.weights Try.prog 22, n ≤ reachBytes) :
    ∃ (A : Option Addr) (c : Nat) (xs : List S45), V = .slice A xs.length c ∧ xs.length ≤ c ∧ Kd.C k45 W A xs.length xs ∧ ∀ o ∈ xs, o.f0.size ≤ reachBytes ∧ o.f1.size ≤ reachBytes := by
  rcases open_slice Try.underlying22 h with ⟨hc, rfl⟩ | ⟨a, len, cap, m, n, D, Pl, hc, hb, hl, hm, hmm, rfl, hx⟩
  · injection hc with hc
    subst hc
    exact ⟨none, 0, [], rfl, Nat.le_refl _, Kd.C_nil _ _, fun o ho => by cases ho⟩
  · injection hc with hc
    subst hc
    have hle : len ≤ m := by rw [hmm]; split <;> omega
    have hw' : ∀ k, k ∈ DataW.weights Try.prog 22 (.slice ((List.range len).map D) ((List.range (m - len)).map fun j => D (len + j))) → k ≤ reachBytes := hw
    simp only [DataW.weights, Try.underlying22, List.mem_cons, List.mem_append] at hw'
    obtain ⟨f, hf⟩ := choose_lt (n := len) (p := fun i (r : S45) => (W.cell? (a.add (i * 2)) = some (.string r.f0) ∧ W.cell? (a.add (i * 2 + 1)) = some (.string r.f1)) ∧ r.f0.size ≤ reachBytes ∧ r.f1.size ≤ reachBytes) (fun i hi => by
      have hwi : ∀ k, k ∈ DataW.weights Try.prog 45 (D i) → k ≤ reachBytes := fun k hk => hw' k (.inr (.inl (weightsAll_mem _ _ (List.mem_map.2 ⟨i, List.mem_range.2 hi, rfl⟩) _ hk)))
      obtain ⟨cs', h1, h2⟩ := hx i (by omega)
      rw [show Try.prog.cellsOf 45 = 2 by kernel_rfl] at h1
      obtain ⟨_, hlen, hcell⟩ := World.cells?_some h1
      obtain ⟨xs, k, hk, hxy, _, hxl, hfs⟩ := DataW.trod_struct Try.underlying45 h2
      match xs, hxl, cs', hlen with
      | [y0, y1], _, [v0, v1], _ =>
        have g0 := hfs 0 _ rfl
        have g1 := hfs 1 _ rfl
        simp [show Try.prog.cellsOf 9 = 1 by kernel_rfl] at g0 g1
        have e0 := hcell 0 (by omega)
        have e1 := hcell 1 (by omega)
        rw [Go.Deep.add_add] at e0 e1
        simp only [Prod.mk.injEq] at hxy
        obtain ⟨s0, a0, b0, _⟩ := DataW.trod_string Try.underlying9 g0
        obtain ⟨s1, a1, b1, _⟩ := DataW.trod_string Try.underlying9 g1
        injection a0 with a0; subst a0
        injection a1 with a1; subst a1
        subst b0 b1
        have hD := hxy.1
        simp at hD
        rw [hD] at hwi
        simp [DataW.weights, Try.underlying45, DataW.weightsEach] at hwi
        exact ⟨⟨s0, s1⟩, ⟨by simpa using e0, by simpa using e1⟩, hwi.1, hwi.2⟩)
    have hlen : ((List.range len).map f).length = len := by simp
    refine ⟨some a, cap, (List.range len).map f, by rw [hlen], by omega, ⟨rfl, by (have hM : maxLen = 9223372036854775807 := rfl); omega, fun _ => ⟨a, rfl, fun j p hj => ?_⟩⟩, ?_⟩
    · have hjl : j < len := by
        have := (List.getElem?_eq_some_iff.1 hj).1
        omega
      simp [hjl] at hj
      subst hj
      obtain ⟨⟨e0, e1⟩, _⟩ := hf j hjl
      refine ⟨[.string (f j).f0, .string (f j).f1], rfl, k45_mk W (f j), fun i u hu => ?_⟩
      match i, hu with
      | 0, hu => simp at hu; subst hu; exact e0
      | 1, hu => simp at hu; subst hu; exact e1
    · intro o ho
      obtain ⟨j, hj, rfl⟩ := List.mem_map.1 ho
      exact (hf j (List.mem_range.1 hj)).2
end
end Go.Proofs.Ytmhbdgnajlnhnaa.P
