/- A row's parameter of rules, opened: what it holds, and how great it may be. -/
import Derived.Test.YtahdgaaedilcmaaPx0
import Derived.Test.YtahdgaaedilcmaaProg
import Derived.Deep.SlicePairs
import Derived.SizedLaws
namespace Go.Proofs.Ytahdgaaedilcmaa.P
open Go.RowKit Go.Deep Go.ChangeShapes Go.WideShapes Go.Proofs.YtahdgaaedilcmaaW.PrintWords Go.Proofs.YtahdgaaedilcmaaW.PrintLast Go.Proofs.YtahdgaaedilcmaaW.PrintMore
set_option linter.unusedVariables false
set_option linter.unusedSimpArgs false
def TB (l : List ByteArray) : Prop := l.length * 16 ≤ reachBytes ∧ ∀ d ∈ l, d.size ≤ reachBytes
def RB (l : List S32) : Prop := l.length * 40 ≤ reachBytes ∧ ∀ r ∈ l, r.f0.size ≤ reachBytes ∧ TB r.f1
theorem weightsAll_mem {H : Type} {P : Program} {e : TypeId} : ∀ (l : List (DataW H)) (d : DataW H), d ∈ l → ∀ n ∈ d.weights P e, n ∈ DataW.weightsAll P e l
  | d0 :: l, d, h, n, hn => by
    rw [DataW.weightsAll, List.mem_append]
    rcases List.mem_cons.1 h with rfl | h
    · exact .inl hn
    · exact .inr (weightsAll_mem l d h n hn)
instance : Inhabited ByteArray := ⟨ByteArray.empty⟩
instance : Inhabited S32 := ⟨⟨ByteArray.empty, []⟩⟩
section
variable {H : Type} {enc : TypeId × Value → H} {W : World} {base : Nat} {sp : Nat → Bool} {held : Bool}
theorem texts_open {fuel : Nat} {V : Value} {x : DataW H × List MemPlace} (h : DataW.trod enc Try.prog W base sp held fuel 30 [V] = some x) (hw : ∀ n ∈ x.1.weights Try.prog 30, n ≤ reachBytes) :
    ∃ (A : Option Addr) (c : Nat) (xs : List ByteArray), V = .slice A xs.length c ∧ xs.length ≤ c ∧ Kd.string.C W A xs.length xs ∧ TB xs := by
  rcases open_slice1 Try.underlying30 (by kernel_rfl) h with ⟨hc, rfl⟩ | ⟨a, len, cap, m, n, V', D, Pl, hc, hb, hl, hm, hmm, rfl, hx⟩
  · injection hc with hc
    subst hc
    exact ⟨none, 0, [], rfl, Nat.le_refl _, Kd.C_nil _ _, by simp [TB]⟩
  · injection hc with hc
    subst hc
    have hle : len ≤ m := by rw [hmm]; split <;> omega
    obtain ⟨f, hf⟩ := choose_lt (n := len) (p := fun i s => V' i = .string s ∧ D i = .lit (.string s.data.toList)) (fun i hi => by
      obtain ⟨s, h1, h2, h3⟩ := DataW.trod_string Try.underlying9 (hx i (by omega)).2
      injection h1 with h1
      injection h2 with h2 h4
      exact ⟨s, h1, h2⟩)
    have hw' : ∀ k, k ∈ DataW.weights Try.prog 30 (.slice ((List.range len).map D) ((List.range (m - len)).map fun j => D (len + j))) → k ≤ reachBytes := hw
    simp only [DataW.weights, Try.underlying30, List.mem_cons, List.mem_append] at hw'
    have hlen : ((List.range len).map f).length = len := by simp
    refine ⟨some a, cap, (List.range len).map f, by rw [hlen], by omega, ⟨rfl, by (have hM : maxLen = 9223372036854775807 := rfl); omega, fun _ => ⟨a, rfl, fun j p hj => ?_⟩⟩, ?_, ?_⟩
    · have hjl : j < len := by
        have := (List.getElem?_eq_some_iff.1 hj).1
        omega
      simp [hjl] at hj
      subst hj
      refine ⟨[.string (f j)], rfl, rfl, fun i u hu => ?_⟩
      match i, hu with
      | 0, hu =>
        simp at hu
        subst hu
        have := (hx j (by omega)).1
        rw [(hf j hjl).1] at this
        simpa [Kd.string, Kd.scalar] using this
    · have := hw' _ (.inl rfl)
      rw [show Try.prog.bytesOf 9 = 16 by kernel_rfl] at this
      simp only [List.length_map, List.length_range] at this ⊢
      omega
    · intro d hd
      obtain ⟨i, hi, rfl⟩ := List.mem_map.1 hd
      rw [List.mem_range] at hi
      have h1 := hw' (f i).data.toList.length (.inr (.inl (weightsAll_mem _ (D i) (List.mem_map.2 ⟨i, List.mem_range.2 hi, rfl⟩) _ (by rw [(hf i hi).2]; simp [DataW.weights]))))
      rw [Array.length_toList] at h1
      exact h1
theorem rules_open {fuel : Nat} {V : Value} {x : DataW H × List MemPlace} (h : DataW.trod enc Try.prog W base sp held fuel 23 [V] = some x) (hw : ∀ n ∈ x.1.weights Try.prog 23, n ≤ reachBytes) :
    ∃ (A : Option Addr) (c : Nat) (xs : List S32), V = .slice A xs.length c ∧ xs.length ≤ c ∧ Kd.C k32 W A xs.length xs ∧ RB xs := by
  rcases open_slice_pairs Try.underlying23 Try.underlying32 (by kernel_rfl) rfl rfl (by kernel_rfl) (by kernel_rfl) h with ⟨hc, rfl⟩ | ⟨a, len, cap, m, n, V0, V1, D0, D1, P0, P1, hc, hb, hl, hm, hmm, rfl, hx⟩
  · injection hc with hc
    subst hc
    exact ⟨none, 0, [], rfl, Nat.le_refl _, Kd.C_nil _ _, by simp [RB]⟩
  · injection hc with hc
    subst hc
    have hle : len ≤ m := by rw [hmm]; split <;> omega
    have hw' : ∀ k, k ∈ DataW.weights Try.prog 23 (.slice ((List.range len).map fun i => .agg [D0 i, D1 i]) ((List.range (m - len)).map fun j => .agg [D0 (len + j), D1 (len + j)])) → k ≤ reachBytes := hw
    simp only [DataW.weights, Try.underlying23, List.mem_cons, List.mem_append] at hw'
    obtain ⟨f, hf⟩ := choose_lt (n := len) (p := fun i (r : S32) => V0 i = .string r.f0 ∧ r.f0.size ≤ reachBytes ∧ TB r.f1 ∧ ∃ A1 c1, V1 i = .slice A1 r.f1.length c1 ∧ r.f1.length ≤ c1 ∧ Kd.string.C W A1 r.f1.length r.f1) (fun i hi => by
      have hwi : ∀ k, k ∈ DataW.weights Try.prog 32 (.agg [D0 i, D1 i]) → k ≤ reachBytes := fun k hk => hw' k (.inr (.inl (weightsAll_mem _ _ (List.mem_map.2 ⟨i, List.mem_range.2 hi, rfl⟩) _ hk)))
      simp only [DataW.weights, Try.underlying32, DataW.weightsEach, List.map_cons, List.map_nil, List.mem_append, List.append_nil] at hwi
      obtain ⟨s, h1, h2, h3⟩ := DataW.trod_string Try.underlying9 (hx i (by omega)).2.2.1
      injection h1 with h1
      injection h2 with h2 h4
      obtain ⟨A1, c1, xs, h5, h6, h7, h8⟩ := texts_open (hx i (by omega)).2.2.2 (fun k hk => hwi k (.inr hk))
      have h9 := hwi s.data.toList.length (.inl (by rw [h2]; simp [DataW.weights]))
      rw [Array.length_toList] at h9
      exact ⟨⟨s, xs⟩, h1, h9, h8, A1, c1, h5, h6, h7⟩)
    have hlen : ((List.range len).map f).length = len := by simp
    refine ⟨some a, cap, (List.range len).map f, by rw [hlen], by omega, ⟨rfl, by (have hM : maxLen = 9223372036854775807 := rfl); omega, fun _ => ⟨a, rfl, fun j p hj => ?_⟩⟩, ?_, ?_⟩
    · have hjl : j < len := by
        have := (List.getElem?_eq_some_iff.1 hj).1
        omega
      simp [hjl] at hj
      subst hj
      obtain ⟨e0, _, _, A1, c1, e1, l1, g1⟩ := hf j hjl
      refine ⟨[.string (f j).f0, .slice A1 (f j).f1.length c1], rfl, k32_mk W (f j) l1 g1, fun i u hu => ?_⟩
      match i, hu with
      | 0, hu =>
        simp at hu
        subst hu
        have := (hx j (by omega)).1
        rw [e0] at this
        exact this
      | 1, hu =>
        simp at hu
        subst hu
        have := (hx j (by omega)).2.1
        rw [e1] at this
        exact this
    · have := hw' _ (.inl rfl)
      rw [show Try.prog.bytesOf 32 = 40 by kernel_rfl] at this
      simp only [List.length_map, List.length_range] at this ⊢
      omega
    · intro d hd
      obtain ⟨i, hi, rfl⟩ := List.mem_map.1 hd
      rw [List.mem_range] at hi
      exact ⟨(hf i hi).2.1, (hf i hi).2.2.1⟩
end
end Go.Proofs.Ytahdgaaedilcmaa.P
