/- Globs, plainly: when a glob fits a text; the machine with two places to go back to. No program in sight. -/
import Derived.Test.YtpphdmpnnnimdaaPlPath
namespace Go.Proofs.Ytpphdmpnnnimdaa.Pl
open Go.RowKit Go.Proofs.YtpphdmpnnnimdaaW.PrintWords
set_option linter.unusedSimpArgs false
set_option linter.unusedVariables false

/-- does a byte of a glob (no star) stand for a byte? -/
def okc (c x : UInt8) : Prop := (c = x ∧ c ≠ 63) ∨ (c = 63 ∧ x ≠ 47)
def fits : List UInt8 → List UInt8 → Prop
  | [], s => s = []
  | [c], s => if c = 42 then ∃ k, k ≤ s.length ∧ 47 ∉ s.take k ∧ s.drop k = [] else ∃ x r, s = x :: r ∧ okc c x ∧ r = []
  | c :: d :: t, s => if c = 42 then (if d = 42 then ∃ k, k ≤ s.length ∧ fits t (s.drop k) else ∃ k, k ≤ s.length ∧ 47 ∉ s.take k ∧ fits (d :: t) (s.drop k)) else ∃ x r, s = x :: r ∧ okc c x ∧ fits (d :: t) r
theorem fits_nil (s : List UInt8) : fits [] s ↔ s = [] := by rw [fits]
theorem fits_two (t s : List UInt8) : fits (42 :: 42 :: t) s ↔ ∃ k, k ≤ s.length ∧ fits t (s.drop k) := by rw [fits]; simp
theorem fits_star {t : List UInt8} (h : t.head? ≠ some 42) (s : List UInt8) : fits (42 :: t) s ↔ ∃ k, k ≤ s.length ∧ 47 ∉ s.take k ∧ fits t (s.drop k) := by
  cases t with
  | nil => rw [fits]; simp only [if_true]; simp only [fits_nil]
  | cons d t => rw [fits, if_pos rfl, if_neg (fun e => h (by rw [e]; rfl))]
theorem fits_byte {c : UInt8} (h : c ≠ 42) (t s : List UInt8) : fits (c :: t) s ↔ ∃ x r, s = x :: r ∧ okc c x ∧ fits t r := by
  cases t with
  | nil => rw [fits, if_neg h]; simp only [fits_nil]
  | cons d t => rw [fits, if_neg h]
/-- from the g-th byte of the glob and the k-th of the text on -/
def F (G S : List UInt8) (g k : Nat) : Prop := fits (G.drop g) (S.drop k)
section
variable {G S : List UInt8} {g k : Nat}
theorem F_end (hk : k ≤ S.length) : F G S G.length k ↔ k = S.length := by
  unfold F
  rw [List.drop_of_length_le (Nat.le_refl _), fits_nil, List.drop_eq_nil_iff]
  omega
theorem F_two (h0 : G[g]? = some 42) (h1 : G[g + 1]? = some 42) (hk : k ≤ S.length) : F G S g k ↔ ∃ m, k ≤ m ∧ m ≤ S.length ∧ F G S (g + 2) m := by
  obtain ⟨l0, e0⟩ := List.getElem?_eq_some_iff.1 h0
  obtain ⟨l1, e1⟩ := List.getElem?_eq_some_iff.1 h1
  unfold F
  rw [drop_cons l0, e0, drop_cons l1, e1, fits_two]
  constructor
  · rintro ⟨m, hm, h⟩
    rw [List.length_drop] at hm
    rw [List.drop_drop] at h
    exact ⟨k + m, by omega, by omega, h⟩
  · rintro ⟨m, h1, h2, h⟩
    refine ⟨m - k, by rw [List.length_drop]; omega, ?_⟩
    rw [List.drop_drop, show k + (m - k) = m by omega]
    exact h
theorem noslash (hk : k ≤ S.length) (m : Nat) (hm : k + m ≤ S.length) : (47 : UInt8) ∉ (S.drop k).take m ↔ ∀ i, k ≤ i → i < k + m → S[i]? ≠ some 47 := by
  constructor
  · intro h i h1 h2 e
    apply h
    refine List.mem_of_getElem? (i := i - k) ?_
    rw [List.getElem?_take, if_pos (by omega), List.getElem?_drop, show k + (i - k) = i by omega]
    exact e
  · intro h hm'
    obtain ⟨i, hi, e⟩ := List.getElem_of_mem hm'
    have hi' : i < m := by rw [List.length_take] at hi; omega
    refine h (k + i) (by omega) (by omega) ?_
    have e2 : ((S.drop k).take m)[i]? = some 47 := by rw [List.getElem?_eq_getElem hi, e]
    rw [List.getElem?_take, if_pos hi', List.getElem?_drop] at e2
    exact e2
theorem F_star (h0 : G[g]? = some 42) (h1 : G[g + 1]? ≠ some 42) (hk : k ≤ S.length) : F G S g k ↔ ∃ m, k ≤ m ∧ m ≤ S.length ∧ (∀ i, k ≤ i → i < m → S[i]? ≠ some 47) ∧ F G S (g + 1) m := by
  obtain ⟨l0, e0⟩ := List.getElem?_eq_some_iff.1 h0
  unfold F
  rw [drop_cons l0, e0, fits_star (by rw [List.head?_drop]; exact h1)]
  constructor
  · rintro ⟨m, hm, hn, h⟩
    rw [List.length_drop] at hm
    rw [List.drop_drop] at h
    exact ⟨k + m, by omega, by omega, (noslash hk m (by omega)).1 hn, h⟩
  · rintro ⟨m, h1, h2, hn, h⟩
    refine ⟨m - k, by rw [List.length_drop]; omega, (noslash hk (m - k) (by omega)).2 (fun i a b => hn i a (by omega)), ?_⟩
    rw [List.drop_drop, show k + (m - k) = m by omega]
    exact h
theorem F_byte {c : UInt8} (h0 : G[g]? = some c) (hc : c ≠ 42) : F G S g k ↔ ∃ x, S[k]? = some x ∧ okc c x ∧ F G S (g + 1) (k + 1) := by
  obtain ⟨l0, e0⟩ := List.getElem?_eq_some_iff.1 h0
  unfold F
  rw [drop_cons l0, e0, fits_byte hc]
  constructor
  · rintro ⟨x, r, h1, h2, h3⟩
    have hx : (S.drop k)[0]? = some x := by rw [h1]; rfl
    rw [List.getElem?_drop, Nat.add_zero] at hx
    refine ⟨x, hx, h2, ?_⟩
    obtain ⟨l, _⟩ := List.getElem?_eq_some_iff.1 hx
    rw [drop_cons l] at h1
    rw [(List.cons.inj h1).2]
    exact h3
  · rintro ⟨x, h1, h2, h3⟩
    obtain ⟨l, e⟩ := List.getElem?_eq_some_iff.1 h1
    exact ⟨x, S.drop (k + 1), by rw [drop_cons l, e], h2, h3⟩
end
/-- a piece of the glob without stars, laid at a place of the text -/
def Lies (G S : List UInt8) (n g b : Nat) : Prop := ∀ i, n ≤ i → i < g → ∃ c x, G[i]? = some c ∧ c ≠ 42 ∧ S[b + (i - n)]? = some x ∧ okc c x
theorem F_over {G S : List UInt8} {n g : Nat} (hng : n ≤ g) {b : Nat} (hl : ∀ i, n ≤ i → i < g → ∃ c, G[i]? = some c ∧ c ≠ 42) (h : F G S n b) : Lies G S n g b ∧ F G S g (b + (g - n)) := by
  induction g with
  | zero =>
    have : n = 0 := by omega
    subst this
    exact ⟨fun i h1 h2 => by omega, h⟩
  | succ g ih =>
    by_cases e : n = g + 1
    · subst e
      refine ⟨fun i h1 h2 => by omega, ?_⟩
      rw [Nat.sub_self]
      exact h
    · obtain ⟨h1, h2⟩ := ih (by omega) (fun i a b => hl i a (by omega))
      obtain ⟨c, hc, hc'⟩ := hl g (by omega) (by omega)
      obtain ⟨x, hx, ho, h3⟩ := (F_byte hc hc').1 h2
      refine ⟨fun i a b => ?_, ?_⟩
      · by_cases e2 : i = g
        · subst e2
          exact ⟨c, x, hc, hc', hx, ho⟩
        · exact h1 i a (by omega)
      · rw [show b + (g + 1 - n) = b + (g - n) + 1 by omega]
        exact h3
theorem Lies.ns {G S : List UInt8} {n g b : Nat} (h : Lies G S n g b) : ∀ i, n ≤ i → i < g → ∃ c, G[i]? = some c ∧ c ≠ 42 := fun i a d => by
  obtain ⟨c, _, h1, h2, _⟩ := h i a d
  exact ⟨c, h1, h2⟩
/-- A piece that lies at b and at a later place m, no slash from b to m: no slash up to its end there. -/
theorem slash_free {G S : List UInt8} {n g b m : Nat} (hb : Lies G S n g b) (hm : Lies G S n g m) (hbm : b < m) (hf : ∀ i, b ≤ i → i < m → S[i]? ≠ some 47) : ∀ i, b ≤ i → i < m + (g - n) → S[i]? ≠ some 47 := by
  have key : ∀ j i, i ≤ j → i < g - n → S[b + i]? ≠ some 47 := by
    intro j
    induction j with
    | zero =>
      intro i h1 h2 e
      exact hf (b + i) (by omega) (by omega) e
    | succ j ih =>
      intro i h1 h2 e
      by_cases hlt : b + i < m
      · exact hf (b + i) (by omega) hlt e
      · -- the slash at b + i is the byte n + (b + i - m) at m
        obtain ⟨c, x, c1, c2, c3, c4⟩ := hm (n + (b + i - m)) (by omega) (by omega)
        rw [show m + (n + (b + i - m) - n) = b + i by omega, e] at c3
        have hx : x = 47 := (Option.some.inj c3).symm
        have hc : c = 47 := by
          rcases c4 with ⟨h, _⟩ | ⟨_, h⟩
          · rw [h, hx]
          · exact absurd hx h
        obtain ⟨c', x', d1, d2, d3, d4⟩ := hb (n + (b + i - m)) (by omega) (by omega)
        rw [c1] at d1
        have hcc : c' = 47 := by rw [← Option.some.inj d1]; exact hc
        have hx' : x' = 47 := by
          rcases d4 with ⟨h, _⟩ | ⟨h, _⟩
          · rw [← h, hcc]
          · rw [hcc] at h; exact absurd h (by decide)
        rw [show b + (n + (b + i - m) - n) = b + (b + i - m) by omega, hx'] at d3
        exact ih (b + i - m) (by omega) (by omega) d3
  intro i h1 h2 e
  by_cases hlt : i < m
  · exact hf i h1 hlt e
  · obtain ⟨c, x, c1, c2, c3, c4⟩ := hm (n + (i - m)) (by omega) (by omega)
    rw [show m + (n + (i - m) - n) = i by omega, e] at c3
    have hx : x = 47 := (Option.some.inj c3).symm
    have hc : c = 47 := by
      rcases c4 with ⟨h, _⟩ | ⟨_, h⟩
      · rw [h, hx]
      · exact absurd hx h
    obtain ⟨c', x', d1, d2, d3, d4⟩ := hb (n + (i - m)) (by omega) (by omega)
    rw [c1] at d1
    have hcc : c' = 47 := by rw [← Option.some.inj d1]; exact hc
    have hx' : x' = 47 := by
      rcases d4 with ⟨h, _⟩ | ⟨h, _⟩
      · rw [← h, hcc]
      · rw [hcc] at h; exact absurd h (by decide)
    rw [show b + (n + (i - m) - n) = b + (i - m) by omega, hx'] at d3
    exact key (i - m) (i - m) (Nat.le_refl _) (by omega) d3
end Go.Proofs.Ytpphdmpnnnimdaa.Pl
