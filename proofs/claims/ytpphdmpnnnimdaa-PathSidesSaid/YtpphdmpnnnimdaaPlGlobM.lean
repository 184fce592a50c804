/- Globs, plainly: the machine with two places to go back to tells when a glob fits. No program in sight. -/
import Derived.Test.YtpphdmpnnnimdaaPlGlob
namespace Go.Proofs.Ytpphdmpnnnimdaa.Pl
open Go.RowKit Go.Proofs.YtpphdmpnnnimdaaW.PrintWords
set_option linter.unusedSimpArgs false
set_option linter.unusedVariables false

/-- what is still to be tried -/
def Rem (G S : List UInt8) (g k : Nat) (near nearAt far farAt : Int) : Prop :=
  F G S g k ∨ (0 ≤ near ∧ ∃ m : Nat, nearAt < m ∧ m ≤ S.length ∧ (∀ i : Nat, nearAt ≤ i → i < m → S[i]? ≠ some 47) ∧ F G S near.toNat m) ∨ (0 ≤ far ∧ ∃ j : Nat, farAt < j ∧ j ≤ S.length ∧ F G S far.toNat j)
structure Inv (G S : List UInt8) (g k : Nat) (near nearAt far farAt : Int) : Prop where
  hg : g ≤ G.length
  hk : k ≤ S.length
  n1 : -1 ≤ near
  f1 : -1 ≤ far
  f0 : 0 ≤ farAt ∧ farAt ≤ S.length
  n0 : 0 ≤ nearAt ∧ nearAt ≤ S.length
  nn : 0 ≤ near → ∃ n b b0 : Nat, near = n ∧ nearAt = b ∧ (n ≤ g ∧ far ≤ n) ∧ b0 ≤ b ∧ b ≤ S.length ∧ k = b + (g - n) ∧ Lies G S n g b ∧ (∀ q, b0 ≤ q → q < b → ¬ F G S n q) ∧ (0 ≤ far → ∀ j : Nat, farAt < j → j ≤ S.length → F G S far.toNat j → ∃ q, b0 ≤ q ∧ q ≤ S.length ∧ F G S n q)
  ff : 0 ≤ far → ∃ f a : Nat, far = f ∧ farAt = a ∧ f ≤ g ∧ (near < 0 → k = a + (g - f) ∧ Lies G S f g a)
section
variable {G S : List UInt8} {g k : Nat} {near nearAt far farAt : Int}
/-- What is still to be tried from the farther place goes on from here, too, at a star. -/
theorem Inv.far_here (h : Inv G S g k near nearAt far farAt) (hfar : 0 ≤ far) {j : Nat} (h1 : farAt < j) (h2 : j ≤ S.length) (h3 : F G S far.toNat j) : ∃ m, k ≤ m ∧ F G S g m := by
  obtain ⟨f, a, rfl, rfl, hfg, hn⟩ := h.ff hfar
  by_cases hnear : 0 ≤ near
  · obtain ⟨n, b, b0, rfl, rfl, ⟨hng, hfn⟩, hb0, hbl, hk, hl, hno, hq⟩ := h.nn hnear
    obtain ⟨q, q1, q2, q3⟩ := hq hfar j h1 h2 h3
    have hqb : b ≤ q := by
      rcases Nat.lt_or_ge q b with h | h
      · exact absurd q3 (hno q q1 h)
      · exact h
    exact ⟨q + (g - n), by omega, (F_over hng hl.ns q3).2⟩
  · obtain ⟨hk, hl⟩ := hn (by omega)
    exact ⟨j + (g - f), by omega, (F_over hfg hl.ns h3).2⟩
theorem Inv.near_here (h : Inv G S g k near nearAt far farAt) (hnear : 0 ≤ near) {m : Nat} (h1 : nearAt < m) (h3 : F G S near.toNat m) : ∃ m', k ≤ m' ∧ F G S g m' := by
  obtain ⟨n, b, b0, rfl, rfl, ⟨hng, hfn⟩, hb0, hbl, hk, hl, hno, hq⟩ := h.nn hnear
  exact ⟨m + (g - n), by omega, (F_over hng hl.ns h3).2⟩
theorem F_le {m : Nat} (h : F G S g m) (h0 : G[g]? = some 42) : True := trivial
/-- two stars -/
theorem inv_two (h : Inv G S g k near nearAt far farAt) (h0 : G[g]? = some 42) (h1 : G[g + 1]? = some 42) : Inv G S (g + 2) k (-1) nearAt ((g + 2 : Nat) : Int) (k : Int) := by
  obtain ⟨l1, _⟩ := List.getElem?_eq_some_iff.1 h1
  refine ⟨by omega, h.hk, by omega, by omega, ⟨by omega, by have := h.hk; omega⟩, h.n0, fun h => by omega, fun _ => ⟨g + 2, k, rfl, rfl, by omega, fun _ => ⟨by omega, fun i a b => by omega⟩⟩⟩
/-- from a place behind the text's end nothing with two stars is told: places are kept within -/
theorem F_two_le (h0 : G[g]? = some 42) (h1 : G[g + 1]? = some 42) (hk : k ≤ S.length) {m : Nat} (hm : k ≤ m) (h : F G S g m) : F G S g k := by
  by_cases hml : m ≤ S.length
  · obtain ⟨m', a, b, c⟩ := (F_two h0 h1 hml).1 h
    exact (F_two h0 h1 hk).2 ⟨m', by omega, b, c⟩
  · have e : F G S g S.length := by
      have e1 : S.drop m = S.drop S.length := by rw [List.drop_of_length_le (by omega), List.drop_of_length_le (Nat.le_refl _)]
      unfold F at h ⊢
      rwa [e1] at h
    obtain ⟨m', a, b, c⟩ := (F_two h0 h1 (Nat.le_refl _)).1 e
    exact (F_two h0 h1 hk).2 ⟨m', by omega, b, c⟩
theorem rem_two (h : Inv G S g k near nearAt far farAt) (h0 : G[g]? = some 42) (h1 : G[g + 1]? = some 42) : Rem G S (g + 2) k (-1) nearAt ((g + 2 : Nat) : Int) (k : Int) ↔ Rem G S g k near nearAt far farAt := by
  have hF : Rem G S (g + 2) k (-1) nearAt ((g + 2 : Nat) : Int) (k : Int) ↔ F G S g k := by
    rw [F_two h0 h1 h.hk]
    unfold Rem
    constructor
    · rintro (h | ⟨h, _⟩ | ⟨_, j, a, b, c⟩)
      · exact ⟨k, Nat.le_refl _, by have := ‹Inv G S g k near nearAt far farAt›.hk; exact this, h⟩
      · omega
      · exact ⟨j, by omega, b, c⟩
    · rintro ⟨m, a, b, c⟩
      by_cases e : m = k
      · subst e
        exact .inl c
      · exact .inr (.inr ⟨by omega, m, by omega, b, c⟩)
  rw [hF]
  constructor
  · exact fun h => .inl h
  · rintro (h' | ⟨hn, m, a, b, c, d⟩ | ⟨hf, j, a, b, c⟩)
    · exact h'
    · obtain ⟨m', e1, e2⟩ := h.near_here hn a d
      exact F_two_le h0 h1 h.hk e1 e2
    · obtain ⟨m', e1, e2⟩ := h.far_here hf a b c
      exact F_two_le h0 h1 h.hk e1 e2
/-- one star -/
theorem F_within (h0 : G[g]? = some 42) (h1 : G[g + 1]? ≠ some 42) {m : Nat} (h : F G S g m) : ∃ m', m ≤ m' ∧ F G S (g + 1) m' := by
  by_cases hml : m ≤ S.length
  · obtain ⟨m', a, b, _, c⟩ := (F_star h0 h1 hml).1 h
    exact ⟨m', a, c⟩
  · have e1 : S.drop m = S.drop S.length := by rw [List.drop_of_length_le (by omega), List.drop_of_length_le (Nat.le_refl _)]
    have e : F G S g S.length := by
      unfold F at h ⊢
      rwa [e1] at h
    obtain ⟨m', a, b, _, c⟩ := (F_star h0 h1 (Nat.le_refl _)).1 e
    have hm' : m' = S.length := by omega
    subst hm'
    refine ⟨m, Nat.le_refl _, ?_⟩
    unfold F at c ⊢
    rw [e1]
    exact c
theorem inv_star (h : Inv G S g k near nearAt far farAt) (h0 : G[g]? = some 42) (h1 : G[g + 1]? ≠ some 42) : Inv G S (g + 1) k ((g + 1 : Nat) : Int) (k : Int) far farAt := by
  obtain ⟨l0, _⟩ := List.getElem?_eq_some_iff.1 h0
  have hfg : far ≤ ((g + 1 : Nat) : Int) := by
    by_cases hf : 0 ≤ far
    · obtain ⟨f, a, e1, e2, e3, _⟩ := h.ff hf
      omega
    · omega
  refine ⟨by omega, h.hk, by omega, h.f1, h.f0, ⟨by omega, by have := h.hk; omega⟩, fun _ => ⟨g + 1, k, k, rfl, rfl, ⟨Nat.le_refl _, hfg⟩, Nat.le_refl _, h.hk, by omega, fun i a b => by omega, fun q a b => by omega, fun hf j a b c => ?_⟩, fun hf => ?_⟩
  · obtain ⟨m, e1, e2⟩ := h.far_here hf a b c
    obtain ⟨m', e3, e4⟩ := F_within h0 h1 e2
    by_cases hml : m' ≤ S.length
    · exact ⟨m', by omega, hml, e4⟩
    · refine ⟨S.length, h.hk, Nat.le_refl _, ?_⟩
      have x1 : S.drop m' = S.drop S.length := by rw [List.drop_of_length_le (by omega), List.drop_of_length_le (Nat.le_refl _)]
      unfold F at e4 ⊢
      rwa [x1] at e4
  · obtain ⟨f, a, e1, e2, e3, _⟩ := h.ff hf
    exact ⟨f, a, e1, e2, by omega, fun hh => by omega⟩
theorem rem_star (h : Inv G S g k near nearAt far farAt) (h0 : G[g]? = some 42) (h1 : G[g + 1]? ≠ some 42) : Rem G S (g + 1) k ((g + 1 : Nat) : Int) (k : Int) far farAt ↔ Rem G S g k near nearAt far farAt := by
  have hF := F_star (S := S) h0 h1 h.hk
  constructor
  · rintro (h' | ⟨_, m, a, b, c, d⟩ | h')
    · exact .inl (hF.2 ⟨k, Nat.le_refl _, h.hk, fun i a b => by omega, h'⟩)
    · exact .inl (hF.2 ⟨m, by omega, b, fun i x y => c i (by omega) y, d⟩)
    · exact .inr (.inr h')
  · rintro (h' | ⟨hn, m, a, b, c, d⟩ | h')
    · obtain ⟨m, e1, e2, e3, e4⟩ := hF.1 h'
      by_cases e : m = k
      · subst e; exact .inl e4
      · exact .inr (.inl ⟨by omega, m, by omega, e2, fun i x y => e3 i (by omega) y, e4⟩)
    · obtain ⟨n, bb, b0, rfl, rfl, ⟨hng, hfn⟩, hb0, hbl, hk, hl, hno, hq⟩ := h.nn hn
      obtain ⟨hm, hd⟩ := F_over hng hl.ns (show F G S n m from d)
      have hsf := slash_free hl hm (by omega) (fun i x y => c i (by omega) y)
      have hmk : m + (g - n) ≤ S.length := by
        by_cases e : n = g
        · omega
        · obtain ⟨_, x, _, _, hx, _⟩ := hm (g - 1) (by omega) (by omega)
          obtain ⟨l, _⟩ := List.getElem?_eq_some_iff.1 hx
          omega
      obtain ⟨m', e1, e2, e3, e4⟩ := (F_star h0 h1 hmk).1 hd
      refine .inr (.inl ⟨by omega, m', by omega, e2, fun i x y => ?_, e4⟩)
      by_cases hi : i < m + (g - n)
      · exact hsf i (by omega) hi
      · exact e3 i (by omega) y
    · exact .inr (.inr h')
/-- a byte for a byte -/
theorem inv_byte (h : Inv G S g k near nearAt far farAt) {c x : UInt8} (h0 : G[g]? = some c) (hc : c ≠ 42) (hx : S[k]? = some x) (ho : okc c x) : Inv G S (g + 1) (k + 1) near nearAt far farAt := by
  obtain ⟨l0, _⟩ := List.getElem?_eq_some_iff.1 h0
  obtain ⟨l1, _⟩ := List.getElem?_eq_some_iff.1 hx
  have lies : ∀ n b, n ≤ g → k = b + (g - n) → Lies G S n g b → Lies G S n (g + 1) b := by
    intro n b hn hk hl i a d
    by_cases e : i = g
    · subst e
      exact ⟨c, x, h0, hc, by rw [← hk]; exact hx, ho⟩
    · exact hl i a (by omega)
  refine ⟨by omega, by omega, h.n1, h.f1, h.f0, h.n0, fun hn => ?_, fun hf => ?_⟩
  · obtain ⟨n, b, b0, rfl, rfl, ⟨hng, hfn⟩, hb0, hbl, hk, hl, hno, hq⟩ := h.nn hn
    exact ⟨n, b, b0, rfl, rfl, ⟨by omega, hfn⟩, hb0, hbl, by omega, lies n b hng hk hl, hno, hq⟩
  · obtain ⟨f, a, e1, e2, e3, e4⟩ := h.ff hf
    exact ⟨f, a, e1, e2, by omega, fun hh => ⟨by have := (e4 hh).1; omega, lies f a e3 (e4 hh).1 (e4 hh).2⟩⟩
theorem rem_byte {c x : UInt8} (h0 : G[g]? = some c) (hc : c ≠ 42) (hx : S[k]? = some x) (ho : okc c x) : Rem G S (g + 1) (k + 1) near nearAt far farAt ↔ Rem G S g k near nearAt far farAt := by
  have : F G S g k ↔ F G S (g + 1) (k + 1) := by
    rw [F_byte h0 hc]
    constructor
    · rintro ⟨_, _, _, h⟩; exact h
    · exact fun h => ⟨x, hx, ho, h⟩
  unfold Rem
  rw [this]
/-- nothing fits here: the nearer place -/
theorem Inv.near_no (h : Inv G S g k near nearAt far farAt) (hF : ¬ F G S g k) {n b : Nat} (e1 : near = n) (e2 : nearAt = b) : ¬ F G S n b := by
  obtain ⟨n', b', b0, e3, e4, ⟨hng, hfn⟩, hb0, hbl, hk, hl, hno, hq⟩ := h.nn (by omega)
  obtain rfl : n = n' := by omega
  obtain rfl : b = b' := by omega
  intro hh
  apply hF
  rw [hk]
  exact (F_over hng hl.ns hh).2
theorem inv_near (h : Inv G S g k near nearAt far farAt) (hF : ¬ F G S g k) {n b : Nat} (e1 : near = n) (e2 : nearAt = b) (hb : b < S.length) : Inv G S n (b + 1) near ((b + 1 : Nat) : Int) far farAt := by
  have hno' := h.near_no hF e1 e2
  obtain ⟨n', b', b0, e3, e4, ⟨hng, hfn⟩, hb0, hbl, hk, hl, hno, hq⟩ := h.nn (by omega)
  obtain rfl : n = n' := by omega
  obtain rfl : b = b' := by omega
  have hg := h.hg
  refine ⟨by omega, by omega, h.n1, h.f1, h.f0, ⟨by omega, by omega⟩, fun _ => ⟨n, b + 1, b0, e1, rfl, ⟨Nat.le_refl _, hfn⟩, by omega, by omega, by omega, fun i x y => by omega, fun q x y => ?_, hq⟩, fun hf => ?_⟩
  · by_cases e : q = b
    · subst e; exact hno'
    · exact hno q x (by omega)
  · obtain ⟨f, a, x1, x2, x3, x4⟩ := h.ff hf
    exact ⟨f, a, x1, x2, by omega, fun hh => by omega⟩
theorem rem_near (h : Inv G S g k near nearAt far farAt) (hF : ¬ F G S g k) {n b : Nat} (e1 : near = n) (e2 : nearAt = b) (hbl : b < S.length) (hb : S[b]? ≠ some 47) : Rem G S n (b + 1) near ((b + 1 : Nat) : Int) far farAt ↔ Rem G S g k near nearAt far farAt := by
  unfold Rem
  subst e1 e2
  constructor
  · rintro (h' | ⟨hn, m, a, bb, c, d⟩ | h')
    · refine .inr (.inl ⟨by omega, b + 1, by omega, by omega, fun i x y => ?_, h'⟩)
      obtain rfl : i = b := by omega
      exact hb
    · refine .inr (.inl ⟨by omega, m, by omega, bb, fun i x y => ?_, d⟩)
      by_cases e : i = b
      · subst e; exact hb
      · exact c i (by omega) y
    · exact .inr (.inr h')
  · rintro (h' | ⟨hn, m, a, bb, c, d⟩ | h')
    · exact absurd h' hF
    · by_cases e : m = b + 1
      · subst e; exact .inl d
      · exact .inr (.inl ⟨by omega, m, by omega, bb, fun i x y => c i (by omega) y, d⟩)
    · exact .inr (.inr h')
/-- nothing fits here, nor from the nearer place: the farther one -/
theorem inv_far (h : Inv G S g k near nearAt far farAt) {f a : Nat} (e1 : far = f) (e2 : farAt = a) (ha : a < S.length) : Inv G S f (a + 1) (-1) nearAt far ((a + 1 : Nat) : Int) := by
  obtain ⟨f', a', x1, x2, x3, x4⟩ := h.ff (by omega)
  have hg := h.hg
  exact ⟨by omega, by omega, by omega, h.f1, ⟨by omega, by omega⟩, h.n0, fun hh => by omega, fun _ => ⟨f, a + 1, e1, rfl, Nat.le_refl _, fun _ => ⟨by omega, fun i x y => by omega⟩⟩⟩
theorem rem_far (hF : ¬ F G S g k) (hN : near < 0 ∨ nearAt < 0 ∨ (S.length : Int) ≤ nearAt ∨ S[nearAt.toNat]? = some 47) {f a : Nat} (e1 : far = f) (e2 : farAt = a) (ha : a < S.length) (hn0 : 0 ≤ near → 0 ≤ nearAt) : Rem G S f (a + 1) (-1) nearAt far ((a + 1 : Nat) : Int) ↔ Rem G S g k near nearAt far farAt := by
  unfold Rem
  subst e1 e2
  constructor
  · rintro (h' | ⟨hn, _⟩ | ⟨hf, j, x, y, z⟩)
    · exact .inr (.inr ⟨by omega, a + 1, by omega, by omega, h'⟩)
    · omega
    · exact .inr (.inr ⟨hf, j, by omega, y, z⟩)
  · rintro (h' | ⟨hn, m, x, y, c, d⟩ | ⟨hf, j, x, y, z⟩)
    · exact absurd h' hF
    · exfalso
      have := hn0 hn
      rcases hN with h | h | h | h
      · omega
      · omega
      · omega
      · exact c nearAt.toNat (by omega) (by omega) h
    · by_cases e : j = a + 1
      · subst e; exact .inl z
      · exact .inr (.inr ⟨hf, j, by omega, y, z⟩)
/-- nothing is left -/
theorem rem_none (hF : ¬ F G S g k) (hN : near < 0 ∨ nearAt < 0 ∨ (S.length : Int) ≤ nearAt ∨ S[nearAt.toNat]? = some 47) (hn0 : 0 ≤ near → 0 ≤ nearAt) (hf : far < 0 ∨ (S.length : Int) ≤ farAt) : ¬ Rem G S g k near nearAt far farAt := by
  rintro (h' | ⟨hn, m, x, y, c, d⟩ | ⟨hf', j, x, y, z⟩)
  · exact hF h'
  · have := hn0 hn
    rcases hN with h | h | h | h
    · omega
    · omega
    · omega
    · exact c nearAt.toNat (by omega) (by omega) h
  · omega
theorem rem_end (h1 : g = G.length) (h2 : k = S.length) : Rem G S g k near nearAt far farAt := by
  subst h1 h2
  exact .inl ((F_end (Nat.le_refl _)).2 rfl)
end
theorem inv_first (G S : List UInt8) : Inv G S 0 0 (-1) 0 (-1) 0 := ⟨by omega, by omega, by omega, by omega, ⟨by omega, by omega⟩, ⟨by omega, by omega⟩, fun h => by omega, fun h => by omega⟩
theorem rem_first (G S : List UInt8) : Rem G S 0 0 (-1) 0 (-1) 0 ↔ F G S 0 0 := by
  unfold Rem
  constructor
  · rintro (h | ⟨h, _⟩ | ⟨h, _⟩)
    · exact h
    · omega
    · omega
  · exact fun h => .inl h
end Go.Proofs.Ytpphdmpnnnimdaa.Pl
