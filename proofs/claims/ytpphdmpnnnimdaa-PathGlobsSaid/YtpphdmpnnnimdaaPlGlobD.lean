/- Globs: the reference's table of beginnings tells when a glob fits. -/
import Derived.Test.YtpphdmpnnnimdaaPlGlobR
import Derived.Test.YtpphdmpnnnimdaaPxf27
namespace Go.Proofs.Ytpphdmpnnnimdaa.Pl
open Go.RowKit Go.Proofs.YtpphdmpnnnimdaaW.PrintWords Go.Proofs.Ytpphdmpnnnimdaa.P
set_option linter.unusedVariables false
set_option linter.unusedSimpArgs false

/-- a table whose first i places are told -/
def row (N : Nat) (D : Nat → Bool) (i : Nat) : List Bool := (List.range (N + 1)).map fun j => if j < i then D j else false
theorem row_length (N : Nat) (D : Nat → Bool) (i : Nat) : (row N D i).length = N + 1 := by simp [row]
theorem row_get {N : Nat} (D : Nat → Bool) (i : Nat) {j : Nat} (h : j ≤ N) : (row N D i)[j]? = some (if j < i then D j else false) := by
  unfold row
  rw [List.getElem?_map, List.getElem?_range (by omega)]
  rfl
theorem row_zero (N : Nat) (D : Nat → Bool) : row N D 0 = List.replicate (N + 1) false := by
  apply List.ext_getElem?
  intro j
  by_cases h : j ≤ N
  · rw [row_get D 0 h, if_neg (by omega), List.getElem?_replicate, if_pos (by omega)]
  · rw [List.getElem?_eq_none (by rw [row_length]; omega), List.getElem?_eq_none (by simp; omega)]
theorem row_one (N : Nat) (D : Nat → Bool) (h : D 0 = false) : row N D 1 = List.replicate (N + 1) false := by
  apply List.ext_getElem?
  intro j
  by_cases h' : j ≤ N
  · have hr : (List.replicate (N + 1) false)[j]? = some false := by rw [List.getElem?_replicate, if_pos (by omega)]
    rw [row_get D 1 h', hr]
    by_cases e : j = 0
    · subst e; rw [if_pos (by omega), h]
    · rw [if_neg (by omega)]
  · rw [List.getElem?_eq_none (by rw [row_length]; omega), List.getElem?_eq_none (by simp; omega)]
theorem row_set (N : Nat) (D : Nat → Bool) (i : Nat) (b : Bool) (hb : b = D i) : (row N D i).set i b = row N D (i + 1) := by
  apply List.ext_getElem?
  intro j
  rw [List.getElem?_set]
  by_cases h : j ≤ N
  · rw [row_get D i h, row_get D (i + 1) h, row_length]
    by_cases e : i = j
    · subst e
      rw [if_pos rfl, if_pos (by omega), if_pos (by omega), hb]
    · rw [if_neg e]
      by_cases e2 : j < i
      · rw [if_pos e2, if_pos (by omega)]
      · rw [if_neg e2, if_neg (by omega)]
  · rw [List.getElem?_eq_none (l := row N D (i + 1)) (by rw [row_length]; omega), List.getElem?_eq_none (l := row N D i) (by rw [row_length]; omega), row_length]
    by_cases e : i = j
    · rw [if_pos e, if_neg (by omega)]
    · rw [if_neg e]
theorem rd_row {N : Nat} (D : Nat → Bool) (i : Nat) {j : Nat} (h : j ≤ N) : rdOf false (row N D i) (j : Int) = (if j < i then D j else false) := by
  unfold rdOf
  rw [Int.toNat_natCast, List.getD_eq_getElem?_getD, row_get D i h]
  rfl
theorem rd_nat (x : List Bool) (j : Nat) : rdOf false x (j : Int) = x.getD j false := by unfold rdOf; rw [Int.toNat_natCast]
def at_ (x : List Bool) (j : Nat) : Bool := x.getD j false
def D1 (x : List Bool) : Nat → Bool
  | 0 => at_ x 0
  | j + 1 => at_ x (j + 1) || D1 x j
def D2 (S : List UInt8) (x : List Bool) : Nat → Bool
  | 0 => at_ x 0
  | j + 1 => at_ x (j + 1) || (D2 S x j && decide (S[j]? ≠ some 47))
def D3 (S : List UInt8) (c : UInt8) (x : List Bool) : Nat → Bool
  | 0 => false
  | j + 1 => at_ x j && (match S[j]? with | some y => (if c = 63 then decide (y ≠ 47) else decide (c = y)) | none => false)
theorem D1_iff (x : List Bool) : ∀ j, D1 x j = true ↔ ∃ m, m ≤ j ∧ at_ x m = true := by
  intro j
  induction j with
  | zero =>
    unfold D1
    exact ⟨fun h => ⟨0, Nat.le_refl _, h⟩, fun ⟨m, h1, h2⟩ => by rw [Nat.le_zero.1 h1] at h2; exact h2⟩
  | succ j ih =>
    unfold D1
    rw [Bool.or_eq_true, ih]
    constructor
    · rintro (h | ⟨m, h1, h2⟩)
      · exact ⟨j + 1, Nat.le_refl _, h⟩
      · exact ⟨m, by omega, h2⟩
    · rintro ⟨m, h1, h2⟩
      by_cases e : m = j + 1
      · subst e; exact .inl h2
      · exact .inr ⟨m, by omega, h2⟩
theorem D2_iff (S : List UInt8) (x : List Bool) : ∀ j, D2 S x j = true ↔ ∃ m, m ≤ j ∧ at_ x m = true ∧ ∀ i, m ≤ i → i < j → S[i]? ≠ some 47 := by
  intro j
  induction j with
  | zero =>
    unfold D2
    exact ⟨fun h => ⟨0, Nat.le_refl _, h, fun i a b => by omega⟩, fun ⟨m, h1, h2, _⟩ => by rw [Nat.le_zero.1 h1] at h2; exact h2⟩
  | succ j ih =>
    unfold D2
    rw [Bool.or_eq_true, Bool.and_eq_true, ih, decide_eq_true_eq]
    constructor
    · rintro (h | ⟨⟨m, h1, h2, h3⟩, h4⟩)
      · exact ⟨j + 1, Nat.le_refl _, h, fun i a b => by omega⟩
      · refine ⟨m, by omega, h2, fun i a b => ?_⟩
        by_cases e : i = j
        · subst e; exact h4
        · exact h3 i a (by omega)
    · rintro ⟨m, h1, h2, h3⟩
      by_cases e : m = j + 1
      · subst e; exact .inl h2
      · exact .inr ⟨⟨m, by omega, h2, fun i a b => h3 i a (by omega)⟩, h3 j (by omega) (by omega)⟩
theorem D3_iff (S : List UInt8) (c : UInt8) (x : List Bool) (j : Nat) : D3 S c x (j + 1) = true ↔ at_ x j = true ∧ ∃ y, S[j]? = some y ∧ okc c y := by
  unfold D3
  rw [Bool.and_eq_true]
  cases hS : S[j]? with
  | none => simp
  | some y =>
    simp only [Option.some.injEq, exists_eq_left']
    unfold okc
    by_cases e : c = 63
    · simp [e]
    · simp [e]
theorem at_row (S : ByteArray) (D : Nat → Bool) {j : Nat} (h : j ≤ S.size) : at_ (row S.size D (S.size + 1)) j = D j := by
  unfold at_
  rw [List.getD_eq_getElem?_getD, row_get D _ h, if_pos (by omega)]
  rfl
section
variable (G S : ByteArray) (hG : G.size ≤ 1000000000) (hS : S.size ≤ 1000000000)
include hG hS
theorem ref_l1 (x : List Bool) (hx : x.length = S.size + 1) (g : Nat) (hg : g < G.size) {r : Bool} (hr : Ev (fun k => brickyardref09_Glob.l0 k G S (row S.size (D1 x) (S.size + 1)) ((g + 1 : Nat) : Int)) r) :
    ∀ d i, i + d = S.size + 1 → Ev (fun k => brickyardref09_Glob.l1 k G S x (g : Int) (row S.size (D1 x) i) (i : Int)) r := by
  intro d
  induction d with
  | zero =>
    intro i hi
    refine ev_succ ?_
    simp only [brickyardref09_Glob.l1]
    refine ev_ite_neg (by omega) ?_
    rw [wsucc (by omega), show i = S.size + 1 by omega]
    exact hr
  | succ d ih =>
    intro i hi
    have e := ih (i + 1) (by omega)
    have hl := row_length S.size (D1 x) i
    refine ev_succ ?_
    simp only [brickyardref09_Glob.l1]
    refine ev_ite_pos (by omega) (ev_ite_pos (by omega) (ev_ite_pos (by omega) ?_))
    rw [rd_nat, wsucc (by omega), Int.toNat_natCast]
    cases hv : x.getD i false with
    | true =>
      refine ev_ite_pos rfl (ev_ite_pos (by omega) ?_)
      rw [row_set _ _ _ true (by cases i <;> simp only [D1, at_, hv, Bool.true_or])]
      exact e
    | false =>
      refine ev_ite_neg (by simp) ?_
      cases i with
      | zero =>
        refine ev_ite_neg (by omega) (ev_ite_pos (by omega) ?_)
        rw [row_set _ _ _ false (by simp only [D1, at_, hv])]
        exact e
      | succ i =>
        rw [w64 (x := ((i + 1 : Nat) : Int) - 1) (by omega) (by omega), show ((i + 1 : Nat) : Int) - 1 = (i : Int) by omega]
        refine ev_ite_pos (by omega) (ev_ite_pos (by omega) (ev_ite_pos (by omega) (ev_ite_pos (by omega) ?_)))
        rw [rd_row _ _ (by omega), if_pos (by omega), row_set _ _ _ (D1 x i) (by simp only [D1, at_, hv, Bool.false_or])]
        exact e
theorem ref_l2 (x : List Bool) (hx : x.length = S.size + 1) (g : Nat) (hg : g < G.size) {r : Bool} (hr : Ev (fun k => brickyardref09_Glob.l0 k G S (row S.size (D2 (L S) x) (S.size + 1)) ((g + 1 : Nat) : Int)) r) :
    ∀ d i, i + d = S.size + 1 → Ev (fun k => brickyardref09_Glob.l2 k G S x (g : Int) (row S.size (D2 (L S) x) i) (i : Int)) r := by
  have sS := size_L S
  intro d
  induction d with
  | zero =>
    intro i hi
    refine ev_succ ?_
    simp only [brickyardref09_Glob.l2]
    refine ev_ite_neg (by omega) ?_
    rw [wsucc (by omega), show i = S.size + 1 by omega]
    exact hr
  | succ d ih =>
    intro i hi
    have e := ih (i + 1) (by omega)
    have hl := row_length S.size (D2 (L S) x) i
    refine ev_succ ?_
    simp only [brickyardref09_Glob.l2]
    refine ev_ite_pos (by omega) (ev_ite_pos (by omega) (ev_ite_pos (by omega) ?_))
    rw [rd_nat, wsucc (by omega), Int.toNat_natCast]
    cases hv : x.getD i false with
    | true =>
      refine ev_ite_pos rfl (ev_ite_pos (by omega) ?_)
      rw [row_set _ _ _ true (by cases i <;> simp only [D2, at_, hv, Bool.true_or])]
      exact e
    | false =>
      refine ev_ite_neg (by simp) ?_
      cases i with
      | zero =>
        refine ev_ite_neg (by omega) (ev_ite_pos (by omega) ?_)
        rw [row_set _ _ _ false (by simp only [D2, at_, hv])]
        exact e
      | succ i =>
        have hlt : i < (L S).length := by omega
        rw [w64 (x := ((i + 1 : Nat) : Int) - 1) (by omega) (by omega), show ((i + 1 : Nat) : Int) - 1 = (i : Int) by omega]
        refine ev_ite_pos (by omega) (ev_ite_pos (by omega) (ev_ite_pos (by omega) ?_))
        rw [rd_row _ _ (by omega), if_pos (by omega)]
        cases hd : D2 (L S) x i with
        | false =>
          refine ev_ite_neg (by simp) (ev_ite_pos (by omega) ?_)
          rw [row_set _ _ _ false (by simp only [D2, at_, hv, hd, Bool.false_or, Bool.false_and])]
          exact e
        | true =>
          refine ev_ite_pos rfl (ev_ite_pos (by omega) (ev_ite_pos (by omega) ?_))
          rw [row_set _ _ _ (bt S (i : Int) != 47) ?_]
          · exact e
          · have h47 := some_bt (s := S) hlt 47
            simp only [D2, hv, hd, at_, Bool.false_or, Bool.true_and]
            rw [Bool.eq_iff_iff, bne_iff_ne, decide_eq_true_eq]
            exact not_congr h47
theorem ref_l3 (x : List Bool) (hx : x.length = S.size + 1) (g : Nat) (hg : g < G.size) (c : UInt8) (hc : (L G)[g]? = some c) {r : Bool} (hr : Ev (fun k => brickyardref09_Glob.l0 k G S (row S.size (D3 (L S) c x) (S.size + 1)) ((g + 1 : Nat) : Int)) r) :
    ∀ d i, i + d = S.size → Ev (fun k => brickyardref09_Glob.l3 k G S x (g : Int) (row S.size (D3 (L S) c x) (i + 1)) (i : Int)) r := by
  have sS := size_L S
  intro d
  induction d with
  | zero =>
    intro i hi
    refine ev_succ ?_
    simp only [brickyardref09_Glob.l3]
    refine ev_ite_neg (by omega) ?_
    rw [wsucc (by omega), show i = S.size by omega]
    exact hr
  | succ d ih =>
    intro i hi
    have e := ih (i + 1) (by omega)
    have hl := row_length S.size (D3 (L S) c x) (i + 1)
    have hlt : i < (L S).length := by omega
    have hy : (L S)[i]? = some ((L S)[i]'hlt) := List.getElem?_eq_getElem hlt
    refine ev_succ ?_
    simp only [brickyardref09_Glob.l3]
    refine ev_ite_pos (by omega) (ev_ite_pos (by omega) (ev_ite_pos (by omega) ?_))
    rw [rd_nat, wsucc (by omega), Int.toNat_natCast, bt_some hc, bt_some hy]
    cases hv : x.getD i false with
    | false =>
      refine ev_ite_neg (by simp) (ev_ite_pos (by omega) (ev_ite_pos (by omega) ?_))
      rw [row_set _ _ _ false (by simp only [D3, at_, hv, Bool.false_and])]
      exact e
    | true =>
      refine ev_ite_pos rfl (ev_ite_pos (by omega) (ev_ite_pos (by omega) ?_))
      have e2 : ((c.toNat : Int) = 63) ↔ c = 63 := ⟨fun h => UInt8.toNat.inj (by show c.toNat = 63; omega), fun h => by rw [h]; rfl⟩
      have e3 : ((((L S)[i]'hlt).toNat : Int) = 47) ↔ (L S)[i]'hlt = 47 := ⟨fun h => UInt8.toNat.inj (by show ((L S)[i]'hlt).toNat = 47; omega), fun h => by rw [h]; rfl⟩
      by_cases h1 : c = 63
      · refine ev_ite_pos (e2.2 h1) ?_
        by_cases h2 : (L S)[i]'hlt = 47
        · refine ev_ite_pos (e3.2 h2) (ev_ite_pos (by omega) (ev_ite_pos (by omega) ?_))
          rw [row_set _ _ _ false (by simp only [D3, hy]; simp [h1, h2])]
          exact e
        · refine ev_ite_neg (fun h => h2 (e3.1 h)) (ev_ite_pos (by omega) (ev_ite_pos (by omega) ?_))
          rw [row_set _ _ _ true (by simp only [D3, hy, at_, hv, Bool.true_and]; rw [if_pos h1]; exact (decide_eq_true h2).symm)]
          exact e
      · refine ev_ite_neg (fun h => h1 (e2.1 h)) (ev_ite_pos (by omega) (ev_ite_pos (by omega) ?_))
        rw [row_set _ _ _ ((c.toNat : Int) == (((L S)[i]'hlt).toNat : Int)) ?_]
        · exact e
        · simp only [D3, hy, at_, hv]
          rw [if_neg h1, Bool.true_and, Bool.eq_iff_iff, beq_iff_eq, decide_eq_true_eq]
          exact ⟨fun h => UInt8.toNat.inj (by omega), fun h => by rw [h]⟩
theorem ref_l0 : ∀ d g x, g ≤ G.size → G.size - g ≤ d → x.length = S.size + 1 → ∃ r : Bool, Ev (fun k => brickyardref09_Glob.l0 k G S x (g : Int)) r ∧ (r = true ↔ ∃ k, k ≤ S.size ∧ at_ x k = true ∧ F (L G) (L S) g k) := by
  have sG := size_L G
  have sS := size_L S
  intro d
  induction d using Nat.strongRecOn with
  | _ d ih =>
  intro g x hg hd hx
  by_cases e : g = G.size
  · refine ⟨at_ x S.size, ?_, ?_⟩
    · refine ev_succ ?_
      simp only [brickyardref09_Glob.l0]
      refine ev_ite_neg (by omega) (ev_ite_pos (by omega) (ev_ite_pos (by omega) (ev_const ?_)))
      rw [rd_nat]
      rfl
    · constructor
      · exact fun h => ⟨S.size, Nat.le_refl _, h, by rw [e, sG, sS]; exact (F_end (Nat.le_refl _)).2 rfl⟩
      · rintro ⟨k, h1, h2, h3⟩
        rw [e, sG] at h3
        have := (F_end (by omega)).1 h3
        rw [sS, ← this]
        exact h2
  have hlt : g < (L G).length := by omega
  have hc : (L G)[g]? = some ((L G)[g]'hlt) := List.getElem?_eq_getElem hlt
  have start : ∀ {r : Bool}, Ev (fun k => if (bt G (g : Int)) = 42 then (if (wrap64 ((g : Int) + 1)) < (G.size : Int) then (if 0 ≤ (wrap64 ((g : Int) + 1)) then (brickyardref09_Glob.j1 k G S x (g : Int) (List.replicate (S.size + 1) false) ((bt G (wrap64 ((g : Int) + 1))) == 42)) else (none)) else (brickyardref09_Glob.j1 k G S x (g : Int) (List.replicate (S.size + 1) false) false)) else (brickyardref09_Glob.j1 k G S x (g : Int) (List.replicate (S.size + 1) false) false)) r → Ev (fun k => brickyardref09_Glob.l0 k G S x (g : Int)) r := by
    intro r h
    refine ev_succ ?_
    simp only [brickyardref09_Glob.l0]
    rw [wsucc (i := S.size) (by omega), Int.toNat_natCast]
    refine ev_ite_pos (by omega) (ev_ite_pos (by omega) (ev_ite_pos (by omega) ?_))
    exact ev_bind (ev_const rfl) (ev_ite_pos (by omega) h)
  by_cases c1 : (L G)[g]'hlt = 42
  · have hg42 : (L G)[g]? = some 42 := by rw [hc, c1]
    by_cases c2 : (L G)[g + 1]? = some 42
    · have l1 : g + 1 < (L G).length := (List.getElem?_eq_some_iff.1 c2).1
      obtain ⟨r, hr, hi⟩ := ih (d - 2) (by omega) (g + 2) (row S.size (D1 x) (S.size + 1)) (by omega) (by omega) (row_length _ _ _)
      refine ⟨r, start ?_, hi.trans ?_⟩
      · rw [wsucc (i := g) (by omega)]
        refine ev_ite_pos (bt_some hg42) (ev_ite_pos (by omega) (ev_ite_pos (by omega) (ev_succ ?_)))
        simp only [brickyardref09_Glob.j1]
        refine ev_ite_pos (by rw [bt_some c2]; rfl) ?_
        rw [wsucc (i := g) (by omega), ← row_zero S.size (D1 x)]
        exact ref_l1 G S hG hS x hx (g + 1) (by omega) hr (S.size + 1) 0 (by omega)
      · constructor
        · rintro ⟨k, h1, h2, h3⟩
          rw [at_row S _ h1, D1_iff] at h2
          obtain ⟨m, m1, m2⟩ := h2
          exact ⟨m, by omega, m2, (F_two hg42 c2 (by omega)).2 ⟨k, m1, by omega, h3⟩⟩
        · rintro ⟨k, h1, h2, h3⟩
          obtain ⟨m, m1, m2, m3⟩ := (F_two hg42 c2 (by omega)).1 h3
          exact ⟨m, by omega, by rw [at_row S _ (by omega), D1_iff]; exact ⟨k, m1, h2⟩, m3⟩
    · obtain ⟨r, hr, hi⟩ := ih (d - 1) (by omega) (g + 1) (row S.size (D2 (L S) x) (S.size + 1)) (by omega) (by omega) (row_length _ _ _)
      refine ⟨r, start ?_, hi.trans ?_⟩
      · have hj : Ev (fun k => brickyardref09_Glob.j1 k G S x (g : Int) (List.replicate (S.size + 1) false) false) r := by
          refine ev_succ ?_
          simp only [brickyardref09_Glob.j1]
          refine ev_ite_neg (by simp) (ev_ite_pos (by omega) (ev_ite_pos (by omega) (ev_ite_pos (bt_some hg42) ?_)))
          rw [← row_zero S.size (D2 (L S) x)]
          exact ref_l2 G S hG hS x hx g (by omega) hr (S.size + 1) 0 (by omega)
        rw [wsucc (i := g) (by omega)]
        refine ev_ite_pos (bt_some hg42) ?_
        by_cases l1 : g + 1 < (L G).length
        · refine ev_ite_pos (by omega) (ev_ite_pos (by omega) ?_)
          rw [show (bt G ((g + 1 : Nat) : Int) == 42) = false from beq_eq_false_iff_ne.2 (fun e => c2 ((some_bt l1 42).1 e))]
          exact hj
        · exact ev_ite_neg (by omega) hj
      · constructor
        · rintro ⟨k, h1, h2, h3⟩
          rw [at_row S _ h1, D2_iff] at h2
          obtain ⟨m, m1, m2, m3⟩ := h2
          exact ⟨m, by omega, m2, (F_star hg42 c2 (by omega)).2 ⟨k, m1, by omega, m3, h3⟩⟩
        · rintro ⟨k, h1, h2, h3⟩
          obtain ⟨m, m1, m2, m3, m4⟩ := (F_star hg42 c2 (by omega)).1 h3
          exact ⟨m, by omega, by rw [at_row S _ (by omega), D2_iff]; exact ⟨k, m1, h2, m3⟩, m4⟩
  · have hn : ¬ bt G (g : Int) = 42 := fun e => c1 (by have := (some_bt hlt 42).1 e; rw [hc] at this; exact Option.some.inj this)
    obtain ⟨r, hr, hi⟩ := ih (d - 1) (by omega) (g + 1) (row S.size (D3 (L S) ((L G)[g]'hlt) x) (S.size + 1)) (by omega) (by omega) (row_length _ _ _)
    refine ⟨r, start ?_, hi.trans ?_⟩
    · refine ev_ite_neg hn (ev_succ ?_)
      simp only [brickyardref09_Glob.j1]
      refine ev_ite_neg (by simp) (ev_ite_pos (by omega) (ev_ite_pos (by omega) (ev_ite_neg hn ?_)))
      rw [← row_one S.size (D3 (L S) ((L G)[g]'hlt) x) rfl]
      exact ref_l3 G S hG hS x hx g (by omega) _ hc hr S.size 0 (by omega)
    · constructor
      · rintro ⟨k, h1, h2, h3⟩
        rw [at_row S _ h1] at h2
        cases k with
        | zero => cases h2
        | succ k =>
          obtain ⟨h4, y, h5, h6⟩ := (D3_iff _ _ _ _).1 h2
          exact ⟨k, by omega, h4, (F_byte hc c1).2 ⟨y, h5, h6, h3⟩⟩
      · rintro ⟨k, h1, h2, h3⟩
        obtain ⟨y, h5, h6, h7⟩ := (F_byte hc c1).1 h3
        have lk : k < (L S).length := (List.getElem?_eq_some_iff.1 h5).1
        exact ⟨k + 1, by omega, by rw [at_row S _ (by omega)]; exact (D3_iff _ _ _ _).2 ⟨h2, y, h5, h6⟩, h7⟩
theorem refglob_ev : ∃ r : Bool, Ev (fun k => brickyardref09_Glob.f k G S) r ∧ (r = true ↔ fits (L G) (L S)) := by
  obtain ⟨r, hr, hi⟩ := ref_l0 G S hG hS G.size 0 ((List.replicate (S.size + 1) false).set 0 true) (by omega) (by omega) (by simp)
  refine ⟨r, ?_, hi.trans ?_⟩
  · simp only [brickyardref09_Glob.f]
    rw [wsucc (i := S.size) (by omega), Int.toNat_natCast]
    refine ev_ite_pos (by omega) (ev_ite_pos (by omega) ?_)
    refine ev_bind (ev_const rfl) (ev_ite_pos (by rw [List.length_replicate]; omega) ?_)
    exact hr
  · constructor
    · rintro ⟨k, h1, h2, h3⟩
      cases k with
      | zero => exact h3
      | succ k =>
        exfalso
        unfold at_ at h2
        rw [List.getD_eq_getElem?_getD, List.getElem?_set, if_neg (by omega), List.getElem?_replicate, if_pos (by omega)] at h2
        cases h2
    · intro h
      refine ⟨0, Nat.zero_le _, ?_, h⟩
      unfold at_
      rw [List.getD_eq_getElem?_getD, List.getElem?_set, if_pos rfl, if_pos (by simp)]
      rfl
end
end Go.Proofs.Ytpphdmpnnnimdaa.Pl
