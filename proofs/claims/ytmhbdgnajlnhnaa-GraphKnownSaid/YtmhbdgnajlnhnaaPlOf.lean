/- The document's graph of edges and names, plainly; the program's graph tells the same. -/
import Derived.Test.YtmhbdgnajlnhnaaPlPure
import Derived.Test.YtmhbdgnajlnhnaaGTurn
namespace Go.Proofs.Ytmhbdgnajlnhnaa.Pl
open Go.RowKit Go.Proofs.YtmhbdgnajlnhnaaW.PrintWords Go.Proofs.Ytmhbdgnajlnhnaa.P
set_option linter.unusedVariables false
set_option linter.unusedSimpArgs false
def ltE (x y : S45) : Prop := ltB x.f0 y.f0 ∨ (x.f0 = y.f0 ∧ ltB x.f1 y.f1)
instance (x y : S45) : Decidable (ltE x y) := inferInstanceAs (Decidable (_ ∨ _))
def eqE (x y : S45) : Prop := x.f0 = y.f0 ∧ x.f1 = y.f1
instance (x y : S45) : Decidable (eqE x y) := inferInstanceAs (Decidable (_ ∧ _))
theorem eqE_iff {x y : S45} : eqE x y ↔ x = y := by
  cases x; cases y
  unfold eqE
  exact ⟨fun h => by obtain ⟨h1, h2⟩ := h; simp only at h1 h2; subst h1; subst h2; rfl, fun h => by injection h with h1 h2; exact ⟨h1, h2⟩⟩
theorem ltE_irr (x : S45) : ¬ ltE x x := fun h => h.elim (ltB_irr _) (fun h => ltB_irr _ h.2)
theorem ltE_tr {x y z : S45} (h : ltE x y) (h' : ltE y z) : ltE x z := by
  rcases h with h | ⟨e, h⟩
  · rcases h' with h' | ⟨e', h'⟩
    · exact .inl (ltB_tr h h')
    · exact .inl (e' ▸ h)
  · rcases h' with h' | ⟨e', h'⟩
    · exact .inl (e ▸ h')
    · exact .inr ⟨e.trans e', ltB_tr h h'⟩
theorem ltE_or {x y : S45} (h : ¬ ltE x y) (hne : ¬ eqE x y) : ltE y x := by
  unfold ltE at h ⊢
  rw [not_or] at h
  by_cases e : x.f0 = y.f0
  · refine .inr ⟨e.symm, ltB_or (fun h' => h.2 ⟨e, h'⟩) (fun e1 => hne ⟨e, e1⟩)⟩
  · exact .inl (ltB_or h.1 e)
def insE (x : S45) : List S45 → List S45
  | [] => [x]
  | y :: t => if ltE y x then y :: insE x t else if eqE y x then y :: t else x :: y :: t
def ofE (l : List S45) : List S45 := l.foldl (fun a x => insE x a) []
def SE (l : List S45) : Prop := l.Pairwise ltE
theorem mem_insE (x z : S45) : ∀ l, z ∈ insE x l ↔ z = x ∨ z ∈ l
  | [] => by simp [insE]
  | y :: t => by
    unfold insE
    split
    · rw [List.mem_cons, mem_insE x z t, List.mem_cons]
      constructor
      · rintro (h | h | h)
        · exact .inr (.inl h)
        · exact .inl h
        · exact .inr (.inr h)
      · rintro (h | h | h)
        · exact .inr (.inl h)
        · exact .inl h
        · exact .inr (.inr h)
    · split
      · rename_i h; have h := eqE_iff.1 h; subst h; simp
      · simp
theorem se_insE (x : S45) : ∀ l, SE l → SE (insE x l)
  | [], _ => by simp [SE, insE]
  | y :: t, h => by
    have h1 := List.pairwise_cons.1 h
    unfold insE
    split
    · rename_i hlt
      refine List.pairwise_cons.2 ⟨fun z hz => ?_, se_insE x t h1.2⟩
      rcases (mem_insE x z t).1 hz with rfl | hz
      · exact hlt
      · exact h1.1 z hz
    · rename_i hlt
      split
      · exact h
      · rename_i hne
        have hxy : ltE x y := ltE_or hlt hne
        refine List.pairwise_cons.2 ⟨fun z hz => ?_, h⟩
        rcases List.mem_cons.1 hz with rfl | hz
        · exact hxy
        · exact ltE_tr hxy (h1.1 z hz)
theorem foldl_insE (l : List S45) : ∀ acc, SE acc → SE (l.foldl (fun a x => insE x a) acc) ∧ ∀ z, z ∈ l.foldl (fun a x => insE x a) acc ↔ z ∈ acc ∨ z ∈ l := by
  induction l with
  | nil => intro acc h; exact ⟨h, fun z => by simp⟩
  | cons x l ih =>
    intro acc h
    obtain ⟨h1, h2⟩ := ih (insE x acc) (se_insE x acc h)
    refine ⟨h1, fun z => ?_⟩
    rw [List.foldl_cons, h2 z, mem_insE, List.mem_cons]
    constructor
    · rintro ((h | h) | h)
      · exact .inr (.inl h)
      · exact .inl h
      · exact .inr (.inr h)
    · rintro (h | h | h)
      · exact .inl (.inr h)
      · exact .inl (.inl h)
      · exact .inr h
theorem se_ofE (l : List S45) : SE (ofE l) := (foldl_insE l [] List.Pairwise.nil).1
theorem mem_ofE (l : List S45) (z : S45) : z ∈ ofE l ↔ z ∈ l := by
  rw [ofE, (foldl_insE l [] List.Pairwise.nil).2 z]
  simp
theorem ofE_snoc (l : List S45) (x : S45) : ofE (l ++ [x]) = insE x (ofE l) := by unfold ofE; rw [List.foldl_append]; rfl
theorem insE_len (x : S45) : ∀ l, (insE x l).length ≤ l.length + 1
  | [] => by simp [insE]
  | y :: t => by
    unfold insE
    split
    · have := insE_len x t; simp; omega
    · split <;> simp
theorem ofE_len (l : List S45) : (ofE l).length ≤ l.length := by
  have key : ∀ l acc : List S45, (l.foldl (fun a x => insE x a) acc).length ≤ acc.length + l.length := by
    intro l
    induction l with
    | nil => intro acc; simp
    | cons x l ih => intro acc; have h1 := ih (insE x acc); have h2 := insE_len x acc; simp at h1 ⊢; omega
  have := key l []
  simpa [ofE] using this
theorem se_uniq : ∀ a b : List S45, SE a → SE b → (∀ z, z ∈ a ↔ z ∈ b) → a = b
  | [], [], _, _, _ => rfl
  | [], y :: t, _, _, h => absurd ((h y).2 List.mem_cons_self) List.not_mem_nil
  | x :: s, [], _, _, h => absurd ((h x).1 List.mem_cons_self) List.not_mem_nil
  | x :: s, y :: t, ha, hb, h => by
    have ha' := List.pairwise_cons.1 ha
    have hb' := List.pairwise_cons.1 hb
    have hxy : x = y := by
      rcases List.mem_cons.1 ((h x).1 List.mem_cons_self) with e | hx
      · exact e
      · rcases List.mem_cons.1 ((h y).2 List.mem_cons_self) with e | hy
        · exact e.symm
        · exact absurd (ltE_tr (ha'.1 y hy) (hb'.1 x hx)) (ltE_irr x)
    subst hxy
    rw [se_uniq s t ha'.2 hb'.2 (fun z => ?_)]
    have hz := h z
    rw [List.mem_cons, List.mem_cons] at hz
    constructor
    · intro hs
      rcases hz.1 (.inr hs) with e | ht
      · subst e; exact absurd (ha'.1 z hs) (ltE_irr z)
      · exact ht
    · intro ht
      rcases hz.2 (.inr ht) with e | hs
      · subst e; exact absurd (hb'.1 z ht) (ltE_irr z)
      · exact hs
theorem insE_skip (x : S45) : ∀ (a b : List S45), (∀ y, y ∈ a → ltE y x) → insE x (a ++ b) = a ++ insE x b
  | [], b, _ => rfl
  | y :: a, b, h => by
    show insE x (y :: (a ++ b)) = y :: (a ++ insE x b)
    rw [insE, if_pos (h y List.mem_cons_self), insE_skip x a b (fun z hz => h z (List.mem_cons_of_mem _ hz))]
theorem se_edgesOf {G : GG} (hG : GOk G) : ∀ l : List ByteArray, SS l → SE (edgesOf G l)
  | [], _ => List.Pairwise.nil
  | s :: l, h => by
    have h1 := List.pairwise_cons.1 h
    have e : edgesOf G (s :: l) = ((G.out s).map fun t => (⟨s, t⟩ : S45)) ++ edgesOf G l := by unfold edgesOf; rw [List.flatMap_cons]
    rw [e]
    refine List.pairwise_append.2 ⟨List.pairwise_map.2 ((hG.outs s).imp (fun h => .inr ⟨rfl, h⟩)), se_edgesOf hG l h1.2, fun x hx y hy => ?_⟩
    obtain ⟨t, _, rfl⟩ := List.mem_map.1 hx
    exact .inl (h1.1 _ (mem_edgesOf.1 hy).1)
/-- edges that tell a graph, in their order -/
theorem ofE_edges {G : GG} (hG : GOk G) {E : List S45} (h : ∀ s t, t ∈ G.out s ↔ (⟨s, t⟩ : S45) ∈ E) : ofE E = edgesOf G G.ns := by
  refine se_uniq _ _ (se_ofE E) (se_edgesOf hG G.ns hG.rise) (fun z => ?_)
  rw [mem_ofE, mem_edgesOf, h]
  exact ⟨fun hz => ⟨Classical.byContradiction (fun hn => by have := (h z.f0 z.f1).2 hz; rw [hG.none _ hn] at this; cases this), hz⟩, fun hz => hz.2⟩
theorem outE_edges {G : GG} (hG : GOk G) (s : ByteArray) : outE (edgesOf G G.ns) s = G.out s := by
  refine ss_uniq _ _ (ss_srt _) (hG.outs s) (fun t => ?_)
  show t ∈ srt (tosE _ s) ↔ _
  rw [mem_srt]
  unfold tosE
  rw [List.mem_map]
  constructor
  · rintro ⟨e, he, rfl⟩
    rw [List.mem_filter, decide_eq_true_eq] at he
    obtain ⟨he, rfl⟩ := he
    exact (mem_edgesOf.1 he).2
  · intro ht
    refine ⟨⟨s, t⟩, List.mem_filter.2 ⟨mem_edgesOf.2 ⟨Classical.byContradiction (fun hn => by rw [hG.none s hn] at ht; cases ht), ht⟩, by simp⟩, rfl⟩
theorem rg_edges {G : GG} (hG : GOk G) (hn : G.ns.length ≤ 1000) : RG G (edgesOf G G.ns) :=
  ⟨hG, outE_edges hG, Nat.le_trans (edgesOf_len hG G.ns) (Nat.le_trans (Nat.mul_le_mul hn hn) (by decide)), by omega⟩
/-! ### the graph that is made -/
def madeG (E : List S45) (names : List ByteArray) : GG := addAll (linkAll emptyG E) names
theorem addAll_out (G : GG) : ∀ l : List ByteArray, (addAll G l).out = G.out := by
  intro l
  induction l generalizing G with
  | nil => rfl
  | cons x l ih => show (addAll (addG G x) l).out = _; rw [ih]; rfl
theorem mem_edgeG_out {G : GG} {a b s t : ByteArray} : t ∈ (edgeG G a b).out s ↔ t ∈ G.out s ∨ (s = a ∧ t = b) := by
  show t ∈ (if s = a then ins b (G.out a) else G.out s) ↔ _
  by_cases h : s = a
  · subst h
    rw [if_pos rfl, mem_ins]
    constructor
    · rintro (h | h)
      · exact .inr ⟨rfl, h⟩
      · exact .inl h
    · rintro (h | h)
      · exact .inr h
      · exact .inl h.2
  · rw [if_neg h]
    exact ⟨.inl, fun h' => h'.elim id (fun h' => absurd h'.1 h)⟩
theorem mem_linkG_out {G : GG} {a b s t : ByteArray} : t ∈ (linkG G a b).out s ↔ t ∈ G.out s ∨ (s = a ∧ t = b) := mem_edgeG_out (G := addG (addG G a) b)
theorem mem_linkG_ns {G : GG} {a b s : ByteArray} : s ∈ (linkG G a b).ns ↔ s ∈ G.ns ∨ s = a ∨ s = b := by
  show s ∈ ins b (ins a G.ns) ↔ _
  rw [mem_ins, mem_ins]
  constructor
  · rintro (h | h | h)
    · exact .inr (.inr h)
    · exact .inr (.inl h)
    · exact .inl h
  · rintro (h | h | h)
    · exact .inr (.inr h)
    · exact .inr (.inl h)
    · exact .inl h
theorem linkAll_mem : ∀ (E : List S45) (G : GG), (∀ s t, t ∈ (linkAll G E).out s ↔ t ∈ G.out s ∨ (⟨s, t⟩ : S45) ∈ E) ∧ ∀ s, s ∈ (linkAll G E).ns ↔ s ∈ G.ns ∨ ∃ e, e ∈ E ∧ (s = e.f0 ∨ s = e.f1) := by
  intro E
  induction E with
  | nil => exact fun G => ⟨fun s t => by show t ∈ G.out s ↔ _; simp, fun s => by show s ∈ G.ns ↔ _; simp⟩
  | cons e E ih =>
    intro G
    obtain ⟨h1, h2⟩ := ih (linkG G e.f0 e.f1)
    refine ⟨fun s t => ?_, fun s => ?_⟩
    · show t ∈ (linkAll (linkG G e.f0 e.f1) E).out s ↔ _
      rw [h1, mem_linkG_out, List.mem_cons]
      have : (⟨s, t⟩ : S45) = e ↔ s = e.f0 ∧ t = e.f1 := by
        rw [← eqE_iff]; rfl
      rw [this]
      constructor
      · rintro ((h | h) | h)
        · exact .inl h
        · exact .inr (.inl h)
        · exact .inr (.inr h)
      · rintro (h | h | h)
        · exact .inl (.inl h)
        · exact .inl (.inr h)
        · exact .inr h
    · show s ∈ (linkAll (linkG G e.f0 e.f1) E).ns ↔ _
      rw [h2, mem_linkG_ns]
      constructor
      · rintro ((h | h) | ⟨x, hx, h⟩)
        · exact .inl h
        · exact .inr ⟨e, List.mem_cons_self, h⟩
        · exact .inr ⟨x, List.mem_cons_of_mem _ hx, h⟩
      · rintro (h | ⟨x, hx, h⟩)
        · exact .inl (.inl h)
        · rcases List.mem_cons.1 hx with rfl | hx
          · exact .inl (.inr h)
          · exact .inr ⟨x, hx, h⟩
theorem mem_madeG_out (E : List S45) (names : List ByteArray) (s t : ByteArray) : t ∈ (madeG E names).out s ↔ (⟨s, t⟩ : S45) ∈ E := by
  unfold madeG
  rw [addAll_out, (linkAll_mem E emptyG).1]
  constructor
  · rintro (h | h)
    · cases h
    · exact h
  · exact .inr
theorem mem_madeG_ns (E : List S45) (names : List ByteArray) (s : ByteArray) : s ∈ (madeG E names).ns ↔ s ∈ names ∨ ∃ e, e ∈ E ∧ (s = e.f0 ∨ s = e.f1) := by
  unfold madeG
  rw [addAll_mem, (linkAll_mem E emptyG).2]
  constructor
  · rintro ((h | h) | h)
    · cases h
    · exact .inr h
    · exact .inl h
  · rintro (h | h)
    · exact .inr h
    · exact .inl (.inr h)
theorem madeG_ok {E : List S45} {names : List ByteArray} (hE : ∀ e, e ∈ E → e.f0.size ≤ maxLen ∧ e.f1.size ≤ maxLen) (hn : ∀ s, s ∈ names → s.size ≤ maxLen) : GOk (madeG E names) := addAll_ok (linkAll_ok emptyG_ok E hE) names hn
theorem madeG_len (E : List S45) (names : List ByteArray) : (madeG E names).ns.length ≤ 2 * E.length + names.length := by
  have h1 := linkAll_len emptyG E
  have h2 := addAll_len (linkAll emptyG E) names
  have : emptyG.ns.length = 0 := rfl
  unfold madeG; omega
/-- all names, as the document gathers them -/
def allE (names : List ByteArray) (E : List S45) : List ByteArray := names ++ E.flatMap fun e => [e.f0, e.f1]
theorem allE_snoc (names : List ByteArray) (E : List S45) (e : S45) : allE names (E ++ [e]) = allE names E ++ [e.f0, e.f1] := by unfold allE; rw [List.flatMap_append, ← List.append_assoc]; simp
theorem allE_len (names : List ByteArray) (E : List S45) : (allE names E).length = names.length + 2 * E.length := by
  unfold allE
  rw [List.length_append]
  congr 1
  induction E with
  | nil => rfl
  | cons e E ih => rw [List.flatMap_cons, List.length_append, ih]; simp; omega
theorem names_made {G : GG} (hG : GOk G) {E : List S45} {names : List ByteArray} (h : ∀ s, s ∈ G.ns ↔ s ∈ names ∨ ∃ e, e ∈ E ∧ (s = e.f0 ∨ s = e.f1)) : srt (allE names E) = G.ns := by
  refine ss_uniq _ _ (ss_srt _) hG.rise (fun s => ?_)
  rw [mem_srt, h]
  unfold allE
  rw [List.mem_append, List.mem_flatMap]
  simp
/-! ### the graph turned about -/
theorem backAll_mem : ∀ (E : List S45) (G : GG), (∀ s t, t ∈ (backAll G E).out s ↔ t ∈ G.out s ∨ (⟨t, s⟩ : S45) ∈ E) ∧ ∀ s, s ∈ (backAll G E).ns ↔ s ∈ G.ns ∨ ∃ e, e ∈ E ∧ (s = e.f0 ∨ s = e.f1) := by
  intro E
  induction E with
  | nil => exact fun G => ⟨fun s t => by show t ∈ G.out s ↔ _; simp, fun s => by show s ∈ G.ns ↔ _; simp⟩
  | cons e E ih =>
    intro G
    obtain ⟨h1, h2⟩ := ih (linkG G e.f1 e.f0)
    refine ⟨fun s t => ?_, fun s => ?_⟩
    · show t ∈ (backAll (linkG G e.f1 e.f0) E).out s ↔ _
      rw [h1, mem_linkG_out, List.mem_cons]
      have : (⟨t, s⟩ : S45) = e ↔ s = e.f1 ∧ t = e.f0 := by
        rw [← eqE_iff]; exact ⟨fun h => ⟨h.2, h.1⟩, fun h => ⟨h.2, h.1⟩⟩
      rw [this]
      constructor
      · rintro ((h | h) | h)
        · exact .inl h
        · exact .inr (.inl h)
        · exact .inr (.inr h)
      · rintro (h | h | h)
        · exact .inl (.inl h)
        · exact .inl (.inr h)
        · exact .inr h
    · show s ∈ (backAll (linkG G e.f1 e.f0) E).ns ↔ _
      rw [h2, mem_linkG_ns]
      constructor
      · rintro ((h | h) | ⟨x, hx, h⟩)
        · exact .inl h
        · exact .inr ⟨e, List.mem_cons_self, h.symm⟩
        · exact .inr ⟨x, List.mem_cons_of_mem _ hx, h⟩
      · rintro (h | ⟨x, hx, h⟩)
        · exact .inl (.inl h)
        · rcases List.mem_cons.1 hx with rfl | hx
          · exact .inl (.inr h.symm)
          · exact .inr ⟨x, hx, h⟩
theorem mem_turnG_out {G : GG} (hG : GOk G) (s t : ByteArray) : t ∈ (turnG G).out s ↔ s ∈ G.out t := by
  unfold turnG
  rw [(backAll_mem _ _).1, addAll_out, mem_edgesOf]
  constructor
  · rintro (h | h)
    · cases h
    · exact h.2
  · exact fun h => .inr ⟨Classical.byContradiction (fun hn => by rw [hG.none t hn] at h; cases h), h⟩
theorem turnG_ok {G : GG} (hG : GOk G) : GOk (turnG G) :=
  backAll_ok (addAll_ok emptyG_ok G.ns hG.short) _ (fun e he => ⟨hG.short _ (mem_edgesOf.1 he).1, hG.short _ (hG.inside _ _ (mem_edgesOf.1 he).2)⟩)
theorem turnG_ns {G : GG} (hG : GOk G) : (turnG G).ns = G.ns := by
  refine ss_uniq _ _ (turnG_ok hG).rise hG.rise (fun s => ?_)
  unfold turnG
  rw [(backAll_mem _ _).2, addAll_mem]
  constructor
  · rintro ((h | h) | ⟨e, he, rfl | rfl⟩)
    · cases h
    · exact h
    · exact (mem_edgesOf.1 he).1
    · exact hG.inside _ _ (mem_edgesOf.1 he).2
  · exact fun h => .inl (.inr h)
theorem turnG_out {G : GG} (hG : GOk G) (s : ByteArray) : (turnG G).out s = G.inn s := ss_uniq _ _ ((turnG_ok hG).outs s) (GG.ss_inn hG s) (fun t => by rw [mem_turnG_out hG, GG.mem_inn hG])
def swapE (e : S45) : S45 := ⟨e.f1, e.f0⟩
/-- the document's graph turned about -/
theorem turn_edges {G : GG} (hG : GOk G) : ofE ((edgesOf G G.ns).map swapE) = edgesOf (turnG G) (turnG G).ns := by
  refine ofE_edges (turnG_ok hG) (fun s t => ?_)
  rw [mem_turnG_out hG, List.mem_map]
  constructor
  · exact fun h => ⟨⟨t, s⟩, mem_edgesOf.2 ⟨Classical.byContradiction (fun hn => by rw [hG.none t hn] at h; cases h), h⟩, rfl⟩
  · rintro ⟨e, he, h⟩
    injection h with h1 h2
    rw [← h1, ← h2]
    exact (mem_edgesOf.1 he).2
theorem turn_names {G : GG} (hG : GOk G) : srt (allE G.ns ((edgesOf G G.ns).map swapE)) = (turnG G).ns := by
  refine names_made (turnG_ok hG) (fun s => ?_)
  rw [turnG_ns hG]
  constructor
  · exact .inl
  · rintro (h | ⟨e, he, h⟩)
    · exact h
    · obtain ⟨x, hx, rfl⟩ := List.mem_map.1 he
      have := mem_edgesOf.1 hx
      rcases h with rfl | rfl
      · exact hG.inside _ _ this.2
      · exact this.1
end Go.Proofs.Ytmhbdgnajlnhnaa.Pl
