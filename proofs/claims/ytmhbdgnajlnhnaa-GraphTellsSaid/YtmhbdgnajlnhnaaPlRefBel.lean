/- The reference's Below, plainly. -/
import Derived.Test.YtmhbdgnajlnhnaaPlRefO
import Derived.Test.YtmhbdgnajlnhnaaPxf19
namespace Go.Proofs.Ytmhbdgnajlnhnaa.Pl
open Go.RowKit Go.Proofs.YtmhbdgnajlnhnaaW.PrintWords Go.Proofs.Ytmhbdgnajlnhnaa.P
set_option linter.unusedVariables false
set_option linter.unusedSimpArgs false
theorem rbelow_l2 {G : GG} {E : List S45} (h : RG G E) {i : Nat} {R : List ByteArray} (l : List ByteArray) (hll : l.length ≤ 1000000) : ∀ d j : Nat, j + d = l.length → ∀ X : List ByteArray, X.length + d ≤ 10000000 →
    Ev (fun k => brickyardref19_Below.l1 k (newOf [] X (l.drop j)) (wrap64 ((i : Int) + 1)) G.ns E) R →
    Ev (fun k => brickyardref19_Below.l2 k X (i : Int) l (j : Int) G.ns E) R := by
  intro d
  induction d with
  | zero =>
    intro j hj X hx hK
    rw [List.drop_of_length_le (by omega)] at hK
    refine ev_succ ?_
    simp only [brickyardref19_Below.l2]
    exact ev_ite_neg (by omega) hK
  | succ d ih =>
    intro j hj X hx hK
    have hlt : j < l.length := by omega
    rw [List.drop_eq_getElem_cons hlt, newOf_cons] at hK
    refine ev_succ ?_
    simp only [brickyardref19_Below.l2, get_rd hlt, w64n (n := j) (by omega)]
    refine ev_ite_pos (by omega) (ev_ite_pos (by omega) (ev_bind (has_ev X l[j] (by omega)) ?_))
    by_cases hb : hasB X l[j] = true
    · rw [if_pos (show hasB ([] ++ X) l[j] = true from hb)] at hK
      exact ev_ite_pos hb (ih (j + 1) (by omega) X (by omega) hK)
    · rw [if_neg (show ¬ hasB ([] ++ X) l[j] = true from hb)] at hK
      exact ev_ite_neg hb (ev_ite_pos (by omega) (ih (j + 1) (by omega) _ (by simp; omega) hK))
/-- the names that are not there yet -/
def gone (G : GG) (X : List ByteArray) : Nat := (G.ns.filter (fun s => !hasB X s)).length
theorem gone_newOf {G : GG} : ∀ (l X : List ByteArray), (∀ s, s ∈ l → s ∈ G.ns) → (newOf [] X l).length + gone G (newOf [] X l) ≤ X.length + gone G X ∧ X.length ≤ (newOf [] X l).length := by
  intro l
  induction l with
  | nil => intro X _; exact ⟨Nat.le_refl _, Nat.le_refl _⟩
  | cons t l ih =>
    intro X hl
    rw [newOf_cons]
    split
    · exact ih X (fun s hs => hl s (List.mem_cons_of_mem _ hs))
    · rename_i hb
      have hb : ¬ hasB X t = true := hb
      have h1 := ih (X ++ [t]) (fun s hs => hl s (List.mem_cons_of_mem _ hs))
      have h2 : gone G (X ++ [t]) + 1 ≤ gone G X := by
        unfold gone
        have hsub : ∀ s, s ∈ t :: G.ns.filter (fun s => !hasB (X ++ [t]) s) → True := fun _ _ => trivial
        have e : G.ns.filter (fun s => !hasB (X ++ [t]) s) = (G.ns.filter (fun s => !hasB X s)).filter (fun s => decide (s ≠ t)) := by
          rw [List.filter_filter]
          refine List.filter_congr (fun s _ => ?_)
          rw [Bool.eq_iff_iff]
          simp only [Bool.not_eq_true', Bool.and_eq_true, decide_eq_true_eq, hasB_false, List.mem_append, List.mem_singleton, not_or]
          exact ⟨fun h => ⟨h.2, h.1⟩, fun h => ⟨h.2, h.1⟩⟩
        rw [e]
        have hm : t ∈ G.ns.filter (fun s => !hasB X s) := List.mem_filter.2 ⟨hl t List.mem_cons_self, by simpa using hb⟩
        have : ∀ L : List ByteArray, t ∈ L → (L.filter (fun s => decide (s ≠ t))).length + 1 ≤ L.length := by
          intro L
          induction L with
          | nil => intro h; cases h
          | cons x L ihL =>
            intro h
            by_cases hx : x = t
            · rw [List.filter_cons_of_neg (by simp [hx])]
              have := List.length_filter_le (fun s => decide (s ≠ t)) L
              rw [List.length_cons]; omega
            · rw [List.filter_cons_of_pos (by simp [hx])]
              have := ihL ((List.mem_cons.1 h).resolve_left (fun e => hx e.symm))
              rw [List.length_cons, List.length_cons]; omega
        exact this _ hm
      simp at h1 ⊢
      omega
theorem rbelow_l1 {G : GG} {E : List S45} (h : RG G E) {cl : List ByteArray} (hcl : SS cl) : ∀ (q i : Nat) (X : List ByteArray), 2 * gone G X + (X.length - i) ≤ q → i ≤ X.length → X.length + gone G X ≤ 1000000 → (∀ s, s ∈ X → s ∈ cl) → (∀ s, s ∈ cl → ∀ t, t ∈ G.out s → t ∈ cl) →
    (∀ T : List ByteArray, (∀ s, s ∈ X → s ∈ T) → (∀ s, s ∈ T → ∀ t, t ∈ G.out s → t ∈ T) → ∀ s, s ∈ cl → s ∈ T) → (∀ s, s ∈ X.take i → ∀ t, t ∈ G.out s → t ∈ X) →
    Ev (fun k => brickyardref19_Below.l1 k X (i : Int) G.ns E) cl := by
  have fin : ∀ (i : Nat) (X : List ByteArray), i = X.length → X.length + gone G X ≤ 1000000 → (∀ s, s ∈ X → s ∈ cl) → (∀ T : List ByteArray, (∀ s, s ∈ X → s ∈ T) → (∀ s, s ∈ T → ∀ t, t ∈ G.out s → t ∈ T) → ∀ s, s ∈ cl → s ∈ T) → (∀ s, s ∈ X.take i → ∀ t, t ∈ G.out s → t ∈ X) →
      Ev (fun k => brickyardref19_Below.l1 k X (i : Int) G.ns E) cl := by
    intro i X hi hX hin hleast hdone
    subst hi
    rw [List.take_of_length_le (Nat.le_refl _)] at hdone
    refine ev_succ ?_
    simp only [brickyardref19_Below.l1]
    refine ev_ite_neg (by omega) (ev_bind (sorted_ev X (by omega)) (ev_const ?_))
    rw [ss_uniq (srt X) cl (ss_srt X) hcl (fun s => ?_)]
    rw [mem_srt]
    exact ⟨hin s, hleast X (fun _ h => h) hdone s⟩
  intro q
  induction q with
  | zero =>
    intro i X hq hi hX hin hclo hleast hdone
    exact fin i X (by omega) hX hin hleast hdone
  | succ q ih =>
    intro i X hq hi hX hin hclo hleast hdone
    by_cases hlt : i < X.length
    · have hl : ∀ s, s ∈ G.out X[i] → s ∈ G.ns := fun s hs => h.ok.inside _ _ hs
      have hg := gone_newOf (G := G) (G.out X[i]) X hl
      refine ev_succ ?_
      simp only [brickyardref19_Below.l1, get_rd hlt]
      refine ev_ite_pos (by omega) (ev_ite_pos (by omega) (ev_bind (h.out_ev X[i]) ?_))
      have hol := h.out_len X[i]
      refine rbelow_l2 h (G.out X[i]) hol (G.out X[i]).length 0 (Nat.zero_add _) X (by omega) ?_
      rw [List.drop_zero, w64n (n := i) (by omega)]
      have hm := fun s => mem_newOf [] s (G.out X[i]) X
      refine ih (i + 1) _ (by omega) (by omega) (by omega) (fun s hs => ?_) hclo (fun T hT => hleast T (fun s hs => hT s ((hm s).2 (.inl hs)))) (fun s hs t ht => ?_)
      · rcases (hm s).1 hs with hs | hs
        · exact hin s hs
        · exact hclo _ (hin _ (List.getElem_mem hlt)) s hs.1
      · have hpre : (newOf [] X (G.out X[i])).take X.length = X := by
          have key : ∀ (l X : List ByteArray), (newOf [] X l).take X.length = X := by
            intro l
            induction l with
            | nil => intro X; rw [newOf_nil, List.take_of_length_le (Nat.le_refl _)]
            | cons t l ihl =>
              intro X
              rw [newOf_cons]
              split
              · exact ihl X
              · have := congrArg (List.take X.length) (ihl (X ++ [t]))
                rw [List.take_take, Nat.min_eq_left (by simp)] at this
                rw [this]; simp
          exact key _ X
        have hs' : s ∈ X.take (i + 1) := by
          rw [← hpre, List.take_take, Nat.min_eq_left (by omega)]; exact hs
        rw [List.take_succ_eq_append_getElem hlt] at hs'
        rcases List.mem_append.1 hs' with hs' | hs'
        · exact (hm t).2 (.inl (hdone s hs' t ht))
        · rw [List.mem_singleton] at hs'
          subst hs'
          exact (hm t).2 (.inr ⟨ht, by simp⟩)
    · exact fin i X (by omega) hX hin hleast hdone
theorem rbelow_l0 {G : GG} {E : List S45} (h : RG G E) (l : List ByteArray) (hl : l.length ≤ 100000) {R : List ByteArray} (hK : Ev (fun k => brickyardref19_Below.l1 k (l.filter (hasB G.ns)) 0 G.ns E) R) : ∀ d i : Nat, i + d = l.length →
    Ev (fun k => brickyardref19_Below.l0 k l ((l.take i).filter (hasB G.ns)) (i : Int) G.ns E) R := by
  intro d
  induction d with
  | zero =>
    intro i hi
    refine ev_succ ?_
    simp only [brickyardref19_Below.l0]
    rw [List.take_of_length_le (by omega)]
    exact ev_ite_neg (by omega) hK
  | succ d ih =>
    intro i hi
    have hlt : i < l.length := by omega
    have hnm := h.names
    have hfl := List.length_filter_le (hasB G.ns) (l.take i)
    have htl : (l.take i).length ≤ i := by rw [List.length_take]; omega
    have hn := ih (i + 1) (by omega)
    rw [List.take_succ_eq_append_getElem hlt, List.filter_append] at hn
    refine ev_succ ?_
    simp only [brickyardref19_Below.l0, get_rd hlt, w64n (n := i) (by omega)]
    refine ev_ite_pos (by omega) (ev_ite_pos (by omega) (ev_bind (has_ev G.ns l[i] (by omega)) ?_))
    by_cases hb : hasB G.ns l[i] = true
    · rw [List.filter_cons_of_pos hb, List.filter_nil] at hn
      exact ev_ite_pos hb (ev_ite_pos (by omega) hn)
    · rw [List.filter_cons_of_neg hb, List.filter_nil, List.append_nil] at hn
      exact ev_ite_neg hb hn
theorem rbelow_ev {G : GG} {E : List S45} (h : RG G E) (l : List ByteArray) (hl : l.length ≤ 100000) {cl : List ByteArray} (hcl : SS cl) (hm : ∀ s, s ∈ cl ↔ ∃ a, a ∈ l ∧ a ∈ G.ns ∧ Rc G.out a s) : Ev (fun k => brickyardref19_Below.f k G.ns E l) cl := by
  have hnm := h.names
  have h1 := List.length_filter_le (hasB G.ns) l
  have h2 : gone G (l.filter (hasB G.ns)) ≤ G.ns.length := List.length_filter_le _ _
  have hmem : ∀ s, s ∈ l.filter (hasB G.ns) ↔ s ∈ l ∧ s ∈ G.ns := fun s => by rw [List.mem_filter, hasB_iff]
  have := rbelow_l0 h l hl (R := cl) (rbelow_l1 h hcl _ 0 _ (Nat.le_refl _) (Nat.zero_le _) (by omega) (fun s hs => (hm s).2 ⟨s, ((hmem s).1 hs).1, ((hmem s).1 hs).2, Rc.refl s⟩)
    (fun s hs t ht => by obtain ⟨a, h1, h2, h3⟩ := (hm s).1 hs; exact (hm t).2 ⟨a, h1, h2, h3.snoc ht⟩)
    (fun T hT hc s hs => by obtain ⟨a, h1, h2, h3⟩ := (hm s).1 hs; exact Rc.closed hc (hT a ((hmem a).2 ⟨h1, h2⟩)) h3)
    (fun s hs => by rw [List.take_zero] at hs; cases hs)) l.length 0 (Nat.zero_add _)
  rwa [List.take_zero] at this
end Go.Proofs.Ytmhbdgnajlnhnaa.Pl
