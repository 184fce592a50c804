/- Globs: the machine as a function with rounds, and that it tells when a glob fits. -/
import Derived.Test.YtpphdmpnnnimdaaPlGlobM
namespace Go.Proofs.Ytpphdmpnnnimdaa.P
open Go.RowKit Go.Proofs.YtpphdmpnnnimdaaW.PrintWords
/-- does the glob's byte stand for the text's? -/
def okI (c x : Int) : Prop := (c = x ∧ c ≠ 63) ∨ (c = 63 ∧ x ≠ 47)
instance (c x : Int) : Decidable (okI c x) := by unfold okI; infer_instance
def bounds (G S : ByteArray) (g k near nearAt far farAt : Int) : Prop :=
  0 ≤ g ∧ g ≤ (G.size : Int) ∧ 0 ≤ k ∧ k ≤ (S.size : Int) ∧ -1 ≤ near ∧ near ≤ (G.size : Int) ∧ 0 ≤ nearAt ∧ nearAt ≤ (S.size : Int) ∧ -1 ≤ far ∧ far ≤ (G.size : Int) ∧ 0 ≤ farAt ∧ farAt ≤ (S.size : Int) ∧ (G.size : Int) ≤ 1000000000000 ∧ (S.size : Int) ≤ 1000000000000
instance (G S : ByteArray) (g k near nearAt far farAt : Int) : Decidable (bounds G S g k near nearAt far farAt) := by unfold bounds; infer_instance
/-- path.Glob, behind its label -/
def path_Glob.l0 : Nat → ByteArray → ByteArray → Int → Int → Int → Int → Int → Int → Option Bool
  | 0, _, _, _, _, _, _, _, _ => none
  | n + 1, G, S, g, k, near, nearAt, far, farAt =>
    if bounds G S g k near nearAt far farAt then
      (if g < (G.size : Int) ∧ bt G g = 42 then
        (if g + 1 < (G.size : Int) ∧ bt G (g + 1) = 42 then path_Glob.l0 n G S (g + 2) k (-1) nearAt (g + 2) k else path_Glob.l0 n G S (g + 1) k (g + 1) k far farAt)
      else if k = (S.size : Int) ∧ g = (G.size : Int) then some true
      else if k < (S.size : Int) ∧ g < (G.size : Int) ∧ okI (bt G g) (bt S k) then path_Glob.l0 n G S (g + 1) (k + 1) near nearAt far farAt
      else if 0 ≤ near ∧ nearAt < (S.size : Int) ∧ bt S nearAt ≠ 47 then path_Glob.l0 n G S near (nearAt + 1) near (nearAt + 1) far farAt
      else if 0 ≤ far ∧ farAt < (S.size : Int) then path_Glob.l0 n G S far (farAt + 1) (-1) nearAt far (farAt + 1)
      else some false)
    else none
def path_Glob.f (k : Nat) (a0 a1 : ByteArray) : Option Bool := path_Glob.l0 k a0 a1 0 0 (-1) 0 (-1) 0
theorem path_Glob.mono_l : ∀ n G S g k near nearAt far farAt, LeO (path_Glob.l0 n G S g k near nearAt far farAt) (path_Glob.l0 (n + 1) G S g k near nearAt far farAt)
  | 0 => fun _ _ _ _ _ _ _ _ r h => by simp [path_Glob.l0] at h
  | n + 1 => by
    have ih := path_Glob.mono_l n
    intro G S g k near nearAt far farAt
    unfold path_Glob.l0
    repeat' first
      | (with_reducible exact ih _ _ _ _ _ _ _ _)
      | (with_reducible exact LeO.refl _)
      | (with_reducible exact LeO.none _)
      | (with_reducible refine LeO.ite ?_ ?_)
      | exact ih _ _ _ _ _ _ _ _
theorem path_Glob.mono : ∀ a0 a1 k, LeO (path_Glob.f k a0 a1) (path_Glob.f (k + 1) a0 a1) := fun _ _ k => path_Glob.mono_l k _ _ _ _ _ _ _ _
end Go.Proofs.Ytpphdmpnnnimdaa.P
namespace Go.Proofs.Ytpphdmpnnnimdaa.Pl
open Go.RowKit Go.Proofs.YtpphdmpnnnimdaaW.PrintWords Go.Proofs.Ytpphdmpnnnimdaa.P
set_option linter.unusedVariables false

theorem bt_some {s : ByteArray} {i : Nat} {c : UInt8} (h : (L s)[i]? = some c) : bt s (i : Int) = (c.toNat : Int) := by
  obtain ⟨l, e⟩ := List.getElem?_eq_some_iff.1 h
  rw [bt_L s i l, e]
theorem some_bt {s : ByteArray} {i : Nat} (h : i < (L s).length) (c : UInt8) : bt s (i : Int) = (c.toNat : Int) ↔ (L s)[i]? = some c := by
  rw [bt_L s i h, List.getElem?_eq_getElem h]
  constructor
  · intro e
    congr 1
    exact UInt8.toNat.inj (by omega)
  · intro e
    rw [Option.some.inj e]
theorem ok_iff (c x : UInt8) : okI (c.toNat : Int) (x.toNat : Int) ↔ okc c x := by
  unfold okI okc
  have e1 : ((c.toNat : Int) = (x.toNat : Int)) ↔ c = x := ⟨fun h => UInt8.toNat.inj (by omega), fun h => by rw [h]⟩
  have e2 : ((c.toNat : Int) = 63) ↔ c = 63 := ⟨fun h => UInt8.toNat.inj (by show c.toNat = 63; omega), fun h => by rw [h]; rfl⟩
  have e3 : ((x.toNat : Int) = 47) ↔ x = 47 := ⟨fun h => UInt8.toNat.inj (by show x.toNat = 47; omega), fun h => by rw [h]; rfl⟩
  rw [e1]
  simp only [ne_eq, e2, e3]
theorem glob_run (G S : ByteArray) (hG : G.size ≤ 1000000000000) (hS : S.size ≤ 1000000000000) (g k : Nat) (near nearAt far farAt : Int) (h : Inv (L G) (L S) g k near nearAt far farAt) :
    ∃ r : Bool, Ev (fun n => path_Glob.l0 n G S (g : Int) (k : Int) near nearAt far farAt) r ∧ (r = true ↔ Rem (L G) (L S) g k near nearAt far farAt) := by
  have sG := size_L G
  have sS := size_L S
  have hg := h.hg
  have hk := h.hk
  have hn1 := h.n1
  have hf1 := h.f1
  have hf0 := h.f0
  have hn0 := h.n0
  have hnl : near ≤ (g : Int) := by
    by_cases e : 0 ≤ near
    · obtain ⟨n, b, b0, e1, e2, ⟨e3, _⟩, _⟩ := h.nn e
      omega
    · omega
  have hfl : far ≤ (g : Int) := by
    by_cases e : 0 ≤ far
    · obtain ⟨f, a, e1, e2, e3, _⟩ := h.ff e
      omega
    · omega
  have hb : bounds G S (g : Int) (k : Int) near nearAt far farAt := by unfold bounds; omega
  have step : ∀ {r : Bool}, Ev (fun n => path_Glob.l0 (n + 1) G S (g : Int) (k : Int) near nearAt far farAt) r → Ev (fun n => path_Glob.l0 n G S (g : Int) (k : Int) near nearAt far farAt) r := fun h => ev_succ h
  by_cases c1 : (L G)[g]? = some 42
  · have lg : g < (L G).length := (List.getElem?_eq_some_iff.1 c1).1
    by_cases c2 : (L G)[g + 1]? = some 42
    · have lg2 : g + 1 < (L G).length := (List.getElem?_eq_some_iff.1 c2).1
      obtain ⟨r, hr, hi⟩ := glob_run G S hG hS (g + 2) k (-1) nearAt ((g + 2 : Nat) : Int) (k : Int) (inv_two h c1 c2)
      refine ⟨r, step ?_, hi.trans (rem_two h c1 c2)⟩
      simp only [path_Glob.l0]
      refine ev_ite_pos hb (ev_ite_pos ⟨by omega, bt_some c1⟩ (ev_ite_pos ⟨by omega, bt_some c2⟩ ?_))
      exact hr
    · obtain ⟨r, hr, hi⟩ := glob_run G S hG hS (g + 1) k ((g + 1 : Nat) : Int) (k : Int) far farAt (inv_star h c1 c2)
      refine ⟨r, step ?_, hi.trans (rem_star h c1 c2)⟩
      simp only [path_Glob.l0]
      refine ev_ite_pos hb (ev_ite_pos ⟨by omega, bt_some c1⟩ (ev_ite_neg (fun e => c2 ?_) ?_))
      · exact (some_bt (by omega) 42).1 e.2
      · exact hr
  have n1 : ¬ ((g : Int) < (G.size : Int) ∧ bt G (g : Int) = 42) := fun e => c1 ((some_bt (by omega) 42).1 e.2)
  by_cases c3 : g = (L G).length ∧ k = (L S).length
  · refine ⟨true, step ?_, ⟨fun _ => rem_end c3.1 c3.2, fun _ => rfl⟩⟩
    simp only [path_Glob.l0]
    exact ev_ite_pos hb (ev_ite_neg n1 (ev_ite_pos ⟨by omega, by omega⟩ (ev_const rfl)))
  have n2 : ¬ ((k : Int) = (S.size : Int) ∧ (g : Int) = (G.size : Int)) := fun e => c3 ⟨by omega, by omega⟩
  by_cases c4 : ∃ c x, (L G)[g]? = some c ∧ (L S)[k]? = some x ∧ okc c x
  · obtain ⟨c, x, hc, hx, ho⟩ := c4
    have hc42 : c ≠ 42 := fun e => c1 (by rw [hc, e])
    have lg : g < (L G).length := (List.getElem?_eq_some_iff.1 hc).1
    have lk : k < (L S).length := (List.getElem?_eq_some_iff.1 hx).1
    obtain ⟨r, hr, hi⟩ := glob_run G S hG hS (g + 1) (k + 1) near nearAt far farAt (inv_byte h hc hc42 hx ho)
    refine ⟨r, step ?_, hi.trans (rem_byte hc hc42 hx ho)⟩
    simp only [path_Glob.l0]
    refine ev_ite_pos hb (ev_ite_neg n1 (ev_ite_neg n2 (ev_ite_pos ⟨by omega, by omega, ?_⟩ ?_)))
    · rw [bt_some hc, bt_some hx]
      exact (ok_iff c x).2 ho
    · exact hr
  have n3 : ¬ ((k : Int) < (S.size : Int) ∧ (g : Int) < (G.size : Int) ∧ okI (bt G (g : Int)) (bt S (k : Int))) := by
    rintro ⟨e1, e2, e3⟩
    apply c4
    refine ⟨(L G)[g]'(by omega), (L S)[k]'(by omega), List.getElem?_eq_getElem _, List.getElem?_eq_getElem _, ?_⟩
    rw [bt_L G g (by omega), bt_L S k (by omega)] at e3
    exact (ok_iff _ _).1 e3
  have hF : ¬ F (L G) (L S) g k := by
    intro hF
    by_cases e : g = (L G).length
    · rw [e] at hF
      exact c3 ⟨e, (F_end hk).1 hF⟩
    · have lg : g < (L G).length := by omega
      have hc : (L G)[g]? = some ((L G)[g]'lg) := List.getElem?_eq_getElem lg
      obtain ⟨x, hx, ho, _⟩ := (F_byte hc (fun e => c1 (by rw [hc, e]))).1 hF
      exact c4 ⟨_, x, hc, hx, ho⟩
  by_cases c5 : 0 ≤ near ∧ nearAt < ((L S).length : Int) ∧ (L S)[nearAt.toNat]? ≠ some 47
  · obtain ⟨d1, d2, d3⟩ := c5
    obtain ⟨n, en⟩ := Int.eq_ofNat_of_zero_le d1
    obtain ⟨b, eb⟩ := Int.eq_ofNat_of_zero_le hn0.1
    have d3' : (L S)[b]? ≠ some 47 := by rw [eb] at d3; exact d3
    obtain ⟨r, hr, hi⟩ := glob_run G S hG hS n (b + 1) near ((b + 1 : Nat) : Int) far farAt (inv_near h hF en eb (by omega))
    refine ⟨r, step ?_, hi.trans (rem_near h hF en eb (by omega) d3')⟩
    have e1 : nearAt + 1 = ((b + 1 : Nat) : Int) := by omega
    rw [← en] at hr
    simp only [path_Glob.l0]
    rw [e1]
    refine ev_ite_pos hb (ev_ite_neg n1 (ev_ite_neg n2 (ev_ite_neg n3 (ev_ite_pos ⟨by omega, by omega, ?_⟩ hr))))
    intro e
    rw [eb] at e
    exact d3' ((some_bt (by omega) 47).1 e)
  have n4 : ¬ (0 ≤ near ∧ nearAt < (S.size : Int) ∧ bt S nearAt ≠ 47) := by
    rintro ⟨e1, e2, e3⟩
    apply c5
    refine ⟨e1, by omega, fun e => e3 ?_⟩
    obtain ⟨b, rfl⟩ := Int.eq_ofNat_of_zero_le hn0.1
    exact bt_some e
  have hN : near < 0 ∨ nearAt < 0 ∨ ((L S).length : Int) ≤ nearAt ∨ (L S)[nearAt.toNat]? = some 47 := by
    by_cases e1 : near < 0
    · exact .inl e1
    · by_cases e2 : ((L S).length : Int) ≤ nearAt
      · exact .inr (.inr (.inl e2))
      · refine .inr (.inr (.inr ?_))
        by_cases e3 : (L S)[nearAt.toNat]? = some 47
        · exact e3
        · exact absurd ⟨by omega, by omega, e3⟩ c5
  by_cases c6 : 0 ≤ far ∧ farAt < ((L S).length : Int)
  · obtain ⟨d1, d2⟩ := c6
    obtain ⟨f, ef⟩ := Int.eq_ofNat_of_zero_le d1
    obtain ⟨a, ea⟩ := Int.eq_ofNat_of_zero_le hf0.1
    obtain ⟨r, hr, hi⟩ := glob_run G S hG hS f (a + 1) (-1) nearAt far ((a + 1 : Nat) : Int) (inv_far h ef ea (by omega))
    refine ⟨r, step ?_, hi.trans (rem_far hF hN ef ea (by omega) (fun _ => hn0.1))⟩
    have e1 : farAt + 1 = ((a + 1 : Nat) : Int) := by omega
    rw [← ef] at hr
    simp only [path_Glob.l0]
    rw [e1]
    exact ev_ite_pos hb (ev_ite_neg n1 (ev_ite_neg n2 (ev_ite_neg n3 (ev_ite_neg n4 (ev_ite_pos ⟨by omega, by omega⟩ hr)))))
  · refine ⟨false, step ?_, ⟨fun e => absurd e (by decide), fun e => absurd e (rem_none hF hN (fun _ => hn0.1) (by omega))⟩⟩
    simp only [path_Glob.l0]
    exact ev_ite_pos hb (ev_ite_neg n1 (ev_ite_neg n2 (ev_ite_neg n3 (ev_ite_neg n4 (ev_ite_neg (by omega) (ev_const rfl))))))
termination_by (G.size + 1 - (far + 1).toNat, S.size + 1 - farAt.toNat, G.size + 1 - (near + 1).toNat, S.size + 1 - nearAt.toNat, G.size + 1 - g)
decreasing_by
  · exact Prod.Lex.left _ _ (by omega)
  · exact Prod.Lex.right _ (Prod.Lex.right _ (Prod.Lex.left _ _ (by omega)))
  · exact Prod.Lex.right _ (Prod.Lex.right _ (Prod.Lex.right _ (Prod.Lex.right _ (by omega))))
  · exact Prod.Lex.right _ (Prod.Lex.right _ (Prod.Lex.right _ (Prod.Lex.left _ _ (by omega))))
  · exact Prod.Lex.right _ (Prod.Lex.left _ _ (by omega))
theorem glob_ev (G S : ByteArray) (hG : G.size ≤ 1000000000000) (hS : S.size ≤ 1000000000000) : ∃ r : Bool, Ev (fun n => path_Glob.f n G S) r ∧ (r = true ↔ fits (L G) (L S)) := by
  obtain ⟨r, hr, hi⟩ := glob_run G S hG hS 0 0 (-1) 0 (-1) 0 (inv_first _ _)
  exact ⟨r, hr, hi.trans (rem_first _ _)⟩
end Go.Proofs.Ytpphdmpnnnimdaa.Pl
