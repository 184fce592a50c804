/- DepfileTwo, plainly: two depfiles, one behind the other, say what both say. -/
import Derived.Test.YtahdgaaedilcmaaPlDepU
import Derived.Test.YtahdgaaedilcmaaPxf4
namespace Go.Proofs.Ytahdgaaedilcmaa.Pure
open Go.RowKit Go.Proofs.Ytahdgaaedilcmaa.P Go.Proofs.Ytahdgaaedilcmaa.Pl Go.Proofs.YtahdgaaedilcmaaW.PrintWords Go.Proofs.YtahdgaaedilcmaaW.PrintLast

theorem okT_rep : ∀ e : Nat, okT (List.replicate (2 * e) 92)
  | 0 => trivial
  | e + 1 => by
    rw [show 2 * (e + 1) = (2 * e) + 1 + 1 by omega, List.replicate_succ, List.replicate_succ]
    unfold okT
    rw [if_pos rfl]
    exact okT_rep e
theorem okT_app : ∀ (n : Nat) (p : List UInt8), p.length ≤ n → ∀ s, okT s → (∀ h : p ≠ [], p.getLast h ≠ 92) → okT (p ++ s) := by
  intro n
  induction n with
  | zero =>
    intro p hp s hs _
    obtain rfl := List.eq_nil_of_length_eq_zero (Nat.le_zero.1 hp)
    exact hs
  | succ n ih =>
    intro p hp s hs hl
    cases p with
    | nil => exact hs
    | cons c t =>
      have ht : t.length ≤ n := by simp at hp; omega
      have hlt : ∀ h : t ≠ [], t.getLast h ≠ 92 := fun h => by have := hl (by simp); rwa [List.getLast_cons h] at this
      rw [List.cons_append]
      unfold okT
      by_cases hc : c = 92
      · rw [if_pos hc]
        cases t with
        | nil => exact absurd (hl (by simp)) (by simp [hc])
        | cons d t' =>
          rw [List.cons_append]
          exact ih t' (by simp at ht; omega) s hs (fun h => by have := hlt (by simp); rwa [List.getLast_cons h] at this)
      · rw [if_neg hc]
        exact ih t ht s hs hlt
/-- backslashes at a text's end, in pairs -/
theorem okT_of (l : List UInt8) (c : Nat) (hc : c ≤ l.length) (h : ∀ j, j < c → l[l.length - 1 - j]? = some 92) (hn : c = l.length ∨ l[l.length - 1 - c]? ≠ some 92) (he : c % 2 = 0) : okT l := by
  have hd : l.drop (l.length - c) = List.replicate c 92 := by
    refine List.eq_replicate_iff.2 ⟨by rw [List.length_drop]; omega, fun b hb => ?_⟩
    obtain ⟨i, hi, rfl⟩ := List.getElem_of_mem hb
    rw [List.length_drop] at hi
    have := h (c - 1 - i) (by omega)
    rw [show l.length - 1 - (c - 1 - i) = l.length - c + i by omega] at this
    rw [List.getElem_drop]
    exact Option.some.inj ((List.getElem?_eq_getElem (by omega)).symm.trans this)
  rw [← List.take_append_drop (l.length - c) l, hd, show c = 2 * (c / 2) by omega]
  refine okT_app _ _ (Nat.le_refl _) _ (okT_rep _) (fun hne => ?_)
  intro e
  rcases hn with hn | hn
  · rw [show 2 * (c / 2) = c by omega, hn, Nat.sub_self] at hne; exact hne rfl
  · refine hn ?_
    have hpos : 0 < l.length - 2 * (c / 2) := by
      rcases Nat.eq_zero_or_pos (l.length - 2 * (c / 2)) with h0 | h0
      · rw [h0] at hne; exact absurd rfl hne
      · exact h0
    rw [List.getLast_eq_getElem] at e
    simp only [List.getElem_take, List.length_take] at e
    have hlen : min (l.length - 2 * (c / 2)) l.length - 1 = l.length - 1 - c := by omega
    simp only [hlen] at e
    rw [List.getElem?_eq_getElem (by omega), e]

theorem main_ev (a0 a1 : ByteArray) (hs : a0.size + a1.size < 32768) (hk : okT (L a0)) (x5 : Int) (hx : Int.tmod x5 2 ≠ 1) : Ev (fun k => brickyardlaw16_DepfileTwo.j1 k a0 a1 x5) true := by
  have hA : L (a0 ++ (⟨#[10]⟩ : ByteArray)) = L a0 ++ [10] := by rw [L_append]; rfl
  have hAsz : (a0 ++ (⟨#[10]⟩ : ByteArray)).size = a0.size + 1 := by rw [ByteArray.size_append]; rfl
  have hU : L ((a0 ++ (⟨#[10]⟩ : ByteArray)) ++ a1) = L a0 ++ 10 :: L a1 := by rw [L_append, hA, List.append_assoc]; rfl
  have s0 := size_L a0
  have s1 := size_L a1
  obtain ⟨S, hS⟩ : ∃ S, S = parse (L a0 ++ [10]) := ⟨_, rfl⟩
  obtain ⟨T, hT⟩ : ∃ T, T = parse (L a1) := ⟨_, rfl⟩
  obtain ⟨U, hUe⟩ : ∃ U, U = parse (L a0 ++ 10 :: L a1) := ⟨_, rfl⟩
  have eS : S = go (L a0 ++ [10]) 0 [] z32 ⟨#[]⟩ false false false := by rw [hS, parse, if_neg (by simp; omega)]
  have eT : T = go (L a1) 0 [] z32 ⟨#[]⟩ false false false := by rw [hT, parse, if_neg (by omega)]
  have eU : U = go (L a0 ++ 10 :: L a1) 0 [] z32 ⟨#[]⟩ false false false := by rw [hUe, parse, if_neg (by simp; omega)]
  have htwo := go_two _ (L a0) (Nat.le_refl _) hk (L a1) 0 [] z32 ⟨#[]⟩ false false false
  have hah := go_ahead _ (L a1) (Nat.le_refl _) 0 ((L a0).length + 1) S.1 [] z32 ⟨#[]⟩ false false false
  rw [List.append_nil, ← Int.add_assoc, eS, ← eT] at hah
  rw [← eS] at htwo hah
  rw [hah, ← eU] at htwo
  obtain ⟨t1, t2, t3⟩ := htwo
  have tS := go_told _ (L a0 ++ [10]) (Nat.le_refl _) 0 [] z32 ⟨#[]⟩ false false false 0 40000 (Int.le_refl _) (by simp; omega)
  have tT := go_told _ (L a1) (Nat.le_refl _) 0 [] z32 ⟨#[]⟩ false false false 0 40000 (Int.le_refl _) (by simp; omega)
  rw [← eS] at tS
  rw [← eT] at tT
  have pS := parse_ev (a0 ++ (⟨#[10]⟩ : ByteArray))
  rw [hA, ← hS] at pS
  have pT := parse_ev a1
  rw [← hT] at pT
  have pU := parse_ev ((a0 ++ (⟨#[10]⟩ : ByteArray)) ++ a1)
  rw [hU, ← hUe] at pU
  refine ev_succ ?_
  simp only [brickyardlaw16_DepfileTwo.j1]
  refine ev_ite_neg hx (ev_ite_pos (by omega) (ev_bind pS (ev_bind pT (ev_ite_pos (by omega) (ev_bind pU ?_)))))
  rcases tS with ⟨q1, q2, q3⟩ | ⟨q1, q2, q3, q4⟩
  · refine ev_ite_neg (by rw [q1, q2]; decide) ?_
    rw [if_pos q1] at t1
    rcases tT with ⟨p1, p2, p3⟩ | ⟨p1, p2, p3, p4⟩
    · refine ev_ite_neg (by rw [p1, p2]; decide) ?_
      have tU : U = (S.1 ++ T.1, 0, 0) := by rw [t1]; simp only [Pl.ahead, Pl.later, if_pos p1, p1, p2, if_true]
      refine ev_ite_pos (by rw [tU]; rfl) (ev_bind (ev_const rfl) (ev_ite_pos (by simp; omega) (ev_bind (ev_const rfl) (ev_ite_pos (by simp; omega) ?_))))
      rw [tU]
      have dS := go_deps 40000 _ (L a0 ++ [10]) (Nat.le_refl _) 0 [] z32 ⟨#[]⟩ false false false (by simp) (by simp [z32]; omega)
      have dT := go_deps 40000 _ (L a1) (Nat.le_refl _) 0 [] z32 ⟨#[]⟩ false false false (by simp) (by simp [z32]; omega)
      rw [← eS] at dS
      rw [← eT] at dT
      exact ev_bind (same_refl (S.1 ++ T.1) (by simp; omega) (fun r hr => by rcases List.mem_append.1 hr with h | h; have := dS r h; omega; have := dT r h; omega)) (ev_const rfl)
    · refine ev_ite_pos (by rw [p1]; rfl) ?_
      have p0 : ¬ T.2.1 = 0 := by rw [p1]; decide
      have tU : U = ([], 6, T.2.2 + ((L a0).length + 1)) := by
        rw [t1]
        unfold Pl.ahead
        rw [if_neg p0]
        unfold Pl.later
        rw [if_neg p0, p1, p4]
      rw [tU, p1]
      refine ev_ite_pos ?_ (ev_const rfl)
      rw [hAsz, w64 (by omega) (by omega)]
      simp
      omega
  · refine ev_ite_pos (by rw [q1]; rfl) ?_
    rw [if_neg (by rw [q1]; decide)] at t1
    rw [t1]
    refine ev_ite_pos (by simp) ?_
    rw [q4]
    exact ev_const rfl
/-- YOURS -/
theorem DepfileTwo : brickyardlaw16_DepfileTwo.Pure := by
  intro a0 a1 h0 h1
  apply ev_some
  unfold brickyardlaw16_DepfileTwo.f
  refine ev_bind works_ev (ev_ite_pos rfl ?_)
  by_cases hs : wrap64 ((a0.size : Int) + (a1.size : Int)) ≥ 32768
  · exact ev_ite_pos hs (ev_const rfl)
  refine ev_ite_neg hs ?_
  rw [w64 (by omega) (by omega)] at hs
  have s0 := size_L a0
  have hj : ∀ (c : Nat), c ≤ a0.size → (∀ j, j < c → (L a0)[(L a0).length - 1 - j]? = some 92) → (c = a0.size ∨ (L a0)[(L a0).length - 1 - c]? ≠ some 92) → Ev (fun k => brickyardlaw16_DepfileTwo.j1 k a0 a1 (c : Int)) true := by
    intro c hc hall hstop
    by_cases he : Int.tmod (c : Int) 2 = 1
    · refine ev_succ ?_
      simp only [brickyardlaw16_DepfileTwo.j1]
      exact ev_ite_pos he (ev_const rfl)
    · refine main_ev a0 a1 (by omega) (okT_of (L a0) c (by omega) hall (by rw [← s0]; exact hstop) ?_) _ he
      have : Int.tmod (c : Int) 2 = ((c % 2 : Nat) : Int) := by rw [Int.tmod_eq_emod_of_nonneg (by omega)]; rfl
      omega
  have hl : ∀ (d m : Nat), m + d = a0.size → (∀ j, j < m → (L a0)[(L a0).length - 1 - j]? = some 92) → Ev (fun k => brickyardlaw16_DepfileTwo.l0 k a0 a1 (m : Int)) true := by
    intro d
    induction d with
    | zero =>
      intro m hm hall
      refine ev_succ ?_
      simp only [brickyardlaw16_DepfileTwo.l0]
      exact ev_ite_neg (by omega) (hj m (by omega) hall (.inl (by omega)))
    | succ d ih =>
      intro m hm hall
      refine ev_succ ?_
      simp only [brickyardlaw16_DepfileTwo.l0]
      have ei : wrap64 (wrap64 ((a0.size : Int) - 1) - (m : Int)) = (((L a0).length - 1 - m : Nat) : Int) := by
        rw [w64 (x := (a0.size : Int) - 1) (by omega) (by omega), w64 (by omega) (by omega)]; omega
      rw [ei]
      refine ev_ite_pos (by omega) (ev_ite_pos (by omega) (ev_ite_pos (by omega) ?_))
      have hb := bt_L a0 ((L a0).length - 1 - m) (by omega)
      by_cases h92 : bt a0 (((L a0).length - 1 - m : Nat) : Int) = 92
      · refine ev_ite_pos h92 ?_
        rw [show wrap64 ((m : Int) + 1) = ((m + 1 : Nat) : Int) by rw [w64 (by omega) (by omega)]; rfl]
        refine ih (m + 1) (by omega) (fun j hj' => ?_)
        rcases Nat.lt_or_ge j m with h | h
        · exact hall j h
        · obtain rfl : j = m := by omega
          rw [List.getElem?_eq_getElem (by omega)]
          rw [hb] at h92
          exact congrArg some ((u8_eq _ 92 (by decide)).1 h92)
      · refine ev_ite_neg h92 (hj m (by omega) hall (.inr fun e => h92 ?_))
        rw [List.getElem?_eq_getElem (by omega)] at e
        rw [hb, Option.some.inj e]
        rfl
  exact hl a0.size 0 (by omega) (fun j hj' => absurd hj' (Nat.not_lt_zero _))
end Go.Proofs.Ytahdgaaedilcmaa.Pure
