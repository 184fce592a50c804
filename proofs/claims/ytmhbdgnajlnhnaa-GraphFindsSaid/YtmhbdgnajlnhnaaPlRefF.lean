/- The reference's far and Way, plainly. -/
import Derived.Test.YtmhbdgnajlnhnaaPlRefO
import Derived.Test.YtmhbdgnajlnhnaaPxf15
namespace Go.Proofs.Ytmhbdgnajlnhnaa.Pl
open Go.RowKit Go.Proofs.YtmhbdgnajlnhnaaW.PrintWords Go.Proofs.Ytmhbdgnajlnhnaa.P
set_option linter.unusedVariables false
set_option linter.unusedSimpArgs false
theorem far_l2 {G : GG} {E : List S45} (h : RG G E) {b : ByteArray} {wave S : List ByteArray} {n i : Nat} {R : Int} (l : List ByteArray) (hl : ∀ s, s ∈ l → s ∈ G.ns) (hll : l.length ≤ 1000000) : ∀ d j : Nat, j + d = l.length → ∀ X : List ByteArray, (S ++ X).Nodup → (∀ s, s ∈ S ++ X → s ∈ G.ns) →
    Ev (fun k => brickyardref19_far.l1 k b wave (S ++ newOf S X (l.drop j)) (n : Int) (newOf S X (l.drop j)) (wrap64 ((i : Int) + 1)) G.ns E) R →
    Ev (fun k => brickyardref19_far.l2 k b wave (S ++ X) (n : Int) X (i : Int) l (j : Int) G.ns E) R := by
  intro d
  induction d with
  | zero =>
    intro j hj X hnd hin hK
    rw [List.drop_of_length_le (by omega)] at hK
    refine ev_succ ?_
    simp only [brickyardref19_far.l2]
    exact ev_ite_neg (by omega) hK
  | succ d ih =>
    intro j hj X hnd hin hK
    have hlt : j < l.length := by omega
    have h1 := sub_len h.names hnd hin
    have h2 : (S ++ X).length = S.length + X.length := List.length_append
    rw [List.drop_eq_getElem_cons hlt, newOf_cons] at hK
    refine ev_succ ?_
    simp only [brickyardref19_far.l2, get_rd hlt, w64n (n := j) (by omega)]
    refine ev_ite_pos (by omega) (ev_ite_pos (by omega) (ev_bind (has_ev (S ++ X) l[j] (by omega)) ?_))
    by_cases hb : hasB (S ++ X) l[j] = true
    · rw [if_pos hb] at hK
      exact ev_ite_pos hb (ih (j + 1) (by omega) X hnd hin hK)
    · rw [if_neg hb] at hK
      refine ev_ite_neg hb (ev_ite_pos (by omega) (ev_ite_pos (by omega) ?_))
      rw [hasB_iff] at hb
      rw [List.append_assoc]
      refine ih (j + 1) (by omega) _ ?_ ?_ hK
      · rw [← List.append_assoc]
        exact List.nodup_append.2 ⟨hnd, by simp, fun a ha b hb2 e => by rw [List.mem_singleton] at hb2; subst hb2; subst e; exact hb ha⟩
      · intro s hs
        rw [← List.append_assoc] at hs
        rcases List.mem_append.1 hs with hs | hs
        · exact hin s hs
        · rw [List.mem_singleton] at hs; rw [hs]; exact hl _ (List.getElem_mem hlt)
theorem far_l1 {G : GG} {E : List S45} (h : RG G E) {b : ByteArray} {wave S : List ByteArray} {n : Nat} {R : Int} (hwl : wave.length ≤ 100000) : ∀ d i : Nat, i + d = wave.length → ∀ X : List ByteArray, (S ++ X).Nodup → (∀ s, s ∈ S ++ X → s ∈ G.ns) →
    Ev (fun k => brickyardref19_far.l0 k b (newOf S X ((wave.drop i).flatMap G.out)) (S ++ newOf S X ((wave.drop i).flatMap G.out)) (wrap64 ((n : Int) + 1)) G.ns E) R →
    Ev (fun k => brickyardref19_far.l1 k b wave (S ++ X) (n : Int) X (i : Int) G.ns E) R := by
  intro d
  induction d with
  | zero =>
    intro i hi X hnd hin hK
    rw [List.drop_of_length_le (by omega)] at hK
    refine ev_succ ?_
    simp only [brickyardref19_far.l1]
    exact ev_ite_neg (by omega) hK
  | succ d ih =>
    intro i hi X hnd hin hK
    have hlt : i < wave.length := by omega
    rw [List.drop_eq_getElem_cons hlt, List.flatMap_cons, newOf_append] at hK
    refine ev_succ ?_
    simp only [brickyardref19_far.l1, get_rd hlt]
    have hl : ∀ s, s ∈ G.out wave[i] → s ∈ G.ns := fun s hs => h.ok.inside _ _ hs
    refine ev_ite_pos (by omega) (ev_ite_pos (by omega) (ev_bind (h.out_ev wave[i]) ?_))
    refine far_l2 h (G.out wave[i]) hl (h.out_len _) (G.out wave[i]).length 0 (Nat.zero_add _) X hnd hin ?_
    rw [List.drop_zero, w64n (n := i) (by omega)]
    exact ih (i + 1) (by omega) _ (nodup_newOf S _ X hnd) (sub_newOf _ X hl hin) hK
theorem far_nil {G : GG} {E : List S45} {b : ByteArray} {S : List ByteArray} {n : Int} : Ev (fun k => brickyardref19_far.l0 k b [] S n G.ns E) (-1) := by
  refine ev_succ ?_
  simp only [brickyardref19_far.l0]
  exact ev_ite_neg (by simp) (ev_const rfl)
set_option maxHeartbeats 1000000 in
theorem far_l0 {G : GG} {E : List S45} (h : RG G E) {a b : ByteArray} (ha : a ∈ G.ns) : ∀ (q : Nat) (n : Nat) (wave seen : List ByteArray), G.ns.length ≤ seen.length + q → n + 1 ≤ seen.length → seen.Nodup →
    (∀ s, s ∈ seen ↔ ∃ m, m ≤ n ∧ Dist G.out m a s) → (∀ s, s ∈ wave ↔ Dist G.out n a s) → (∀ m, m < n → ¬ Dist G.out m a b) → wave.length ≤ 100000 → 0 < wave.length →
    Ev (fun k => brickyardref19_far.l0 k b wave seen (n : Int) G.ns E) (farI G a b) := by
  intro q
  induction q with
  | zero =>
    intro n wave seen hq hn hnd hs hw hb hwl hpos
    have hin : ∀ s, s ∈ seen → s ∈ G.ns := fun s hs2 => by obtain ⟨m, _, hd⟩ := (hs s).1 hs2; exact stp_in h.ok hd.1 ha
    refine ev_succ ?_
    simp only [brickyardref19_far.l0]
    refine ev_ite_pos (by omega) (ev_bind (has_ev wave b (by omega)) ?_)
    by_cases hbw : hasB wave b = true
    · exact ev_ite_pos hbw (ev_const (by rw [farI_some ((hw b).1 (hasB_iff.1 hbw))]))
    · refine ev_ite_neg hbw ?_
      have := far_l1 h (b := b) (S := seen) (n := n) (R := farI G a b) hwl wave.length 0 (Nat.zero_add _) [] (by simpa using hnd) (by simpa using hin)
      rw [List.append_nil] at this
      refine this ?_
      rw [List.drop_zero]
      have hX : newOf seen [] (wave.flatMap G.out) = [] := by
        have h1 := nodup_newOf seen (wave.flatMap G.out) [] (by simpa using hnd)
        have h2 := sub_newOf (G := G) (S := seen) (wave.flatMap G.out) [] (fun s hs => by obtain ⟨c, _, hc⟩ := List.mem_flatMap.1 hs; exact h.ok.inside _ _ hc) (by simpa using hin)
        have h3 := List.Nodup.length_le_of_subset h1 h2
        rw [List.length_append] at h3
        exact List.eq_nil_of_length_eq_zero (by omega)
      have hnone : ∀ s, ¬ Dist G.out (n + 1) a s := fun s hd => by
        have hm : s ∈ newOf seen [] (wave.flatMap G.out) := by
          obtain ⟨⟨c, hc, hcs⟩, hmin⟩ := dist_last.1 hd
          exact (mem_newOf _ _ _ _).2 (.inr ⟨List.mem_flatMap.2 ⟨c, (hw c).2 hc, hcs⟩, fun hsn => by obtain ⟨m, hm, hd2⟩ := (hs s).1 hsn; exact hmin m hm hd2⟩)
        rw [hX] at hm
        cases hm
      rw [hX]
      refine ev_eq far_nil (farI_none (fun m hd => ?_)).symm
      rcases Nat.lt_trichotomy m n with hlt | rfl | hlt
      · exact hb m hlt hd
      · exact hbw (hasB_iff.2 ((hw b).2 hd))
      · exact dist_none_from hnone m hlt b hd
  | succ q ih =>
    intro n wave seen hq hn hnd hs hw hb hwl hpos
    have hin : ∀ s, s ∈ seen → s ∈ G.ns := fun s hs2 => by obtain ⟨m, _, hd⟩ := (hs s).1 hs2; exact stp_in h.ok hd.1 ha
    refine ev_succ ?_
    simp only [brickyardref19_far.l0]
    refine ev_ite_pos (by omega) (ev_bind (has_ev wave b (by omega)) ?_)
    by_cases hbw : hasB wave b = true
    · exact ev_ite_pos hbw (ev_const (by rw [farI_some ((hw b).1 (hasB_iff.1 hbw))]))
    · refine ev_ite_neg hbw ?_
      have := far_l1 h (b := b) (S := seen) (n := n) (R := farI G a b) hwl wave.length 0 (Nat.zero_add _) [] (by simpa using hnd) (by simpa using hin)
      rw [List.append_nil] at this
      refine this ?_
      rw [List.drop_zero]
      have h1 := nodup_newOf seen (wave.flatMap G.out) [] (by simpa using hnd)
      have h2 := sub_newOf (G := G) (S := seen) (wave.flatMap G.out) [] (fun s hs => by obtain ⟨c, _, hc⟩ := List.mem_flatMap.1 hs; exact h.ok.inside _ _ hc) (by simpa using hin)
      have hX : ∀ s, s ∈ newOf seen [] (wave.flatMap G.out) ↔ Dist G.out (n + 1) a s := fun s => by
        rw [mem_newOf, dist_last]
        constructor
        · rintro (h' | ⟨h', hn'⟩)
          · cases h'
          · obtain ⟨c, hc, hcs⟩ := List.mem_flatMap.1 h'
            exact ⟨⟨c, (hw c).1 hc, hcs⟩, fun m hm hd => hn' ((hs s).2 ⟨m, hm, hd⟩)⟩
        · rintro ⟨⟨c, hc, hcs⟩, hmin⟩
          exact .inr ⟨List.mem_flatMap.2 ⟨c, (hw c).2 hc, hcs⟩, fun hsn => by obtain ⟨m, hm, hd2⟩ := (hs s).1 hsn; exact hmin m hm hd2⟩
      obtain ⟨X, hXe⟩ : ∃ X, newOf seen [] (wave.flatMap G.out) = X := ⟨_, rfl⟩
      rw [hXe] at h1 h2 hX ⊢
      have hsl := sub_len h.names h1 h2
      rw [List.length_append] at hsl
      rw [w64n (n := n) (by omega)]
      have hbn : ∀ m, m < n + 1 → ¬ Dist G.out m a b := fun m hm hd => by
        rcases Nat.lt_or_ge m n with hlt | hge
        · exact hb m hlt hd
        · have : m = n := by omega
          subst this
          exact hbw (hasB_iff.2 ((hw b).2 hd))
      cases X with
      | nil =>
        refine ev_eq far_nil (farI_none (fun m hd => ?_)).symm
        rcases Nat.lt_or_ge m (n + 1) with hlt | hge
        · exact hbn m hlt hd
        · exact dist_none_from (fun s hd => by have := (hX s).2 hd; cases this) m hge b hd
      | cons x X =>
        refine ih (n + 1) (x :: X) (seen ++ x :: X) (by simp; omega) (by simp; omega) h1 (fun s => ?_) hX hbn (by omega) (by simp)
        rw [List.mem_append, hs, hX]
        constructor
        · rintro (⟨m, hm, hd⟩ | hd)
          · exact ⟨m, by omega, hd⟩
          · exact ⟨n + 1, by omega, hd⟩
        · rintro ⟨m, hm, hd⟩
          by_cases e : m = n + 1
          · subst e; exact .inr hd
          · exact .inl ⟨m, by omega, hd⟩
theorem far_ev {G : GG} {E : List S45} (h : RG G E) {a b : ByteArray} (ha : a ∈ G.ns) : Ev (fun k => brickyardref19_far.f k G.ns E a b) (farI G a b) := by
  refine far_l0 h ha G.ns.length 0 [a] [a] (by omega) (by simp) (by simp) (fun s => ?_) (fun s => ?_) (fun m hm => absurd hm (Nat.not_lt_zero m)) (by simp) (by simp)
  · rw [List.mem_singleton]
    constructor
    · rintro rfl; exact ⟨0, Nat.le_refl _, dist_zero.2 rfl⟩
    · rintro ⟨m, hm, hd⟩
      have : m = 0 := by omega
      subst this
      exact (dist_zero.1 hd).symm
  · rw [List.mem_singleton]
    exact ⟨fun e => dist_zero.2 e.symm, fun hd => (dist_zero.1 hd).symm⟩
set_option maxHeartbeats 1000000 in
theorem way_l0 {G : GG} {E : List S45} (h : RG G E) {b : ByteArray} (hb : b ∈ G.ns) : ∀ (n : Nat) (c : ByteArray) (acc : List ByteArray), Dist G.out n c b → acc.length + n ≤ 1000000 →
    Ev (fun k => brickyardref19_Way.l0 k c b acc G.ns E) (acc ++ steps G.out (nearG G b) n c, true) := by
  intro n
  induction n with
  | zero =>
    intro c acc hd ha
    refine ev_succ ?_
    simp only [brickyardref19_Way.l0, toList_eq]
    refine ev_ite_pos (dist_zero.1 hd) (ev_const ?_)
    rw [steps, List.append_nil]
  | succ n ih =>
    intro c acc hd ha
    have hcb : ¬ c = b := fun e => by
      subst e
      have := hd.uniq (dist_zero.2 (rfl : c = c))
      omega
    have hc : c ∈ G.ns := stp_inside h.ok hd.1 hb
    obtain ⟨x, hfx, hxo, hdx⟩ := stepG hd
    have hst : steps G.out (nearG G b) (n + 1) c = x :: steps G.out (nearG G b) n x := by rw [steps, hfx]
    have hnb := distG_bound h.ok hb hd
    have hnm := h.names
    have hol := h.out_len c
    refine ev_succ ?_
    simp only [brickyardref19_Way.l0, toList_eq]
    refine ev_ite_neg hcb (ev_bind (far_ev h hc) (ev_bind (h.out_ev c) ?_))
    rw [farI_some hd, hst]
    have hw : wrap64 (((n + 1 : Nat) : Int) - 1) = (n : Int) := by rw [w64_ (by omega) (by omega)]; omega
    have key : ∀ d i : Nat, i + d = (G.out c).length → (∀ y, y ∈ (G.out c).take i → nearG G b n y = false) →
        Ev (fun k => brickyardref19_Way.l1 k c b acc ((n + 1 : Nat) : Int) (G.out c) (i : Int) G.ns E) (acc ++ x :: steps G.out (nearG G b) n x, true) := by
      intro d
      induction d with
      | zero =>
        intro i hi hlow
        rw [List.take_of_length_le (by omega)] at hlow
        have := hlow x hxo
        rw [nearG_iff.2 hdx] at this
        cases this
      | succ d ihd =>
        intro i hi hlow
        have hlt : i < (G.out c).length := by omega
        have hin : (G.out c)[i] ∈ G.ns := h.ok.inside c _ (List.getElem_mem hlt)
        refine ev_succ ?_
        simp only [brickyardref19_Way.l1, get_rd hlt, w64n (n := i) (by omega), hw]
        refine ev_ite_pos (by omega) (ev_ite_pos (by omega) (ev_bind (far_ev h hin) ?_))
        by_cases hnr : nearG G b n (G.out c)[i] = true
        · have hxe : (G.out c)[i] = x := by
            have h1 : (G.out c).find? (nearG G b n) = some (G.out c)[i] := by
              conv => lhs; rw [← List.take_append_drop i (G.out c)]
              rw [List.find?_append, List.find?_eq_none.2 (fun y hy => by rw [hlow y hy]; decide), List.drop_eq_getElem_cons hlt, List.find?_cons_of_pos hnr]
              rfl
            rw [hfx] at h1
            exact (Option.some.inj h1).symm
          refine ev_ite_pos (farI_eq.2 (nearG_iff.1 hnr)) (ev_ite_pos (by omega) ?_)
          rw [hxe]
          have := ih x (acc ++ [x]) hdx (by simp; omega)
          rwa [List.append_assoc] at this
        · refine ev_ite_neg (fun e => hnr (nearG_iff.2 (farI_eq.1 e))) ?_
          refine ihd (i + 1) (by omega) (fun y hy => ?_)
          rw [List.take_succ_eq_append_getElem hlt] at hy
          rcases List.mem_append.1 hy with hy | hy
          · exact hlow y hy
          · rw [List.mem_singleton] at hy; rw [hy]; simpa using hnr
    exact key (G.out c).length 0 (Nat.zero_add _) (fun y hy => by rw [List.take_zero] at hy; cases hy)
theorem way_ev {G : GG} {E : List S45} (h : RG G E) (a b : ByteArray) : Ev (fun k => brickyardref19_Way.f k G.ns E a b) (wayG G a b) := by
  have hnm := h.names
  have no : ∀ {r}, r = (([], false) : List ByteArray × Bool) → Ev (fun k => brickyardref19_Way.j0 k a b true G.ns E) r := fun e => by
    refine ev_succ ?_
    simp only [brickyardref19_Way.j0]
    exact ev_ite_pos (by decide) (ev_const (by rw [e]))
  unfold brickyardref19_Way.f
  refine ev_bind (has_ev G.ns a (by omega)) ?_
  by_cases ha : hasB G.ns a = true
  · refine ev_ite_pos ha (ev_bind (has_ev G.ns b (by omega)) ?_)
    by_cases hb : hasB G.ns b = true
    · rw [hasB_iff] at ha hb
      refine ev_ite_pos (hasB_iff.2 hb) (ev_bind (far_ev h ha) ?_)
      cases hd : distG G a b with
      | none =>
        rw [distG_none] at hd
        rw [farI_none hd, show decide ((-1 : Int) < 0) = true from rfl]
        exact no (wayG_none (.inr (.inr hd)))
      | some n =>
        rw [distG_some] at hd
        rw [farI_some hd, show decide ((n : Int) < 0) = false from decide_eq_false (by omega), wayG_some ha hb hd]
        refine ev_succ ?_
        simp only [brickyardref19_Way.j0]
        have hnb := distG_bound h.ok hb hd
        exact ev_ite_neg (by decide) (way_l0 h hb n a [a] hd (by simp; omega))
    · exact ev_ite_neg hb (no (wayG_none (.inr (.inl (fun h' => hb (hasB_iff.2 h'))))))
  · exact ev_ite_neg ha (no (wayG_none (.inl (fun h' => ha (hasB_iff.2 h')))))

end Go.Proofs.Ytmhbdgnajlnhnaa.Pl
