/- What a target hangs on, plainly. -/
import Derived.Test.YtahdgaaedilcmaaPlMerge
import Derived.Test.YtahdgaaedilcmaaPlPathC
import Derived.Test.YtahdgaaedilcmaaPxf18
import Derived.Test.YtahdgaaedilcmaaPxf19
namespace Go.Proofs.Ytahdgaaedilcmaa.Pl
open Go.RowKit Go.Proofs.Ytahdgaaedilcmaa.P Go.Proofs.YtahdgaaedilcmaaW.PrintWords Go.Proofs.YtahdgaaedilcmaaW.PrintLast Go.Proofs.YtahdgaaedilcmaaW.PrintMore
set_option linter.unusedVariables false
/-- the one form of a path, and the error -/
def nm (x : ByteArray) : ByteArray × Int := told (normL (L x))
/-- texts in their one form, behind acc; or the first error -/
def dT : List ByteArray → List ByteArray → List ByteArray × Int
  | acc, [] => (acc, 0)
  | acc, x :: t => if (nm x).2 = 0 then dT (acc ++ [(nm x).1]) t else ([], (nm x).2)
def dG (a : ByteArray) : List ByteArray → Bool → List S32 → List ByteArray × Int
  | acc, there, [] => if there = true then (onceGo [] acc, 0) else ([], 4)
  | acc, there, r :: l => if (nm r.f0).2 = 0 ∧ (nm r.f0).1 = a then (if (dT acc r.f1).2 = 0 then dG a (dT acc r.f1).1 true l else ([], (dT acc r.f1).2)) else dG a acc there l
def depsL (a : ByteArray) (l : List S32) : List ByteArray × Int := if isL (L a) = true then dG a [] false l else ([], 2)
theorem dT_cons (acc : List ByteArray) (x : ByteArray) (t : List ByteArray) : dT acc (x :: t) = if (nm x).2 = 0 then dT (acc ++ [(nm x).1]) t else ([], (nm x).2) := by rw [dT]
theorem dT_nil (acc : List ByteArray) : dT acc [] = (acc, 0) := by rw [dT]
theorem dG_nil (a : ByteArray) (acc : List ByteArray) (there : Bool) : dG a acc there [] = if there = true then (onceGo [] acc, 0) else ([], 4) := by rw [dG]
theorem dG_cons (a : ByteArray) (acc : List ByteArray) (there : Bool) (r : S32) (l : List S32) : dG a acc there (r :: l) = if (nm r.f0).2 = 0 ∧ (nm r.f0).1 = a then (if (dT acc r.f1).2 = 0 then dG a (dT acc r.f1).1 true l else ([], (dT acc r.f1).2)) else dG a acc there l := by rw [dG]
theorem nm_size (x : ByteArray) : (nm x).1.size ≤ 60 ∧ ((nm x).2 = 0 ∨ (nm x).2 = 2 ∨ (nm x).2 = 3) := by
  have hB : ∀ l : List UInt8, (B l).size = l.length := fun l => by rw [size_L, L_B]
  unfold nm told normL resOf
  split
  · exact ⟨by rw [hB]; simp, .inr (.inl rfl)⟩
  · unfold fin
    split
    · exact ⟨by rw [hB]; simp, .inr (.inl rfl)⟩
    · split
      · exact ⟨by rw [hB]; simp, .inr (.inr rfl)⟩
      · rename_i h
        exact ⟨by rw [hB]; show (Lib.join _ [47]).length ≤ 60; omega, .inl rfl⟩
/-- what may be normed here -/
def Normable (l : List S32) : Prop := l.length ≤ 1000000 ∧ ∀ r ∈ l, r.f0.size ≤ 9000000000 ∧ r.f1.length ≤ 1000000 ∧ ∀ d ∈ r.f1, d.size ≤ 9000000000
theorem dT_bound : ∀ (l acc : List ByteArray) (n : Nat), (∀ x ∈ acc, x.size ≤ 60) → acc.length + l.length ≤ n → (dT acc l).1.length ≤ n ∧ ∀ x ∈ (dT acc l).1, x.size ≤ 60
  | [], acc, n, h, hn => ⟨by simp at hn; exact hn, h⟩
  | x :: t, acc, n, h, hn => by
    unfold dT
    split
    · exact dT_bound t _ n (fun y hy => by
        rcases List.mem_append.1 hy with hy | hy
        · exact h y hy
        · rw [List.mem_singleton] at hy; rw [hy]; exact (nm_size x).1) (by simp at hn ⊢; omega)
    · exact ⟨Nat.zero_le _, fun y hy => by cases hy⟩
theorem dT_len : ∀ (l acc : List ByteArray), (dT acc l).1.length ≤ acc.length + l.length
  | [], acc => by unfold dT; simp
  | x :: t, acc => by
    unfold dT
    split
    · have := dT_len t (acc ++ [(nm x).1]); simp at this ⊢; omega
    · exact Nat.zero_le _
theorem dG_len (a : ByteArray) : ∀ (l : List S32) (acc : List ByteArray) (there : Bool), (dG a acc there l).1.length ≤ acc.length + sumD l
  | [], acc, there => by
    unfold dG
    split
    · have := onceGo_len acc []; simp at this ⊢; omega
    · exact Nat.zero_le _
  | r :: l, acc, there => by
    have e : sumD (r :: l) = r.f1.length + sumD l := rfl
    unfold dG
    split
    · split
      · have h1 := dG_len a l (dT acc r.f1).1 true
        have h2 := dT_len r.f1 acc
        omega
      · exact Nat.zero_le _
    · have := dG_len a l acc there; omega
theorem depsL_len (a : ByteArray) (l : List S32) : (depsL a l).1.length ≤ sumD l := by
  unfold depsL
  split
  · have := dG_len a l [] false; simpa using this
  · exact Nat.zero_le _
theorem normable_of {l : List S32} (h : tot l < 32768) : Normable l ∧ sumD l ≤ 1000000 := by
  have keyT : ∀ l : List ByteArray, l.length ≤ totT l ∧ ∀ d ∈ l, d.size ≤ totT l := by
    intro l
    induction l with
    | nil => exact ⟨Nat.le_refl _, fun d h => by cases h⟩
    | cons x l ih =>
      have e : totT (x :: l) = 1 + x.size + totT l := rfl
      rw [e]
      refine ⟨by simp; omega, fun d hd => ?_⟩
      rcases List.mem_cons.1 hd with rfl | hd
      · omega
      · have := ih.2 d hd; omega
  have key : ∀ l : List S32, l.length ≤ tot l ∧ sumD l ≤ tot l ∧ ∀ r ∈ l, r.f0.size ≤ tot l ∧ r.f1.length ≤ tot l ∧ ∀ d ∈ r.f1, d.size ≤ tot l := by
    intro l
    induction l with
    | nil => exact ⟨Nat.le_refl _, Nat.le_refl _, fun r h => by cases h⟩
    | cons x l ih =>
      have e : tot (x :: l) = 1 + x.f0.size + totT x.f1 + tot l := rfl
      have es : sumD (x :: l) = x.f1.length + sumD l := rfl
      have hx := keyT x.f1
      rw [e, es]
      refine ⟨by simp; omega, by omega, fun r hr => ?_⟩
      rcases List.mem_cons.1 hr with rfl | hr
      · exact ⟨by omega, by omega, fun d hd => by have := hx.2 d hd; omega⟩
      · have := ih.2.2 r hr
        exact ⟨by omega, by omega, fun d hd => by have := this.2.2 d hd; omega⟩
  have k := key l
  exact ⟨⟨by omega, fun r hr => by have := k.2.2 r hr; exact ⟨by omega, by omega, fun d hd => by have := this.2.2 d hd; omega⟩⟩, by omega⟩
theorem sumD_drop {l : List S32} {i : Nat} (h : i < l.length) : sumD (l.drop i) = l[i].f1.length + sumD (l.drop (i + 1)) := by
  unfold sumD; rw [List.drop_eq_getElem_cons h]; rfl
theorem norm_nm (x : ByteArray) (h : x.size ≤ 9000000000) : Ev (fun k => path_Norm.f k x) (nm x) := pathnorm_ev x h
theorem refnorm_nm (x : ByteArray) (h : x.size ≤ 9000000000) : Ev (fun k => brickyardref09_Norm.f k x) (nm x) := refnorm_ev x h
theorem ne_toList {x y : ByteArray} : (x.toList != y.toList) = false ↔ x = y := by
  rw [bne_eq_false_iff_eq, toList_L, toList_L]; exact ⟨fun h => L_inj h, fun h => by rw [h]⟩
set_option maxHeartbeats 1000000 in
theorem deps_l0 (a : ByteArray) (l : List S32) (hN : Normable l) : ∀ d i : Nat, i + d = l.length → ∀ (acc : List ByteArray) (there : Bool), acc.length + sumD (l.drop i) ≤ 1000000 → (∀ x ∈ acc, x.size ≤ 60) →
    Ev (fun k => depfile_Deps.l0 k a acc there l (l.length : Int) (i : Int)) (dG a acc there (l.drop i)) := by
  have hl := hN.1
  intro d
  induction d with
  | zero =>
    intro i hi acc there hs hz
    refine ev_succ ?_
    simp only [depfile_Deps.l0]
    refine ev_ite_neg (by omega) ?_
    rw [List.drop_of_length_le (by omega)]
    rw [dG_nil]
    by_cases h : there = true
    · refine ev_eq (ev_ite_pos h (ev_const ?_)) (if_pos h).symm
      have : depfile_once.f acc = some (onceGo [] acc) := by
        unfold depfile_once.f
        rw [if_pos ⟨by omega, fun x hx => by have := hz x hx; omega⟩]
      rw [this]; rfl
    · exact ev_eq (ev_ite_neg h (ev_const rfl)) (if_neg h).symm
  | succ d ih =>
    intro i hi acc there hs hz
    have hlt : i < l.length := by omega
    have hrd : rd_T32 l (i : Int) = l[i] := by
      unfold rd_T32; rw [Int.toNat_natCast, List.getD_eq_getElem?_getD, List.getElem?_eq_getElem hlt]; rfl
    have hr := hN.2 _ (List.getElem_mem hlt)
    rw [sumD_drop hlt] at hs
    rw [List.drop_eq_getElem_cons hlt]
    obtain ⟨r, hre⟩ : ∃ r, l[i] = r := ⟨_, rfl⟩
    rw [hre] at hrd hr hs ⊢
    obtain ⟨h0, h1, h2⟩ := hr
    have next : ∀ (acc : List ByteArray) (there : Bool), acc.length + sumD (l.drop (i + 1)) ≤ 1000000 → (∀ x ∈ acc, x.size ≤ 60) → Ev (fun k => depfile_Deps.l0 k a acc there l (l.length : Int) (wrap64 ((i : Int) + 1))) (dG a acc there (l.drop (i + 1))) := by
      rw [w64_ (by omega) (by omega)]
      exact ih (i + 1) (by omega)
    clear ih
    have one : ∀ e j : Nat, j + e = r.f1.length → ∀ acc : List ByteArray, acc.length + (r.f1.length - j) + sumD (l.drop (i + 1)) ≤ 1000000 → (∀ x ∈ acc, x.size ≤ 60) →
        Ev (fun k => depfile_Deps.l1 k a acc true l (l.length : Int) (i : Int) r.f1 (r.f1.length : Int) (j : Int)) (if (dT acc (r.f1.drop j)).2 = 0 then dG a (dT acc (r.f1.drop j)).1 true (l.drop (i + 1)) else ([], (dT acc (r.f1.drop j)).2)) := by
      intro e
      induction e with
      | zero =>
        intro j hj acc hs hz
        rw [List.drop_of_length_le (by omega)]
        refine ev_succ ?_
        simp only [depfile_Deps.l1]
        refine ev_ite_neg (by omega) ?_
        rw [dT_nil, if_pos rfl]
        exact next acc true (by omega) hz
      | succ e ih =>
        intro j hj acc hs hz
        have hlj : j < r.f1.length := by omega
        have hrd3 : rdOf ByteArray.empty r.f1 (j : Int) = r.f1[j] := by
          unfold rdOf; rw [Int.toNat_natCast, List.getD_eq_getElem?_getD, List.getElem?_eq_getElem hlj]; rfl
        have hx := h2 _ (List.getElem_mem hlj)
        rw [List.drop_eq_getElem_cons hlj]
        have e2 : Aside0 (wrap64 ((j : Int) + 1) = ((j + 1 : Nat) : Int)) := ⟨by rw [w64_ (by omega) (by omega)]; rfl⟩
        refine ev_succ ?_
        simp only [depfile_Deps.l1, hrd3]
        refine ev_ite_pos (by omega) (ev_ite_pos (by omega) (ev_ite_pos (by omega) (ev_bind (norm_nm _ hx) ?_)))
        rw [dT_cons]
        by_cases hc : (nm r.f1[j]).2 = 0
        · refine ev_eq (ev_ite_pos hc (ev_ite_pos (by omega) ?_)) (by rw [if_pos hc])
          rw [e2.out]
          exact ih (j + 1) (by omega) _ (by simp; omega) (fun y hy => by
            rcases List.mem_append.1 hy with hy | hy
            · exact hz y hy
            · rw [List.mem_singleton] at hy; rw [hy]; exact (nm_size _).1)
        · refine ev_eq ?_ (by rw [if_neg hc])
          exact ev_ite_neg hc (ev_const (by rw [if_neg hc]))
    have jn : ∀ b : Bool, Ev (fun k => depfile_Deps.j1 k a acc there l (l.length : Int) (i : Int) b r.f0 r.f1) (if b = true then dG a acc there (l.drop (i + 1)) else (if (dT acc r.f1).2 = 0 then dG a (dT acc r.f1).1 true (l.drop (i + 1)) else ([], (dT acc r.f1).2))) := by
      intro b
      refine ev_succ ?_
      simp only [depfile_Deps.j1]
      by_cases hb : b = true
      · rw [if_pos hb]; exact ev_ite_pos hb (next acc there (by omega) hz)
      · rw [if_neg hb]
        refine ev_ite_neg hb ?_
        have := one r.f1.length 0 (Nat.zero_add _) acc (by omega) hz
        rwa [List.drop_zero] at this
    refine ev_succ ?_
    simp only [depfile_Deps.l0, hrd]
    refine ev_ite_pos (by omega) (ev_ite_pos (by omega) (ev_ite_pos (by omega) (ev_bind (norm_nm _ h0) ?_)))
    rw [dG_cons]
    by_cases hc : (nm r.f0).2 = 0
    · refine ev_ite_pos hc ?_
      refine ev_eq (jn _) ?_
      by_cases he : (nm r.f0).1 = a
      · rw [if_neg (by rw [ne_toList.2 he]; decide), if_pos (show (nm r.f0).2 = 0 ∧ (nm r.f0).1 = a from ⟨hc, he⟩)]
      · rw [if_pos (by cases h : ((nm r.f0).1.toList != a.toList); exact absurd (ne_toList.1 h) he; rfl), if_neg (show ¬ ((nm r.f0).2 = 0 ∧ (nm r.f0).1 = a) from fun h => he h.2)]
    · refine ev_ite_neg hc ?_
      refine ev_eq (jn true) ?_
      rw [if_pos rfl, if_neg (show ¬ ((nm r.f0).2 = 0 ∧ (nm r.f0).1 = a) from fun h => hc h.1)]
theorem deps_ev (a : ByteArray) (l : List S32) (hN : Normable l) (hs : sumD l ≤ 1000000) : Ev (fun k => depfile_Deps.f k a l) (depsL a l) := by
  unfold depfile_Deps.f depsL
  refine ev_bind (is_ev a) ?_
  by_cases h : isL (L a) = true
  · refine ev_eq (ev_ite_pos h ?_) (if_pos h).symm
    have := deps_l0 a l hN l.length 0 (Nat.zero_add _) [] false (by simpa using hs) (fun x hx => by cases hx)
    rwa [List.drop_zero] at this
  · exact ev_eq (ev_ite_neg h (ev_const rfl)) (if_neg h).symm
set_option maxHeartbeats 1000000 in
theorem refdeps_l0 (a : ByteArray) (l : List S32) (hN : Normable l) : ∀ d i : Nat, i + d = l.length → ∀ (acc : List ByteArray) (there : Bool), acc.length + sumD (l.drop i) ≤ 1000000 →
    Ev (fun k => brickyardref16_Deps.l0 k a l (onceGo [] acc) there (i : Int)) (dG a acc there (l.drop i)) := by
  have hl := hN.1
  intro d
  induction d with
  | zero =>
    intro i hi acc there hs
    refine ev_succ ?_
    simp only [brickyardref16_Deps.l0]
    refine ev_ite_neg (by omega) ?_
    rw [List.drop_of_length_le (by omega)]
    rw [dG_nil]
    by_cases h : there = true
    · exact ev_eq (ev_ite_pos h (ev_const rfl)) (if_pos h).symm
    · exact ev_eq (ev_ite_neg h (ev_const rfl)) (if_neg h).symm
  | succ d ih =>
    intro i hi acc there hs
    have hlt : i < l.length := by omega
    have hrd : rd_T32 l (i : Int) = l[i] := by
      unfold rd_T32; rw [Int.toNat_natCast, List.getD_eq_getElem?_getD, List.getElem?_eq_getElem hlt]; rfl
    have hr := hN.2 _ (List.getElem_mem hlt)
    rw [sumD_drop hlt] at hs
    rw [List.drop_eq_getElem_cons hlt]
    obtain ⟨r, hre⟩ : ∃ r, l[i] = r := ⟨_, rfl⟩
    rw [hre] at hrd hr hs ⊢
    obtain ⟨h0, h1, h2⟩ := hr
    have next : ∀ (acc : List ByteArray) (there : Bool), acc.length + sumD (l.drop (i + 1)) ≤ 1000000 → Ev (fun k => brickyardref16_Deps.l0 k a l (onceGo [] acc) there (wrap64 ((i : Int) + 1))) (dG a acc there (l.drop (i + 1))) := by
      rw [w64_ (by omega) (by omega)]
      exact ih (i + 1) (by omega)
    clear ih
    have one : ∀ e j : Nat, j + e = r.f1.length → ∀ acc : List ByteArray, acc.length + (r.f1.length - j) + sumD (l.drop (i + 1)) ≤ 1000000 →
        Ev (fun k => brickyardref16_Deps.l1 k a l (onceGo [] acc) true (i : Int) (j : Int)) (if (dT acc (r.f1.drop j)).2 = 0 then dG a (dT acc (r.f1.drop j)).1 true (l.drop (i + 1)) else ([], (dT acc (r.f1.drop j)).2)) := by
      intro e
      induction e with
      | zero =>
        intro j hj acc hs
        rw [List.drop_of_length_le (by omega)]
        refine ev_succ ?_
        simp only [brickyardref16_Deps.l1, hrd]
        refine ev_ite_pos (by omega) (ev_ite_pos (by omega) (ev_ite_neg (by omega) ?_))
        rw [dT_nil, if_pos rfl]
        exact next acc true (by omega)
      | succ e ih =>
        intro j hj acc hs
        have hlj : j < r.f1.length := by omega
        have hrd3 : rdOf ByteArray.empty r.f1 (j : Int) = r.f1[j] := by
          unfold rdOf; rw [Int.toNat_natCast, List.getD_eq_getElem?_getD, List.getElem?_eq_getElem hlj]; rfl
        have hx := h2 _ (List.getElem_mem hlj)
        rw [List.drop_eq_getElem_cons hlj]
        have e2 : Aside0 (wrap64 ((j : Int) + 1) = ((j + 1 : Nat) : Int)) := ⟨by rw [w64_ (by omega) (by omega)]; rfl⟩
        refine ev_succ ?_
        simp only [brickyardref16_Deps.l1, hrd, hrd3]
        refine ev_ite_pos (by omega) (ev_ite_pos (by omega) (ev_ite_pos (by omega) (ev_ite_pos (by omega) (ev_bind (refnorm_nm _ hx) ?_))))
        rw [dT_cons]
        by_cases hc : (nm r.f1[j]).2 = 0
        · refine ev_eq ?_ (by rw [if_pos hc])
          have hol := onceGo_len acc []
          have ha : Ev (fun k => brickyardref16_add.f k (onceGo [] acc) (nm r.f1[j]).1) (onceGo [] (acc ++ [(nm r.f1[j]).1])) := by
            rw [onceGo_snoc]
            exact add_ev _ _ (by simp at hol; omega) _ 0 (Nat.zero_add _) (fun j h => absurd h (Nat.not_lt_zero _))
          refine ev_ite_pos hc (ev_bind ha ?_)
          rw [e2.out]
          exact ih (j + 1) (by omega) _ (by simp; omega)
        · refine ev_eq ?_ (by rw [if_neg hc])
          exact ev_ite_neg hc (ev_const (by rw [if_neg hc]))
    have jn : ∀ b : Bool, Ev (fun k => brickyardref16_Deps.j1 k a l (onceGo [] acc) there (i : Int) b) (if b = true then dG a acc there (l.drop (i + 1)) else (if (dT acc r.f1).2 = 0 then dG a (dT acc r.f1).1 true (l.drop (i + 1)) else ([], (dT acc r.f1).2))) := by
      intro b
      refine ev_succ ?_
      simp only [brickyardref16_Deps.j1]
      by_cases hb : b = true
      · rw [if_pos hb]; exact ev_ite_pos hb (next acc there (by omega))
      · rw [if_neg hb]
        refine ev_ite_neg hb ?_
        have := one r.f1.length 0 (Nat.zero_add _) acc (by omega)
        rwa [List.drop_zero] at this
    refine ev_succ ?_
    simp only [brickyardref16_Deps.l0, hrd]
    refine ev_ite_pos (by omega) (ev_ite_pos (by omega) (ev_bind (refnorm_nm _ h0) ?_))
    rw [dG_cons]
    by_cases hc : (nm r.f0).2 = 0
    · refine ev_ite_pos hc ?_
      refine ev_eq (jn _) ?_
      by_cases he : (nm r.f0).1 = a
      · rw [if_neg (by rw [ne_toList.2 he]; decide), if_pos (show (nm r.f0).2 = 0 ∧ (nm r.f0).1 = a from ⟨hc, he⟩)]
      · rw [if_pos (by cases h : ((nm r.f0).1.toList != a.toList); exact absurd (ne_toList.1 h) he; rfl), if_neg (show ¬ ((nm r.f0).2 = 0 ∧ (nm r.f0).1 = a) from fun h => he h.2)]
    · refine ev_ite_neg hc ?_
      refine ev_eq (jn true) ?_
      rw [if_pos rfl, if_neg (show ¬ ((nm r.f0).2 = 0 ∧ (nm r.f0).1 = a) from fun h => hc h.1)]
theorem refdeps_ev (a : ByteArray) (l : List S32) (hN : Normable l) (hs : sumD l ≤ 1000000) : Ev (fun k => brickyardref16_Deps.f k a l) (depsL a l) := by
  unfold brickyardref16_Deps.f depsL
  refine ev_bind (refis_ev a) ?_
  by_cases h : isL (L a) = true
  · refine ev_eq (ev_ite_pos h ?_) (if_pos h).symm
    have := refdeps_l0 a l hN l.length 0 (Nat.zero_add _) [] false (by simpa using hs)
    rwa [List.drop_zero] at this
  · exact ev_eq (ev_ite_neg h (ev_const rfl)) (if_neg h).symm
end Go.Proofs.Ytahdgaaedilcmaa.Pl
