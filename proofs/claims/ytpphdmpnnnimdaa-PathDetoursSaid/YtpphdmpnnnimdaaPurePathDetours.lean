/- Detours change nothing: a path's one form is the same with another slash, a dot, or a segment that is left at once, put in at any slash: texts of at most 2^20 bytes, segments of at most 64; longer ones are let go. No condition. -/
import Derived.Test.YtpphdmpnnnimdaaPlPathD
import Derived.Test.YtpphdmpnnnimdaaPxf4
namespace Go.Proofs.Ytpphdmpnnnimdaa.Pl
open Go.RowKit Go.Proofs.YtpphdmpnnnimdaaW.PrintWords Go.Proofs.Ytpphdmpnnnimdaa.P
set_option linter.unusedSimpArgs false
set_option linter.unusedVariables false

theorem walk_app (ps qs : List (List UInt8)) : ∀ kept, walk kept (ps ++ qs) = (walk kept ps).bind (fun k => walk k qs) := by
  induction ps with
  | nil => intro kept; rfl
  | cons p ps ih =>
    intro kept
    rw [List.cons_append, walk_cons, walk_cons]
    split
    · exact ih _
    · split
      · split
        · rfl
        · exact ih _
      · split
        · exact ih _
        · rfl
theorem seg_noslash {p : List UInt8} (h : segB p = true) : (47 : UInt8) ∉ p := by
  intro hm
  unfold segB at h
  simp only [Bool.and_eq_true, List.all_eq_true] at h
  have := h.2 47 hm
  exact absurd this (by decide)
theorem pieces_join : ∀ ks : List (List UInt8), ks ≠ [] → (∀ p ∈ ks, (47 : UInt8) ∉ p) → pieces (Lib.join ks [47]) = ks := by
  intro ks
  induction ks with
  | nil => intro h; exact absurd rfl h
  | cons x r ih =>
    intro _ h
    cases r with
    | nil => rw [Lib.join_one]; exact pieces_one (h x List.mem_cons_self)
    | cons y r =>
      have e : Lib.join (x :: y :: r) [47] = x ++ 47 :: Lib.join (y :: r) [47] := by
        rw [Lib.join_cons, Lib.join_cons]
        simp [Lib.joinTail]
      rw [e, pieces_cut (h x List.mem_cons_self), ih (by simp) (fun p hp => h p (List.mem_cons_of_mem _ hp))]
theorem walk_keeps : ∀ (ps kept k' : List (List UInt8)), (∀ p ∈ kept, segB p = true) → walk kept ps = some k' → ∀ p ∈ k', segB p = true := by
  intro ps
  induction ps with
  | nil => intro kept k' h e; rw [← Option.some.inj e]; exact h
  | cons p ps ih =>
    intro kept k' h e
    rw [walk_cons] at e
    split at e
    · exact ih _ _ h e
    · split at e
      · split at e
        · cases e
        · exact ih _ _ (fun q hq => h q (List.dropLast_subset _ hq)) e
      · split at e
        · next hs =>
          refine ih _ _ (fun q hq => ?_) e
          rcases List.mem_append.1 hq with hq | hq
          · exact h q hq
          · rw [List.mem_singleton.1 hq]; exact hs
        · cases e
/-- what the one form is -/
theorem norm_cases (l : List UInt8) : (normL l).2 = 0 ∧ isL (normL l).1 = true ∨ (normL l).1 = [] ∧ ((normL l).2 = 2 ∨ (normL l).2 = 3) := by
  unfold normL
  cases hw : walk [] (pieces l) with
  | none => exact .inr ⟨rfl, .inl rfl⟩
  | some ks =>
    have hk := walk_keeps _ _ _ (fun p hp => by cases hp) hw
    simp only [resOf, fin]
    by_cases h1 : ks = []
    · rw [if_pos h1]; exact .inr ⟨rfl, .inl rfl⟩
    · rw [if_neg h1]
      by_cases h2 : (Lib.join ks [47]).length > 60
      · rw [if_pos h2]; exact .inr ⟨rfl, .inr rfl⟩
      · rw [if_neg h2]
        refine .inl ⟨rfl, isL_mk (by show (Lib.join ks [47]).length ≤ 60; omega) ?_⟩
        show ∀ p ∈ pieces (Lib.join ks [47]), segB p = true
        rw [pieces_join ks h1 (fun p hp => seg_noslash (hk p hp))]
        exact hk
/-- where a detour may stand -/
def Place (l : List UInt8) (z : Int) : Prop := ∃ a b, l = a ++ b ∧ z = (a.length : Int) ∧ (a = [] ∨ ∃ a', a = a' ++ [47])
/-- what may be put in -/
def Put (m : List UInt8) : Prop := ∀ kept b, walk kept (pieces (m ++ b)) = walk kept (pieces b)
theorem detour {l m : List UInt8} (hm : Put m) {a b : List UInt8} (he : l = a ++ b) (ha : a = [] ∨ ∃ a', a = a' ++ [47]) : normL (a ++ m ++ b) = normL l := by
  unfold normL
  rcases ha with rfl | ⟨a', rfl⟩
  · rw [he, List.nil_append, List.nil_append, hm]
  · rw [he, show a' ++ [47] ++ m ++ b = a' ++ 47 :: (m ++ b) by simp, show a' ++ [47] ++ b = a' ++ 47 :: b by simp, pieces_split, pieces_split, walk_app, walk_app]
    congr 1
    cases walk [] (pieces a') with
    | none => rfl
    | some k => exact hm k b
theorem put_slash : Put [47] := by
  intro kept b
  show walk kept (pieces (47 :: b)) = _
  rw [pieces_slash, walk_cons, if_pos (.inl rfl)]
theorem put_dot : Put [46, 47] := by
  intro kept b
  show walk kept (pieces ([46] ++ 47 :: b)) = _
  rw [pieces_cut (by decide), walk_cons, if_pos (.inr rfl)]
theorem put_seg {s : List UInt8} (h1 : segB s = true) : Put (s ++ [47, 46, 46, 47]) := by
  intro kept b
  rw [show s ++ [47, 46, 46, 47] ++ b = s ++ 47 :: ([46, 46] ++ 47 :: b) by simp, pieces_cut (seg_noslash h1), pieces_cut (by decide)]
  have hw := walk_segs [s] (fun p hp => by rw [List.mem_singleton.1 hp]; exact h1) kept ([46, 46] :: pieces b)
  rw [List.singleton_append] at hw
  rw [hw, walk_cons, if_neg (by decide), if_pos rfl, if_neg (by simp), List.dropLast_concat]
theorem det_j6 (l : List UInt8) (h60 : l.length ≤ 1000000000) : Ev (fun k => brickyardlaw09_PathDetours.j6 k (B (normL l).1) (normL l).2 false) true := by
  refine ev_succ ?_
  simp only [brickyardlaw09_PathDetours.j6]
  refine ev_ite_neg (by simp) ?_
  rcases norm_cases l with ⟨h1, h2⟩ | ⟨h1, h2⟩
  · refine ev_ite_pos h1 ?_
    have n1 := pathnorm_ev (B (normL l).1) (by rw [size_B]; have := isL_len h2; omega)
    rw [L_B, norm_isL h2] at n1
    have i1 := is_ev (B (normL l).1)
    rw [L_B, h2] at i1
    exact ev_bind n1 (ev_bind i1 (ev_ite_pos rfl (ev_ite_pos rfl (ev_const rfl))))
  · have hz : ¬ (normL l).2 = 0 := by omega
    refine ev_ite_neg hz (ev_ite_pos (by rw [toList_L, L_B, h1]) ?_)
    by_cases h3 : (normL l).2 = 2
    · exact ev_ite_pos h3 (ev_const rfl)
    · refine ev_ite_neg h3 (ev_const ?_)
      have : (normL l).2 = 3 := by omega
      simp [this]
theorem det_j5 (x : ByteArray) (hx : x.size ≤ 10000000) (pl : List Int) (hp : ∀ z ∈ pl, Place (L x) z) (j : Int) (j0 : 0 ≤ j) (j1 : j < (pl.length : Int)) (m : ByteArray) (hm : Put (L m)) (hms : m.size ≤ 1000) :
    Ev (fun k => brickyardlaw09_PathDetours.j5 k x pl j m) true := by
  have sx := size_L x
  refine ev_succ ?_
  simp only [brickyardlaw09_PathDetours.j5]
  have hmem : rd pl j ∈ pl := by
    unfold rd
    rw [List.getD_eq_getElem?_getD, List.getElem?_eq_getElem (by omega)]
    exact List.getElem_mem _
  obtain ⟨a, b, he, hz, ha⟩ := hp _ hmem
  have hl : (L x).length = a.length + b.length := by rw [he, List.length_append]
  refine ev_bind (pathnorm_ev x (by omega)) (ev_ite_pos j0 (ev_ite_pos j1 ?_))
  rw [hz, Int.toNat_natCast]
  have e1 : L (x.extract 0 a.length) = a := by rw [L_extract, he]; simp
  have e2 : L (x.extract a.length x.size) = b := by
    rw [L_extract, he, List.drop_left]
    exact List.take_of_length_le (by omega)
  have s1 : (x.extract 0 a.length).size = a.length := by rw [size_L, e1]
  have s2 : (x.extract a.length x.size).size = b.length := by rw [size_L, e2]
  have s3 : (x.extract 0 a.length ++ m).size = a.length + m.size := by rw [size_L, L_append, List.length_append, e1, ← size_L]
  have e3 : L (x.extract 0 a.length ++ m ++ x.extract a.length x.size) = a ++ L m ++ b := by rw [L_append, L_append, e1, e2]
  have s4 : (x.extract 0 a.length ++ m ++ x.extract a.length x.size).size = a.length + m.size + b.length := by rw [size_L, e3, List.length_append, List.length_append, ← size_L]
  refine ev_ite_pos (by omega) (ev_ite_pos (by omega) (ev_ite_pos (by omega) (ev_ite_pos (by omega) ?_)))
  refine ev_bind (pathnorm_ev _ (by omega)) ?_
  rw [e3, detour hm he ha]
  refine ev_ite_pos rfl ?_
  rw [show ((told (normL (L x))).2 != (told (normL (L x))).2) = false by simp]
  exact det_j6 (L x) (by omega)
section
variable (x seg : ByteArray) (hx : x.size ≤ 10000000) (hseg : seg.size ≤ 64)
include hx hseg
theorem det_j4 (pl : List Int) (hp : ∀ z ∈ pl, Place (L x) z) (j : Int) (j0 : 0 ≤ j) (j1 : j < (pl.length : Int)) (b : Bool) :
    Ev (fun k => brickyardlaw09_PathDetours.j4 k x seg pl j (⟨#[47]⟩ : ByteArray) b) true := by
  refine ev_succ ?_
  simp only [brickyardlaw09_PathDetours.j4]
  cases b with
  | false => exact ev_ite_neg (by simp) (det_j5 x hx pl hp j j0 j1 _ put_slash (by decide))
  | true =>
    refine ev_ite_pos rfl (ev_ite_pos (by omega) (ev_bind (is_ev seg) ?_))
    cases hi : isL (L seg) with
    | false => exact ev_ite_neg (by simp) (ev_const rfl)
    | true =>
      refine ev_ite_pos rfl (ev_bind (refcut_ev seg (by omega)) ?_)
      by_cases h1 : (((pieces (L seg)).map B).length : Int) = 1
      · refine ev_ite_pos h1 (det_j5 x hx pl hp j j0 j1 _ ?_ (by rw [size_L, L_append, List.length_append, ← size_L]; show seg.size + 4 ≤ _; omega))
        rw [L_append]
        have hn : (47 : UInt8) ∉ L seg := by
          intro h
          obtain ⟨a, b, he, _⟩ := first_split h
          rw [List.length_map, he, pieces_split, List.length_append] at h1
          have n1 : (pieces a).length ≠ 0 := fun e => pieces_ne a (List.eq_nil_of_length_eq_zero e)
          have n2 : (pieces b).length ≠ 0 := fun e => pieces_ne b (List.eq_nil_of_length_eq_zero e)
          omega
        exact put_seg (isL_segs hi _ (by rw [pieces_one hn]; exact List.mem_cons_self))
      · exact ev_ite_neg h1 (ev_const rfl)
theorem det_j2 (how : Int) (pl : List Int) (hp : ∀ z ∈ pl, Place (L x) z) (j : Int) (j0 : 0 ≤ j) (j1 : j < (pl.length : Int)) :
    Ev (fun k => brickyardlaw09_PathDetours.j2 k x how seg pl j) true := by
  have h3 : ∀ (h : Int) (b : Bool), Ev (fun k => brickyardlaw09_PathDetours.j3 k x seg pl j (⟨#[47]⟩ : ByteArray) h b) true := by
    intro h b
    refine ev_succ ?_
    simp only [brickyardlaw09_PathDetours.j3]
    cases b with
    | true => exact ev_ite_pos rfl (det_j5 x hx pl hp j j0 j1 _ put_dot (by decide))
    | false =>
      refine ev_ite_neg (by simp) ?_
      by_cases e : h = 2
      · exact ev_ite_pos e (det_j4 x seg hx hseg pl hp j j0 j1 _)
      · exact ev_ite_neg e (det_j4 x seg hx hseg pl hp j j0 j1 _)
  refine ev_succ ?_
  simp only [brickyardlaw09_PathDetours.j2]
  by_cases e : Int.tmod how 3 = 1
  · exact ev_ite_pos e (h3 _ _)
  · exact ev_ite_neg e (h3 _ _)
theorem det_l0 (at_ how : Int) : ∀ d i : Nat, ∀ pl : List Int, i + d = x.size → pl ≠ [] → pl.length ≤ i + 1 → (∀ z ∈ pl, Place (L x) z) →
    Ev (fun k => brickyardlaw09_PathDetours.l0 k x at_ how seg pl (i : Int)) true := by
  have sx := size_L x
  intro d
  induction d with
  | zero =>
    intro i pl hi hne hlen hp
    have hn : pl.length ≠ 0 := fun e => hne (List.eq_nil_of_length_eq_zero e)
    have hpos : (0 : Int) < (pl.length : Int) := by omega
    have t1 : Int.tmod at_ (pl.length : Int) < (pl.length : Int) := Int.tmod_lt_of_pos _ hpos
    have t2 : -(pl.length : Int) < Int.tmod at_ (pl.length : Int) := by
      by_cases h : 0 ≤ at_
      · have := Int.tmod_nonneg (pl.length : Int) h; omega
      · have h5 : Int.tmod (-at_) (pl.length : Int) < (pl.length : Int) := Int.tmod_lt_of_pos _ hpos
        rw [Int.neg_tmod] at h5
        omega
    refine ev_succ ?_
    simp only [brickyardlaw09_PathDetours.l0]
    refine ev_ite_neg (by omega) (ev_ite_neg (by omega) ?_)
    by_cases e : Int.tmod at_ (pl.length : Int) < 0
    · refine ev_ite_pos e ?_
      rw [w64 (x := Int.tmod at_ (pl.length : Int) + (pl.length : Int)) (by omega) (by omega)]
      exact det_j2 x seg hx hseg how pl hp _ (by omega) (by omega)
    · exact ev_ite_neg e (det_j2 x seg hx hseg how pl hp _ (by omega) (by omega))
  | succ d ih =>
    intro i pl hi hne hlen hp
    have hlt : i < (L x).length := by omega
    refine ev_succ ?_
    simp only [brickyardlaw09_PathDetours.l0]
    refine ev_ite_pos (by omega) (ev_ite_pos (by omega) ?_)
    rw [bt_L x i hlt, wsucc (by omega)]
    by_cases h : (L x)[i] = 47
    · refine ev_ite_pos (by rw [h]; rfl) (ev_ite_pos (by omega) (ih (i + 1) (pl ++ [((i + 1 : Nat) : Int)]) (by omega) (by simp) (by simp; omega) (fun z hz => ?_)))
      rcases List.mem_append.1 hz with hz | hz
      · exact hp z hz
      · rw [List.mem_singleton.1 hz]
        refine ⟨(L x).take (i + 1), (L x).drop (i + 1), (List.take_append_drop _ _).symm, ?_, .inr ⟨(L x).take i, ?_⟩⟩
        · rw [List.length_take, Nat.min_eq_left (by omega)]
        · rw [List.take_add_one, List.getElem?_eq_getElem hlt, h]; rfl
    · refine ev_ite_neg (fun e => h (UInt8.toNat.inj (by show ((L x)[i]'hlt).toNat = 47; omega))) (ih (i + 1) pl (by omega) hne (by omega) hp)
end
end Go.Proofs.Ytpphdmpnnnimdaa.Pl
namespace Go.Proofs.Ytpphdmpnnnimdaa.Pure
open Go.RowKit Go.Proofs.Ytpphdmpnnnimdaa.P Go.Proofs.YtpphdmpnnnimdaaW.PrintWords Go.Proofs.YtpphdmpnnnimdaaW.PrintLast Go.Proofs.Ytpphdmpnnnimdaa.Pl

theorem PathDetours : ∀ (s : ByteArray) (at_ how : Int) (seg : ByteArray), (Lit.int .i64 at_).wf = true → (Lit.int .i64 how).wf = true → ∃ k, brickyardlaw09_PathDetours.f k s at_ how seg = some true := by
  intro s at_ how seg _ _
  refine Ev.rounds (r := true) ?_
  unfold brickyardlaw09_PathDetours.f
  refine ev_bind (ev_const (show brickyardlaw09_works.f = some true from rfl)) (ev_ite_pos rfl ?_)
  refine ev_bind (ev_const (show brickyardlaw09_long.f (s.size : Int) = some (decide ((s.size : Int) > 1048576)) from rfl)) ?_
  have hend : Ev (fun k => brickyardlaw09_PathDetours.j0 k s at_ how seg true) true := by
    refine ev_succ ?_
    simp only [brickyardlaw09_PathDetours.j0]
    exact ev_ite_pos trivial (ev_const rfl)
  by_cases h : (s.size : Int) > 1048576
  · exact ev_ite_pos (decide_eq_true h) hend
  · refine ev_ite_neg (by simpa using h) ?_
    by_cases h2 : (seg.size : Int) > 64
    · rw [decide_eq_true h2]
      exact hend
    · rw [decide_eq_false h2]
      refine ev_succ ?_
      simp only [brickyardlaw09_PathDetours.j0]
      refine ev_ite_neg (by simp) (ev_ite_pos (by decide) ?_)
      exact det_l0 s seg (by omega) (by omega) at_ how s.size 0 [0] (by omega) (by simp) (by simp) (fun z hz => by rw [List.mem_singleton.1 hz]; exact ⟨[], L s, rfl, rfl, .inl rfl⟩)

end Go.Proofs.Ytpphdmpnnnimdaa.Pure
