/- Globs that fit two texts fit both, one behind the other; two stars fit every text; a text without star and question mark fits itself alone: texts of at most 200 bytes each; longer ones are let go. No condition. -/
import Derived.Test.YtpphdmpnnnimdaaPlPathC
import Derived.Test.YtpphdmpnnnimdaaPlGlobR
import Derived.Test.YtpphdmpnnnimdaaPxf10
namespace Go.Proofs.Ytpphdmpnnnimdaa.Pl
open Go.RowKit Go.Proofs.YtpphdmpnnnimdaaW.PrintWords Go.Proofs.Ytpphdmpnnnimdaa.P
set_option linter.unusedSimpArgs false
theorem fits_more : ∀ d (t v : List UInt8), t.length ≤ d → fits t v → fits (42 :: t) v := by
  intro d
  induction d using Nat.strongRecOn with
  | _ d ih =>
  intro t v hd h
  by_cases h1 : t.head? = some 42
  · obtain ⟨t', rfl⟩ : ∃ t', t = 42 :: t' := by
      cases t with
      | nil => cases h1
      | cons c t' => exact ⟨t', by rw [Option.some.inj h1]⟩
    rw [fits_two]
    by_cases h2 : t'.head? = some 42
    · obtain ⟨t'', rfl⟩ : ∃ t'', t' = 42 :: t'' := by
        cases t' with
        | nil => cases h2
        | cons c t'' => exact ⟨t'', by rw [Option.some.inj h2]⟩
      obtain ⟨k, hk, hf⟩ := (fits_two t'' v).1 h
      simp only [List.length_cons] at hd
      exact ⟨k, hk, ih (d - 2) (by omega) t'' _ (by omega) hf⟩
    · obtain ⟨k, hk, _, hf⟩ := (fits_star h2 v).1 h
      exact ⟨k, hk, hf⟩
  · exact (fits_star h1 v).2 ⟨0, Nat.zero_le _, by simp, by simpa using h⟩
theorem fits_app : ∀ d (a b x y : List UInt8), a.length ≤ d → fits a x → fits b y → fits (a ++ b) (x ++ y) := by
  intro d
  induction d using Nat.strongRecOn with
  | _ d ih =>
  intro a b x y hd h1 h2
  cases a with
  | nil =>
    rw [(fits_nil x).1 h1]
    exact h2
  | cons c t =>
    by_cases hc : c = 42
    · subst hc
      by_cases ht : t.head? = some 42
      · obtain ⟨t', rfl⟩ : ∃ t', t = 42 :: t' := by
          cases t with
          | nil => cases ht
          | cons c t' => exact ⟨t', by rw [Option.some.inj ht]⟩
        obtain ⟨k, hk, hf⟩ := (fits_two t' x).1 h1
        simp only [List.length_cons] at hd
        refine (fits_two (t' ++ b) (x ++ y)).2 ⟨k, by simp; omega, ?_⟩
        rw [List.drop_append_of_le_length hk]
        exact ih (d - 2) (by omega) t' b _ y (by omega) hf h2
      · obtain ⟨k, hk, hn, hf⟩ := (fits_star ht x).1 h1
        cases t with
        | cons e t' =>
          simp only [List.length_cons] at hd
          refine (fits_star (t := (e :: t') ++ b) ht (x ++ y)).2 ⟨k, by simp; omega, ?_, ?_⟩
          · rw [List.take_append_of_le_length hk]; exact hn
          · rw [List.drop_append_of_le_length hk]
            exact ih (d - 1) (by omega) (e :: t') b _ y (by simp; omega) hf h2
        | nil =>
          have hk' : k = x.length := by
            have := (fits_nil _).1 hf
            rw [List.drop_eq_nil_iff] at this
            omega
          subst hk'
          rw [List.take_length] at hn
          show fits (42 :: b) (x ++ y)
          by_cases hb : b.head? = some 42
          · obtain ⟨b', rfl⟩ : ∃ b', b = 42 :: b' := by
              cases b with
              | nil => cases hb
              | cons c b' => exact ⟨b', by rw [Option.some.inj hb]⟩
            rw [fits_two]
            by_cases hb' : b'.head? = some 42
            · obtain ⟨b'', rfl⟩ : ∃ b'', b' = 42 :: b'' := by
                cases b' with
                | nil => cases hb'
                | cons c b'' => exact ⟨b'', by rw [Option.some.inj hb']⟩
              obtain ⟨m, hm, hg⟩ := (fits_two b'' y).1 h2
              refine ⟨x.length + m, by simp; omega, ?_⟩
              rw [← List.drop_drop, List.drop_left]
              exact fits_more _ _ _ (Nat.le_refl _) hg
            · obtain ⟨m, hm, _, hg⟩ := (fits_star hb' y).1 h2
              refine ⟨x.length + m, by simp; omega, ?_⟩
              rw [← List.drop_drop, List.drop_left]
              exact hg
          · refine (fits_star hb (x ++ y)).2 ⟨x.length, by simp, ?_, ?_⟩
            · rw [List.take_left]; exact hn
            · rw [List.drop_left]; exact h2
    · obtain ⟨z, r, rfl, ho, hf⟩ := (fits_byte hc t x).1 h1
      simp only [List.length_cons] at hd
      exact (fits_byte hc (t ++ b) (z :: r ++ y)).2 ⟨z, r ++ y, rfl, ho, ih (d - 1) (by omega) t b r y (by omega) hf h2⟩
theorem fits_all (x : List UInt8) : fits [42, 42] x := (fits_two [] x).2 ⟨x.length, Nat.le_refl _, by rw [fits_nil]; simp⟩
theorem fits_plain : ∀ (x y : List UInt8), (42 : UInt8) ∉ x → (63 : UInt8) ∉ x → (fits x y ↔ x = y) := by
  intro x
  induction x with
  | nil => intro y _ _; rw [fits_nil]; exact ⟨fun h => h.symm, fun h => h.symm⟩
  | cons c x ih =>
    intro y h1 h2
    have c1 : c ≠ 42 := fun e => h1 (by rw [e]; exact List.mem_cons_self)
    have c2 : c ≠ 63 := fun e => h2 (by rw [e]; exact List.mem_cons_self)
    have ih' := fun y => ih y (fun e => h1 (List.mem_cons_of_mem _ e)) (fun e => h2 (List.mem_cons_of_mem _ e))
    rw [fits_byte c1]
    constructor
    · rintro ⟨z, r, rfl, ho, hf⟩
      rcases ho with ⟨e, _⟩ | ⟨e, _⟩
      · rw [e, (ih' r).1 hf]
      · exact absurd e c2
    · rintro rfl
      exact ⟨c, x, rfl, .inl ⟨rfl, c2⟩, (ih' x).2 rfl⟩
section
variable (x3 x5 x6 : ByteArray) (h3 : x3.size ≤ 200) (h5 : x5.size ≤ 200) (h6 : x6.size ≤ 200)
include h3 h5 h6
theorem sides_l0 : ∀ d i : Nat, ∀ b : Bool, i + d = x5.size → (b = true → (42 : UInt8) ∉ (L x5).take i ∧ (63 : UInt8) ∉ (L x5).take i) →
    Ev (fun k => brickyardlaw09_PathSides.l0 k x3 x5 x6 b (i : Int)) true := by
  have s5 := size_L x5
  intro d
  induction d with
  | zero =>
    intro i b hi hb
    refine ev_succ ?_
    simp only [brickyardlaw09_PathSides.l0]
    refine ev_ite_neg (by omega) ?_
    rw [List.take_of_length_le (by omega)] at hb
    obtain ⟨r1, e1, i1⟩ := glob_ev (⟨#[42, 42]⟩ : ByteArray) x5 (by decide) (by omega)
    obtain ⟨r3, e3, i3⟩ := glob_ev x3 x5 (by omega) (by omega)
    have hr1 : r1 = true := i1.2 (fits_all (L x5))
    have he : x3 ++ (⟨#[]⟩ : ByteArray) = x3 := L_inj (by rw [L_append]; simp [L])
    have hend : Ev (fun k => (path_Glob.f k x3 x5).bind fun t293 => (if x3.size + 0 ≤ 9223372036854775807 then ((path_Glob.f k (x3 ++ (⟨#[]⟩ : ByteArray)) x5).bind fun t294 => (some (t293 == t294))) else (none))) true := by
      rw [he]
      exact ev_bind e3 (ev_ite_pos (by omega) (ev_bind e3 (ev_const (by simp))))
    subst hr1
    refine ev_bind e1 (ev_ite_pos rfl ?_)
    cases b with
    | false => exact ev_ite_neg (by simp) hend
    | true =>
      obtain ⟨n1, n2⟩ := hb rfl
      obtain ⟨r4, e4, i4⟩ := glob_ev x5 x5 (by omega) (by omega)
      obtain ⟨r5, e5, i5⟩ := glob_ev x5 x6 (by omega) (by omega)
      have hr4 : r4 = true := i4.2 ((fits_plain _ _ n1 n2).2 rfl)
      subst hr4
      have hr5 : (r5 == (x5.toList == x6.toList)) = true := by
        rw [beq_iff_eq, Bool.eq_iff_iff, i5, fits_plain _ _ n1 n2, beq_iff_eq, toList_L, toList_L]
      exact ev_ite_pos rfl (ev_bind e4 (ev_ite_pos rfl (ev_bind e5 (ev_ite_pos hr5 hend))))
  | succ d ih =>
    intro i b hi hb
    have hlt : i < (L x5).length := by omega
    refine ev_succ ?_
    simp only [brickyardlaw09_PathSides.l0]
    refine ev_ite_pos (by omega) ?_
    rw [wsucc (by omega)]
    have hf : Ev (fun k => brickyardlaw09_PathSides.l0 k x3 x5 x6 false ((i + 1 : Nat) : Int)) true := ih (i + 1) false (by omega) (fun h => by cases h)
    cases b with
    | false => exact ev_ite_neg (by simp) hf
    | true =>
      obtain ⟨n1, n2⟩ := hb rfl
      refine ev_ite_pos rfl (ev_ite_pos (by omega) ?_)
      by_cases c1 : (L x5)[i]? = some 42
      · exact ev_ite_pos (bt_some c1) hf
      · refine ev_ite_neg (fun e => c1 ((some_bt hlt 42).1 e)) (ih (i + 1) _ (by omega) (fun h => ?_))
        have c2 : (L x5)[i]? ≠ some 63 := fun e => by rw [bt_some e] at h; exact absurd h (by decide)
        rw [List.getElem?_eq_getElem hlt] at c1 c2
        rw [List.take_add_one, List.getElem?_eq_getElem hlt]
        refine ⟨fun e => ?_, fun e => ?_⟩
        · rcases List.mem_append.1 e with e | e
          · exact n1 e
          · exact c1 (congrArg some (List.mem_singleton.1 e).symm)
        · rcases List.mem_append.1 e with e | e
          · exact n2 e
          · exact c2 (congrArg some (List.mem_singleton.1 e).symm)
theorem sides_j1 : Ev (fun k => brickyardlaw09_PathSides.j1 k x3 x5 x6 false) true := by
  refine ev_succ ?_
  simp only [brickyardlaw09_PathSides.j1]
  exact ev_ite_neg (by simp) (sides_l0 x3 x5 x6 h3 h5 h6 x5.size 0 true (by omega) (fun _ => by simp))
end
theorem sides_j0 (a b x y : ByteArray) (ha : a.size ≤ 200) (hb : b.size ≤ 200) (hx : x.size ≤ 200) (hy : y.size ≤ 200) : Ev (fun k => brickyardlaw09_PathSides.j0 k a b x y false) true := by
  refine ev_succ ?_
  simp only [brickyardlaw09_PathSides.j0]
  refine ev_ite_neg (by simp) ?_
  have hj := sides_j1 a x y ha hx hy
  obtain ⟨r1, e1, i1⟩ := glob_ev a x (by omega) (by omega)
  obtain ⟨r2, e2, i2⟩ := glob_ev b y (by omega) (by omega)
  refine ev_bind e1 ?_
  cases r1 with
  | false => exact ev_ite_neg (by simp) hj
  | true =>
    refine ev_ite_pos rfl (ev_bind e2 ?_)
    cases r2 with
    | false => exact ev_ite_neg (by simp) hj
    | true =>
      have sab : (a ++ b).size = a.size + b.size := by rw [size_L, L_append, List.length_append, ← size_L, ← size_L]
      have sxy : (x ++ y).size = x.size + y.size := by rw [size_L, L_append, List.length_append, ← size_L, ← size_L]
      obtain ⟨r3, e3, i3⟩ := glob_ev (a ++ b) (x ++ y) (by omega) (by omega)
      have hr3 : r3 = true := i3.2 (by rw [L_append, L_append]; exact fits_app _ _ _ _ _ (Nat.le_refl _) (i1.1 rfl) (i2.1 rfl))
      subst hr3
      exact ev_ite_pos rfl (ev_ite_pos (by omega) (ev_ite_pos (by omega) (ev_bind e3 hj)))
end Go.Proofs.Ytpphdmpnnnimdaa.Pl
namespace Go.Proofs.Ytpphdmpnnnimdaa.Pure
open Go.RowKit Go.Proofs.Ytpphdmpnnnimdaa.P Go.Proofs.YtpphdmpnnnimdaaW.PrintWords Go.Proofs.YtpphdmpnnnimdaaW.PrintLast Go.Proofs.Ytpphdmpnnnimdaa.Pl

theorem PathSides : ∀ a b x y : ByteArray, ∃ k, brickyardlaw09_PathSides.f k a b x y = some true := by
  intro a b x y
  refine Ev.rounds (r := true) ?_
  unfold brickyardlaw09_PathSides.f
  refine ev_bind (ev_const (show brickyardlaw09_works.f = some true from rfl)) (ev_ite_pos rfl ?_)
  have hend : Ev (fun k => brickyardlaw09_PathSides.j0 k a b x y true) true := by
    refine ev_succ ?_
    simp only [brickyardlaw09_PathSides.j0]
    exact ev_ite_pos trivial (ev_const rfl)
  by_cases h1 : (a.size : Int) > 200
  · exact ev_ite_pos h1 hend
  refine ev_ite_neg h1 ?_
  by_cases h2 : (b.size : Int) > 200
  · exact ev_ite_pos h2 hend
  refine ev_ite_neg h2 ?_
  by_cases h3 : (x.size : Int) > 200
  · exact ev_ite_pos h3 hend
  refine ev_ite_neg h3 ?_
  by_cases h4 : (y.size : Int) > 200
  · rw [decide_eq_true h4]
    exact hend
  · rw [decide_eq_false h4]
    exact sides_j0 a b x y (by omega) (by omega) (by omega) (by omega)

end Go.Proofs.Ytpphdmpnnnimdaa.Pure
