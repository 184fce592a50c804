/- The functions that the laws of this seat come to, as plain Lean functions, each with the proof that the machine's call comes to it. -/
import Derived.Test.YtpphdmpnnnimdaaPx0
import Derived.Test.YtpphdmpnnnimdaaPxf13
import Derived.Test.YtpphdmpnnnimdaaPxf15
import Derived.Test.YtpphdmpnnnimdaaPxf17
import Derived.Test.YtpphdmpnnnimdaaPxf20
import Derived.Test.YtpphdmpnnnimdaaG4
namespace Go.Proofs.Ytpphdmpnnnimdaa.P
open Go.RowKit Go.Proofs.YtpphdmpnnnimdaaW.PrintWords Go.Proofs.YtpphdmpnnnimdaaW.PrintLast Go.Proofs.YtpphdmpnnnimdaaW.PrintMore
attribute [local go_sem] max2_int min2_int max_two min_two max_three min_three max_four min_four   -- for this text's walks alone
set_option linter.unusedVariables false
set_option linter.unusedSimpArgs false

/-! ### brickyardlaw09_PathJoins: function 7 -/
mutual
def brickyardlaw09_PathJoins.j0 : Nat → ByteArray → ByteArray → Bool → Option (Bool)
  | 0, _, _, _ => none
  | k + 1, x0, x1, x20 => if x20 = true then (some true) else (if x0.size + 1 ≤ 9223372036854775807 then (if (x0 ++ (⟨#[47]⟩ : ByteArray)).size + x1.size ≤ 9223372036854775807 then ((path_Norm.f k ((x0 ++ (⟨#[47]⟩ : ByteArray)) ++ x1)).bind fun bt228 => (if (wrap64 ((wrap64 ((x0.size : Int) + 1)) + (x1.size : Int))) > 60 then (if bt228.1.toList = ([] : List UInt8) then (if bt228.2 = 3 then (brickyardlaw09_PathJoins.j1 k x0) else (some false)) else (some false)) else (if bt228.1.toList = ((x0 ++ (⟨#[47]⟩ : ByteArray)) ++ x1).toList then (if bt228.2 = 0 then ((path_Is.f k bt228.1).bind fun t230 => (if t230 = true then ((path_Base.f k bt228.1).bind fun t231 => ((path_Base.f k x1).bind fun t232 => (if t231.toList = t232.toList then (brickyardlaw09_PathJoins.j1 k x0) else (some false)))) else (some false))) else (some false)) else (some false)))) else (none)) else (none))
def brickyardlaw09_PathJoins.j1 : Nat → ByteArray → Option (Bool)
  | 0, _ => none
  | k + 1, x0 => (path_Parent.f k x0).bind fun bt233 => (if x0.size + 3 ≤ 9223372036854775807 then ((path_Norm.f k (x0 ++ (⟨#[47, 46, 46]⟩ : ByteArray))).bind fun bt235 => (if bt233.2 = true then ((path_Is.f k bt233.1).bind fun t237 => (if t237 = true then (if bt233.1.size + 1 ≤ 9223372036854775807 then ((path_Base.f k x0).bind fun t238 => (if (bt233.1 ++ (⟨#[47]⟩ : ByteArray)).size + t238.size ≤ 9223372036854775807 then (if ((bt233.1 ++ (⟨#[47]⟩ : ByteArray)) ++ t238).toList = x0.toList then (if bt235.1.toList = bt233.1.toList then (some (bt235.2 == 0)) else (some false)) else (some false)) else (none))) else (none)) else (some false))) else (if bt233.1.toList = ([] : List UInt8) then ((path_Base.f k x0).bind fun t239 => (if t239.toList = x0.toList then (if bt235.1.toList = ([] : List UInt8) then (some (bt235.2 == 2)) else (some false)) else (some false))) else (some false)))) else (none))
end
def brickyardlaw09_PathJoins.f (k : Nat) (a0 : ByteArray) (a1 : ByteArray) : Option (Bool) := (brickyardlaw09_works.f).bind fun t225 => (if t225 = true then ((path_Is.f k a0).bind fun t226 => (if t226 = true then ((path_Is.f k a1).bind fun t227 => (brickyardlaw09_PathJoins.j0 k a0 a1 (!t227))) else (brickyardlaw09_PathJoins.j0 k a0 a1 true))) else (some false))
theorem brickyardlaw09_PathJoins.mono_l : ∀ k, (∀ y0 y1 y2, LeO (brickyardlaw09_PathJoins.j0 k y0 y1 y2) (brickyardlaw09_PathJoins.j0 (k + 1) y0 y1 y2)) ∧ (∀ y0, LeO (brickyardlaw09_PathJoins.j1 k y0) (brickyardlaw09_PathJoins.j1 (k + 1) y0))
  | 0 => ⟨fun _ _ _ r h => by simp [brickyardlaw09_PathJoins.j0] at h, fun _ r h => by simp [brickyardlaw09_PathJoins.j1] at h⟩
  | k + 1 => by
    obtain ⟨ih0, ih1⟩ := brickyardlaw09_PathJoins.mono_l k
    refine ⟨?_, ?_⟩
    · intro y0 y1 y2
      unfold brickyardlaw09_PathJoins.j0
      repeat' first
      | (with_reducible exact ih0 _ _ _)
      | (with_reducible exact ih1 _)
      | (with_reducible exact path_Base.mono _ _)
      | (with_reducible exact path_Is.mono _ _)
      | (with_reducible exact path_Norm.mono _ _)
      | (with_reducible exact path_Parent.mono _ _)
      | (with_reducible exact LeO.refl _)
      | (with_reducible exact LeO.none _)
      | (with_reducible refine LeO.ite ?_ ?_)
      | (with_reducible refine LeO.bind ?_ (fun _ => ?_))
      | exact ih0 _ _ _
      | exact ih1 _
      | exact path_Base.mono _ _
      | exact path_Is.mono _ _
      | exact path_Norm.mono _ _
      | exact path_Parent.mono _ _
      | exact LeO.none _
      | refine LeO.ite ?_ ?_
      | refine LeO.bind ?_ (fun _ => ?_)
    · intro y0
      unfold brickyardlaw09_PathJoins.j1
      repeat' first
      | (with_reducible exact ih0 _ _ _)
      | (with_reducible exact ih1 _)
      | (with_reducible exact path_Base.mono _ _)
      | (with_reducible exact path_Is.mono _ _)
      | (with_reducible exact path_Norm.mono _ _)
      | (with_reducible exact path_Parent.mono _ _)
      | (with_reducible exact LeO.refl _)
      | (with_reducible exact LeO.none _)
      | (with_reducible refine LeO.ite ?_ ?_)
      | (with_reducible refine LeO.bind ?_ (fun _ => ?_))
      | exact ih0 _ _ _
      | exact ih1 _
      | exact path_Base.mono _ _
      | exact path_Is.mono _ _
      | exact path_Norm.mono _ _
      | exact path_Parent.mono _ _
      | exact LeO.none _
      | refine LeO.ite ?_ ?_
      | refine LeO.bind ?_ (fun _ => ?_)
theorem brickyardlaw09_PathJoins.mono : ∀ a0 a1 k, LeO (brickyardlaw09_PathJoins.f k a0 a1) (brickyardlaw09_PathJoins.f (k + 1) a0 a1) := by
  intro a0 a1 k
  obtain ⟨ih0, ih1⟩ := brickyardlaw09_PathJoins.mono_l k
  unfold brickyardlaw09_PathJoins.f
  repeat' first
      | (with_reducible exact ih0 _ _ _)
      | (with_reducible exact ih1 _)
      | (with_reducible exact path_Base.mono _ _)
      | (with_reducible exact path_Is.mono _ _)
      | (with_reducible exact path_Norm.mono _ _)
      | (with_reducible exact path_Parent.mono _ _)
      | (with_reducible exact LeO.refl _)
      | (with_reducible exact LeO.none _)
      | (with_reducible refine LeO.ite ?_ ?_)
      | (with_reducible refine LeO.bind ?_ (fun _ => ?_))
      | exact ih0 _ _ _
      | exact ih1 _
      | exact path_Base.mono _ _
      | exact path_Is.mono _ _
      | exact path_Norm.mono _ _
      | exact path_Parent.mono _ _
      | exact LeO.none _
      | refine LeO.ite ?_ ?_
      | refine LeO.bind ?_ (fun _ => ?_)
set_option maxHeartbeats 8000000 in
set_option maxRecDepth 100000 in
theorem brickyardlaw09_PathJoins.calls (k : Nat) (a0 : ByteArray) (a1 : ByteArray) (r : Bool) (w : World) (h : brickyardlaw09_PathJoins.f k a0 a1 = some r) :
    Calls Try.prog 7 #[.string a0, .string a1] w fun e w' => e = .returned (.bool r) ∧ Below w.heap.size w w' := by
  have HB := Aside0.mk (Below.refl w.heap.size w)
  have H : ((brickyardlaw09_works.f).bind fun t225 => (if t225 = true then ((path_Is.f k a0).bind fun t226 => (if t226 = true then ((path_Is.f k a1).bind fun t227 => (brickyardlaw09_PathJoins.j0 k a0 a1 (!t227))) else (brickyardlaw09_PathJoins.j0 k a0 a1 true))) else (some false))) = some r := h
  clear h
  replace H := Option.bind_eq_some_iff.mp H
  obtain ⟨t225, A30, H⟩ := H
  replace H : (if t225 = true then ((path_Is.f k a0).bind fun t226 => (if t226 = true then ((path_Is.f k a1).bind fun t227 => (brickyardlaw09_PathJoins.j0 k a0 a1 (!t227))) else (brickyardlaw09_PathJoins.j0 k a0 a1 true))) else (some false)) = some r := H
  have A3 := Aside0.mk A30
  clear A30
  by_cases c4 : t225 = true
  · subst c4
    have H1 : ((path_Is.f k a0).bind fun t226 => (if t226 = true then ((path_Is.f k a1).bind fun t227 => (brickyardlaw09_PathJoins.j0 k a0 a1 (!t227))) else (brickyardlaw09_PathJoins.j0 k a0 a1 true))) = some r := by rw [if_pos rfl] at H; exact H
    clear H
    have H := H1
    clear H1
    have HC5 := Aside0.mk H
    clear H
    go_enter Try.func7, Try.ntmps7
    go_upto_region 3 with (first | ((with_reducible refine gate_callee (f := 11) rfl ?_); refine goesL_ (some 11) rfl rfl Try.func11 (by kernel_rfl) rfl #[] rfl (by (try simp only [List.map_toArray, List.map_cons, List.map_nil]); first | done | rfl | (simp only [List.length_drop, List.length_take]; rfl)) ?_; (with_reducible refine (brickyardlaw09_works.calls  true _ A3.out).mono ?_); rintro e w6 ⟨rfl, hb⟩; refine ⟨_, rfl, ?_⟩; have n0_ := Aside0.mk (below_step (by repeat (first | (with_reducible first | exact HB.out | apply below_alloc | apply pw_below_drewN | apply below_drew1) | exact HB.out)) hb); clear HB; have HB := n0_; clear n0_; (try clear hb); (try clear hb2); (try clear hk); (try clear hi)))
    (try simp only [Act.put, List.setIfInBounds_toArray, List.set_cons_zero, List.set_cons_succ])
    go_cut [20] (fun v20 wc => ∃ (kq : Nat) (x20_4 : Bool), v20 = .bool x20_4 ∧ Aside0 (brickyardlaw09_PathJoins.j0 kq a0 a1 x20_4 = some r) ∧ Aside0 (kq ≤ k) ∧ Aside0 (Below w.heap.size w wc))
    case first =>
      have H := HC5.out
      clear HC5
      replace H := Option.bind_eq_some_iff.mp H
      obtain ⟨t226, A70, H⟩ := H
      replace H : (if t226 = true then ((path_Is.f k a1).bind fun t227 => (brickyardlaw09_PathJoins.j0 k a0 a1 (!t227))) else (brickyardlaw09_PathJoins.j0 k a0 a1 true)) = some r := H
      have A7 := Aside0.mk A70
      clear A70
      by_cases c8 : t226 = true
      · subst c8
        have H1 : ((path_Is.f k a1).bind fun t227 => (brickyardlaw09_PathJoins.j0 k a0 a1 (!t227))) = some r := by rw [if_pos rfl] at H; exact H
        clear H
        have H := H1
        clear H1
        replace H := Option.bind_eq_some_iff.mp H
        obtain ⟨t227, A90, H⟩ := H
        replace H : (brickyardlaw09_PathJoins.j0 k a0 a1 (!t227)) = some r := H
        have A9 := Aside0.mk A90
        clear A90
        have H' := Aside0.mk H
        clear H
        go_wp2_with (first | ((with_reducible refine gate_callee (f := 15) rfl ?_); refine goesL_ (some 14) rfl rfl Try.func15 (by kernel_rfl) rfl #[.string a0] rfl (by (try simp only [List.map_toArray, List.map_cons, List.map_nil]); first | done | rfl | (simp only [List.length_drop, List.length_take]; rfl)) ?_; (with_reducible refine (path_Is.calls k a0 true _ A7.out).mono ?_); rintro e w' ⟨rfl, ⟨nd, rfl⟩⟩; refine ⟨_, rfl, ?_⟩) | (go_at_call 15; (with_reducible refine (path_Is.calls k a1 t227 _ A9.out).mono ?_); rintro e w' ⟨rfl, ⟨nd, rfl⟩⟩))
        go_meet
        case rel => exact ⟨_, (!t227), (by first | rfl | (simp; done) | (simp [*]; done)), H', ⟨by first | omega | exact Nat.le_refl _⟩, ⟨by repeat (first | (with_reducible first | exact HB.out | apply below_alloc | apply pw_below_drewN | apply below_drew1) | exact HB.out)⟩⟩
      · replace c8 := Bool.eq_false_iff.mpr c8
        subst c8
        have H1 : (brickyardlaw09_PathJoins.j0 k a0 a1 true) = some r := by rw [if_neg (show ¬ (false = true) by decide)] at H; exact H
        clear H
        have H := H1
        clear H1
        have H' := Aside0.mk H
        clear H
        go_wp2_with (first | ((with_reducible refine gate_callee (f := 15) rfl ?_); refine goesL_ (some 14) rfl rfl Try.func15 (by kernel_rfl) rfl #[.string a0] rfl (by (try simp only [List.map_toArray, List.map_cons, List.map_nil]); first | done | rfl | (simp only [List.length_drop, List.length_take]; rfl)) ?_; (with_reducible refine (path_Is.calls k a0 false _ A7.out).mono ?_); rintro e w' ⟨rfl, ⟨nd, rfl⟩⟩; refine ⟨_, rfl, ?_⟩))
        go_meet
        case rel => exact ⟨_, (true), (by first | rfl | (simp; done) | (simp [*]; done)), H', ⟨by first | omega | exact Nat.le_refl _⟩, ⟨by repeat (first | (with_reducible first | exact HB.out | apply below_alloc | apply pw_below_drewN | apply below_drew1) | exact HB.out)⟩⟩
    case rest =>
      clear HC5
      try clear c1
      try clear p2
      try clear c4
      try clear c7
      try clear c8
      obtain ⟨kq, x20_4, rfl, HA, HJ4, HB⟩ := hcut
      cases kq with
      | zero => exact absurd HA.out (by simp [brickyardlaw09_PathJoins.j0])
      | succ kj4 =>
        have H := HA.out
        clear HA
        simp only [brickyardlaw09_PathJoins.j0] at H
        by_cases c10 : x20_4 = true
        · subst c10
          have H1 : (some true) = some r := by rw [if_pos rfl] at H; exact H
          clear H
          have H := H1
          clear H1
          obtain rfl := Option.some.inj H
          go_wp2
          go_ret
          exact ⟨by first | rfl | (simp [errW_none, errW_some] <;> rfl) | (simp [*, errW_none, errW_some] <;> rfl), by repeat (first | (with_reducible first | exact HB.out | apply below_alloc | apply pw_below_drewN | apply below_drew1) | exact HB.out)⟩
        · replace c10 := Bool.eq_false_iff.mpr c10
          subst c10
          have H1 : (if a0.size + 1 ≤ 9223372036854775807 then (if (a0 ++ (⟨#[47]⟩ : ByteArray)).size + a1.size ≤ 9223372036854775807 then ((path_Norm.f kj4 ((a0 ++ (⟨#[47]⟩ : ByteArray)) ++ a1)).bind fun bt228 => (if (wrap64 ((wrap64 ((a0.size : Int) + 1)) + (a1.size : Int))) > 60 then (if bt228.1.toList = ([] : List UInt8) then (if bt228.2 = 3 then (brickyardlaw09_PathJoins.j1 kj4 a0) else (some false)) else (some false)) else (if bt228.1.toList = ((a0 ++ (⟨#[47]⟩ : ByteArray)) ++ a1).toList then (if bt228.2 = 0 then ((path_Is.f kj4 bt228.1).bind fun t230 => (if t230 = true then ((path_Base.f kj4 bt228.1).bind fun t231 => ((path_Base.f kj4 a1).bind fun t232 => (if t231.toList = t232.toList then (brickyardlaw09_PathJoins.j1 kj4 a0) else (some false)))) else (some false))) else (some false)) else (some false)))) else (none)) else (none)) = some r := by rw [if_neg (show ¬ (false = true) by decide)] at H; exact H
          clear H
          have H := H1
          clear H1
          by_cases c11 : a0.size + 1 ≤ 9223372036854775807
          · rw [if_pos c11] at H
            have c11b0 := eq_true c11
            have c11b1 : decide (a0.size + 1 ≤ 9223372036854775807) = true := decide_eq_true c11
            try have c11b2 : (9223372036854775807 < a0.size + 1) = False := eq_false (Nat.not_lt.2 c11)
            by_cases c12 : (a0 ++ (⟨#[47]⟩ : ByteArray)).size + a1.size ≤ 9223372036854775807
            · rw [if_pos c12] at H
              have c12b0 := eq_true c12
              have c12b1 : decide ((a0 ++ (⟨#[47]⟩ : ByteArray)).size + a1.size ≤ 9223372036854775807) = true := decide_eq_true c12
              try have c12b2 : (9223372036854775807 < (a0 ++ (⟨#[47]⟩ : ByteArray)).size + a1.size) = False := eq_false (Nat.not_lt.2 c12)
              replace H := Option.bind_eq_some_iff.mp H
              obtain ⟨⟨t228, t229⟩, A130, H⟩ := H
              replace H : (if (wrap64 ((wrap64 ((a0.size : Int) + 1)) + (a1.size : Int))) > 60 then (if t228.toList = ([] : List UInt8) then (if t229 = 3 then (brickyardlaw09_PathJoins.j1 kj4 a0) else (some false)) else (some false)) else (if t228.toList = ((a0 ++ (⟨#[47]⟩ : ByteArray)) ++ a1).toList then (if t229 = 0 then ((path_Is.f kj4 t228).bind fun t230 => (if t230 = true then ((path_Base.f kj4 t228).bind fun t231 => ((path_Base.f kj4 a1).bind fun t232 => (if t231.toList = t232.toList then (brickyardlaw09_PathJoins.j1 kj4 a0) else (some false)))) else (some false))) else (some false)) else (some false))) = some r := H
              have A13 := Aside0.mk A130
              clear A130
              have HC14 := Aside0.mk H
              clear H
              go_upto_if 35 with (first | ((with_reducible refine gate_callee (f := 13) rfl ?_); refine goesL_ (some 26) rfl rfl Try.func13 (by kernel_rfl) rfl #[.string ((a0 ++ (⟨#[47]⟩ : ByteArray)) ++ a1)] rfl (by (try simp only [List.map_toArray, List.map_cons, List.map_nil]); first | done | rfl | (simp only [List.length_drop, List.length_take]; rfl)) ?_; (with_reducible refine (path_Norm.calls kj4 ((a0 ++ (⟨#[47]⟩ : ByteArray)) ++ a1) t228 t229 _ A13.out).mono ?_); rintro e w15 ⟨rfl, hb⟩; refine ⟨_, rfl, ?_⟩; have n0_ := Aside0.mk (below_step (by repeat (first | (with_reducible first | exact HB.out | apply below_alloc | apply pw_below_drewN | apply below_drew1) | exact HB.out)) hb); clear HB; have HB := n0_; clear n0_; (try clear hb); (try clear hb2); (try clear hk); (try clear hi)))
              (try simp only [Act.put, List.setIfInBounds_toArray, List.set_cons_zero, List.set_cons_succ])
              go_cut [] (fun wc => ∃ (kq : Nat), Aside0 (brickyardlaw09_PathJoins.j1 kq a0 = some r) ∧ Aside0 (kq ≤ kj4) ∧ Aside0 (Below w.heap.size w wc))
              case first =>
                have H := HC14.out
                clear HC14
                by_cases c16 : (wrap64 ((wrap64 ((a0.size : Int) + 1)) + (a1.size : Int))) > 60
                · rw [if_pos c16] at H
                  have c16b0 : decide (60 < (wrap64 ((wrap64 ((a0.size : Int) + 1)) + (a1.size : Int)))) = true := decide_eq_true c16
                  try (have c16b0w := c16b0; simp (disch := omega) only [w64_] at c16b0w)
                  clear c16
                  (first | rw [c16b0] | rw [c16b0w] | (simp only [i64_w, i32_w]; rw [c16b0]) | skip)
                  by_cases c17 : t228.toList = ([] : List UInt8)
                  · rw [if_pos c17] at H
                    have c17b0 : t228.toList.isEmpty = true := by simpa using c17
                    have c17b1 : (t228.toList == ([] : List UInt8)) = true := beq_iff_eq.mpr c17
                    have c17b2 : (t228.toList != ([] : List UInt8)) = false := bne_eq_false_iff_eq.mpr c17
                    clear c17
                    by_cases c18 : t229 = 3
                    · rw [if_pos c18] at H
                      have c18b0 : (t229 == 3) = true := beq_iff_eq.mpr c18
                      have c18b1 : (t229 != 3) = false := bne_eq_false_iff_eq.mpr c18
                      clear c18
                      have H' := Aside0.mk H
                      clear H
                      go_wp2
                      go_meet
                      case rel => exact ⟨_, H', ⟨by have := HJ4.out; first | omega | exact Nat.le_refl _⟩, ⟨by repeat (first | (with_reducible first | exact HB.out | apply below_alloc | apply pw_below_drewN | apply below_drew1) | exact HB.out)⟩⟩
                    · rw [if_neg c18] at H
                      have c18b0 : (t229 == 3) = false := beq_eq_false_iff_ne.mpr c18
                      have c18b1 : (t229 != 3) = true := bne_iff_ne.mpr c18
                      obtain rfl := Option.some.inj H
                      go_wp2
                      go_ret
                      exact ⟨by first | rfl | (simp [errW_none, errW_some] <;> rfl) | (simp [*, errW_none, errW_some] <;> rfl), by repeat (first | (with_reducible first | exact HB.out | apply below_alloc | apply pw_below_drewN | apply below_drew1) | exact HB.out)⟩
                  · rw [if_neg c17] at H
                    have c17b0 : t228.toList.isEmpty = false := by simpa using c17
                    have c17b1 : (t228.toList == ([] : List UInt8)) = false := beq_eq_false_iff_ne.mpr c17
                    have c17b2 : (t228.toList != ([] : List UInt8)) = true := bne_iff_ne.mpr c17
                    obtain rfl := Option.some.inj H
                    go_wp2
                    go_ret
                    exact ⟨by first | rfl | (simp [errW_none, errW_some] <;> rfl) | (simp [*, errW_none, errW_some] <;> rfl), by repeat (first | (with_reducible first | exact HB.out | apply below_alloc | apply pw_below_drewN | apply below_drew1) | exact HB.out)⟩
                · rw [if_neg c16] at H
                  have c16b0 : decide (60 < (wrap64 ((wrap64 ((a0.size : Int) + 1)) + (a1.size : Int)))) = false := decide_eq_false c16
                  try (have c16b0w := c16b0; simp (disch := omega) only [w64_] at c16b0w)
                  clear c16
                  (first | rw [c16b0] | rw [c16b0w] | (simp only [i64_w, i32_w]; rw [c16b0]) | skip)
                  by_cases c19 : t228.toList = ((a0 ++ (⟨#[47]⟩ : ByteArray)) ++ a1).toList
                  · rw [if_pos c19] at H
                    have c19b0 : (t228.toList == ((a0 ++ (⟨#[47]⟩ : ByteArray)) ++ a1).toList) = true := beq_iff_eq.mpr c19
                    have c19b1 : (t228.toList != ((a0 ++ (⟨#[47]⟩ : ByteArray)) ++ a1).toList) = false := bne_eq_false_iff_eq.mpr c19
                    clear c19
                    by_cases c20 : t229 = 0
                    · rw [if_pos c20] at H
                      have c20b0 : (t229 == 0) = true := beq_iff_eq.mpr c20
                      have c20b1 : (t229 != 0) = false := bne_eq_false_iff_eq.mpr c20
                      clear c20
                      replace H := Option.bind_eq_some_iff.mp H
                      obtain ⟨t230, A210, H⟩ := H
                      replace H : (if t230 = true then ((path_Base.f kj4 t228).bind fun t231 => ((path_Base.f kj4 a1).bind fun t232 => (if t231.toList = t232.toList then (brickyardlaw09_PathJoins.j1 kj4 a0) else (some false)))) else (some false)) = some r := H
                      have A21 := Aside0.mk A210
                      clear A210
                      by_cases c22 : t230 = true
                      · subst c22
                        have H1 : ((path_Base.f kj4 t228).bind fun t231 => ((path_Base.f kj4 a1).bind fun t232 => (if t231.toList = t232.toList then (brickyardlaw09_PathJoins.j1 kj4 a0) else (some false)))) = some r := by rw [if_pos rfl] at H; exact H
                        clear H
                        have H := H1
                        clear H1
                        replace H := Option.bind_eq_some_iff.mp H
                        obtain ⟨t231, A230, H⟩ := H
                        replace H : ((path_Base.f kj4 a1).bind fun t232 => (if t231.toList = t232.toList then (brickyardlaw09_PathJoins.j1 kj4 a0) else (some false))) = some r := H
                        have A23 := Aside0.mk A230
                        clear A230
                        replace H := Option.bind_eq_some_iff.mp H
                        obtain ⟨t232, A240, H⟩ := H
                        replace H : (if t231.toList = t232.toList then (brickyardlaw09_PathJoins.j1 kj4 a0) else (some false)) = some r := H
                        have A24 := Aside0.mk A240
                        clear A240
                        by_cases c25 : t231.toList = t232.toList
                        · rw [if_pos c25] at H
                          have c25b0 : (t231.toList == t232.toList) = true := beq_iff_eq.mpr c25
                          have c25b1 : (t231.toList != t232.toList) = false := bne_eq_false_iff_eq.mpr c25
                          clear c25
                          have H' := Aside0.mk H
                          clear H
                          go_wp2_with (first | (go_at_call 15; (with_reducible refine (path_Is.calls kj4 t228 true _ A21.out).mono ?_); rintro e w' ⟨rfl, ⟨nd, rfl⟩⟩) | (go_at_call 20; (with_reducible refine (path_Base.calls kj4 t228 t231 _ A23.out).mono ?_); rintro e w' ⟨rfl, ⟨nd, rfl⟩⟩) | (go_at_call 20; (with_reducible refine (path_Base.calls kj4 a1 t232 _ A24.out).mono ?_); rintro e w' ⟨rfl, ⟨nd, rfl⟩⟩))
                          go_meet
                          case rel => exact ⟨_, H', ⟨by have := HJ4.out; first | omega | exact Nat.le_refl _⟩, ⟨by repeat (first | (with_reducible first | exact HB.out | apply below_alloc | apply pw_below_drewN | apply below_drew1) | exact HB.out)⟩⟩
                        · rw [if_neg c25] at H
                          have c25b0 : (t231.toList == t232.toList) = false := beq_eq_false_iff_ne.mpr c25
                          have c25b1 : (t231.toList != t232.toList) = true := bne_iff_ne.mpr c25
                          obtain rfl := Option.some.inj H
                          go_wp2_with (first | (go_at_call 15; (with_reducible refine (path_Is.calls kj4 t228 true _ A21.out).mono ?_); rintro e w' ⟨rfl, ⟨nd, rfl⟩⟩) | (go_at_call 20; (with_reducible refine (path_Base.calls kj4 t228 t231 _ A23.out).mono ?_); rintro e w' ⟨rfl, ⟨nd, rfl⟩⟩) | (go_at_call 20; (with_reducible refine (path_Base.calls kj4 a1 t232 _ A24.out).mono ?_); rintro e w' ⟨rfl, ⟨nd, rfl⟩⟩))
                          go_ret
                          exact ⟨by first | rfl | (simp [errW_none, errW_some] <;> rfl) | (simp [*, errW_none, errW_some] <;> rfl), by repeat (first | (with_reducible first | exact HB.out | apply below_alloc | apply pw_below_drewN | apply below_drew1) | exact HB.out)⟩
                      · replace c22 := Bool.eq_false_iff.mpr c22
                        subst c22
                        have H1 : (some false) = some r := by rw [if_neg (show ¬ (false = true) by decide)] at H; exact H
                        clear H
                        have H := H1
                        clear H1
                        obtain rfl := Option.some.inj H
                        go_wp2_with (first | (go_at_call 15; (with_reducible refine (path_Is.calls kj4 t228 false _ A21.out).mono ?_); rintro e w' ⟨rfl, ⟨nd, rfl⟩⟩))
                        go_ret
                        exact ⟨by first | rfl | (simp [errW_none, errW_some] <;> rfl) | (simp [*, errW_none, errW_some] <;> rfl), by repeat (first | (with_reducible first | exact HB.out | apply below_alloc | apply pw_below_drewN | apply below_drew1) | exact HB.out)⟩
                    · rw [if_neg c20] at H
                      have c20b0 : (t229 == 0) = false := beq_eq_false_iff_ne.mpr c20
                      have c20b1 : (t229 != 0) = true := bne_iff_ne.mpr c20
                      obtain rfl := Option.some.inj H
                      go_wp2
                      go_ret
                      exact ⟨by first | rfl | (simp [errW_none, errW_some] <;> rfl) | (simp [*, errW_none, errW_some] <;> rfl), by repeat (first | (with_reducible first | exact HB.out | apply below_alloc | apply pw_below_drewN | apply below_drew1) | exact HB.out)⟩
                  · rw [if_neg c19] at H
                    have c19b0 : (t228.toList == ((a0 ++ (⟨#[47]⟩ : ByteArray)) ++ a1).toList) = false := beq_eq_false_iff_ne.mpr c19
                    have c19b1 : (t228.toList != ((a0 ++ (⟨#[47]⟩ : ByteArray)) ++ a1).toList) = true := bne_iff_ne.mpr c19
                    obtain rfl := Option.some.inj H
                    go_wp2
                    go_ret
                    exact ⟨by first | rfl | (simp [errW_none, errW_some] <;> rfl) | (simp [*, errW_none, errW_some] <;> rfl), by repeat (first | (with_reducible first | exact HB.out | apply below_alloc | apply pw_below_drewN | apply below_drew1) | exact HB.out)⟩
              case rest =>
                clear HC14
                try clear c1
                try clear c2
                try clear p2
                try clear c4
                try clear p6
                try clear c7
                try clear c8
                try clear c10
                try clear c11
                try clear c11b0
                try clear c11b1
                try clear c11b2
                try clear c12
                try clear c12b0
                try clear c12b1
                try clear c12b2
                try clear c13
                try clear c15
                try clear c16
                try clear c16b0
                try clear c17
                try clear c17b0
                try clear c17b1
                try clear c17b2
                try clear c18
                try clear c18b0
                try clear c18b1
                try clear c19
                try clear c19b0
                try clear c19b1
                try clear c20
                try clear c20b0
                try clear c20b1
                try clear c22
                try clear c25
                try clear c25b0
                try clear c25b1
                try clear p2
                obtain ⟨kq, HA, HJ13, HB⟩ := hcut
                cases kq with
                | zero => exact absurd HA.out (by simp [brickyardlaw09_PathJoins.j1])
                | succ kj13 =>
                  have H := HA.out
                  clear HA
                  simp only [brickyardlaw09_PathJoins.j1] at H
                  replace H := Option.bind_eq_some_iff.mp H
                  obtain ⟨⟨t233, t234⟩, A260, H⟩ := H
                  replace H : (if a0.size + 3 ≤ 9223372036854775807 then ((path_Norm.f kj13 (a0 ++ (⟨#[47, 46, 46]⟩ : ByteArray))).bind fun bt235 => (if t234 = true then ((path_Is.f kj13 t233).bind fun t237 => (if t237 = true then (if t233.size + 1 ≤ 9223372036854775807 then ((path_Base.f kj13 a0).bind fun t238 => (if (t233 ++ (⟨#[47]⟩ : ByteArray)).size + t238.size ≤ 9223372036854775807 then (if ((t233 ++ (⟨#[47]⟩ : ByteArray)) ++ t238).toList = a0.toList then (if bt235.1.toList = t233.toList then (some (bt235.2 == 0)) else (some false)) else (some false)) else (none))) else (none)) else (some false))) else (if t233.toList = ([] : List UInt8) then ((path_Base.f kj13 a0).bind fun t239 => (if t239.toList = a0.toList then (if bt235.1.toList = ([] : List UInt8) then (some (bt235.2 == 2)) else (some false)) else (some false))) else (some false)))) else (none)) = some r := H
                  have A26 := Aside0.mk A260
                  clear A260
                  by_cases c27 : a0.size + 3 ≤ 9223372036854775807
                  · rw [if_pos c27] at H
                    have c27b0 := eq_true c27
                    have c27b1 : decide (a0.size + 3 ≤ 9223372036854775807) = true := decide_eq_true c27
                    try have c27b2 : (9223372036854775807 < a0.size + 3) = False := eq_false (Nat.not_lt.2 c27)
                    replace H := Option.bind_eq_some_iff.mp H
                    obtain ⟨⟨t235, t236⟩, A280, H⟩ := H
                    replace H : (if t234 = true then ((path_Is.f kj13 t233).bind fun t237 => (if t237 = true then (if t233.size + 1 ≤ 9223372036854775807 then ((path_Base.f kj13 a0).bind fun t238 => (if (t233 ++ (⟨#[47]⟩ : ByteArray)).size + t238.size ≤ 9223372036854775807 then (if ((t233 ++ (⟨#[47]⟩ : ByteArray)) ++ t238).toList = a0.toList then (if t235.toList = t233.toList then (some (t236 == 0)) else (some false)) else (some false)) else (none))) else (none)) else (some false))) else (if t233.toList = ([] : List UInt8) then ((path_Base.f kj13 a0).bind fun t239 => (if t239.toList = a0.toList then (if t235.toList = ([] : List UInt8) then (some (t236 == 2)) else (some false)) else (some false))) else (some false))) = some r := H
                    have A28 := Aside0.mk A280
                    clear A280
                    by_cases c29 : t234 = true
                    · subst c29
                      have H1 : ((path_Is.f kj13 t233).bind fun t237 => (if t237 = true then (if t233.size + 1 ≤ 9223372036854775807 then ((path_Base.f kj13 a0).bind fun t238 => (if (t233 ++ (⟨#[47]⟩ : ByteArray)).size + t238.size ≤ 9223372036854775807 then (if ((t233 ++ (⟨#[47]⟩ : ByteArray)) ++ t238).toList = a0.toList then (if t235.toList = t233.toList then (some (t236 == 0)) else (some false)) else (some false)) else (none))) else (none)) else (some false))) = some r := by rw [if_pos rfl] at H; exact H
                      clear H
                      have H := H1
                      clear H1
                      replace H := Option.bind_eq_some_iff.mp H
                      obtain ⟨t237, A300, H⟩ := H
                      replace H : (if t237 = true then (if t233.size + 1 ≤ 9223372036854775807 then ((path_Base.f kj13 a0).bind fun t238 => (if (t233 ++ (⟨#[47]⟩ : ByteArray)).size + t238.size ≤ 9223372036854775807 then (if ((t233 ++ (⟨#[47]⟩ : ByteArray)) ++ t238).toList = a0.toList then (if t235.toList = t233.toList then (some (t236 == 0)) else (some false)) else (some false)) else (none))) else (none)) else (some false)) = some r := H
                      have A30 := Aside0.mk A300
                      clear A300
                      by_cases c31 : t237 = true
                      · subst c31
                        have H1 : (if t233.size + 1 ≤ 9223372036854775807 then ((path_Base.f kj13 a0).bind fun t238 => (if (t233 ++ (⟨#[47]⟩ : ByteArray)).size + t238.size ≤ 9223372036854775807 then (if ((t233 ++ (⟨#[47]⟩ : ByteArray)) ++ t238).toList = a0.toList then (if t235.toList = t233.toList then (some (t236 == 0)) else (some false)) else (some false)) else (none))) else (none)) = some r := by rw [if_pos rfl] at H; exact H
                        clear H
                        have H := H1
                        clear H1
                        by_cases c32 : t233.size + 1 ≤ 9223372036854775807
                        · rw [if_pos c32] at H
                          have c32b0 := eq_true c32
                          have c32b1 : decide (t233.size + 1 ≤ 9223372036854775807) = true := decide_eq_true c32
                          try have c32b2 : (9223372036854775807 < t233.size + 1) = False := eq_false (Nat.not_lt.2 c32)
                          replace H := Option.bind_eq_some_iff.mp H
                          obtain ⟨t238, A330, H⟩ := H
                          replace H : (if (t233 ++ (⟨#[47]⟩ : ByteArray)).size + t238.size ≤ 9223372036854775807 then (if ((t233 ++ (⟨#[47]⟩ : ByteArray)) ++ t238).toList = a0.toList then (if t235.toList = t233.toList then (some (t236 == 0)) else (some false)) else (some false)) else (none)) = some r := H
                          have A33 := Aside0.mk A330
                          clear A330
                          by_cases c34 : (t233 ++ (⟨#[47]⟩ : ByteArray)).size + t238.size ≤ 9223372036854775807
                          · rw [if_pos c34] at H
                            have c34b0 := eq_true c34
                            have c34b1 : decide ((t233 ++ (⟨#[47]⟩ : ByteArray)).size + t238.size ≤ 9223372036854775807) = true := decide_eq_true c34
                            try have c34b2 : (9223372036854775807 < (t233 ++ (⟨#[47]⟩ : ByteArray)).size + t238.size) = False := eq_false (Nat.not_lt.2 c34)
                            by_cases c35 : ((t233 ++ (⟨#[47]⟩ : ByteArray)) ++ t238).toList = a0.toList
                            · rw [if_pos c35] at H
                              have c35b0 : (((t233 ++ (⟨#[47]⟩ : ByteArray)) ++ t238).toList == a0.toList) = true := beq_iff_eq.mpr c35
                              have c35b1 : (((t233 ++ (⟨#[47]⟩ : ByteArray)) ++ t238).toList != a0.toList) = false := bne_eq_false_iff_eq.mpr c35
                              clear c35
                              by_cases c36 : t235.toList = t233.toList
                              · rw [if_pos c36] at H
                                have c36b0 : (t235.toList == t233.toList) = true := beq_iff_eq.mpr c36
                                have c36b1 : (t235.toList != t233.toList) = false := bne_eq_false_iff_eq.mpr c36
                                clear c36
                                obtain rfl := Option.some.inj H
                                go_wp2_with (first | ((with_reducible refine gate_callee (f := 17) rfl ?_); refine goesL_ (some 66) rfl rfl Try.func17 (by kernel_rfl) rfl #[.string a0] rfl (by (try simp only [List.map_toArray, List.map_cons, List.map_nil]); first | done | rfl | (simp only [List.length_drop, List.length_take]; rfl)) ?_; (with_reducible refine (path_Parent.calls kj13 a0 t233 true _ A26.out).mono ?_); rintro e w' ⟨rfl, ⟨nd, rfl⟩⟩; refine ⟨_, rfl, ?_⟩) | ((with_reducible refine gate_callee (f := 13) rfl ?_); refine goesL_ (some 72) rfl rfl Try.func13 (by kernel_rfl) rfl #[.string (a0 ++ (⟨#[47, 46, 46]⟩ : ByteArray))] rfl (by (try simp only [List.map_toArray, List.map_cons, List.map_nil]); first | done | rfl | (simp only [List.length_drop, List.length_take]; rfl)) ?_; (with_reducible refine (path_Norm.calls kj13 (a0 ++ (⟨#[47, 46, 46]⟩ : ByteArray)) t235 t236 _ A28.out).mono ?_); rintro e w37 ⟨rfl, hb⟩; refine ⟨_, rfl, ?_⟩; have n0_ := Aside0.mk (below_step (by repeat (first | (with_reducible first | exact HB.out | apply below_alloc | apply pw_below_drewN | apply below_drew1) | exact HB.out)) hb); clear HB; have HB := n0_; clear n0_; (try clear hb); (try clear hb2); (try clear hk); (try clear hi)) | ((with_reducible refine gate_callee (f := 15) rfl ?_); refine goesL_ (some 94) rfl rfl Try.func15 (by kernel_rfl) rfl #[.string t233] rfl (by (try simp only [List.map_toArray, List.map_cons, List.map_nil]); first | done | rfl | (simp only [List.length_drop, List.length_take]; rfl)) ?_; (with_reducible refine (path_Is.calls kj13 t233 true _ A30.out).mono ?_); rintro e w' ⟨rfl, ⟨nd, rfl⟩⟩; refine ⟨_, rfl, ?_⟩) | (go_at_call 20; (with_reducible refine (path_Base.calls kj13 a0 t238 _ A33.out).mono ?_); rintro e w' ⟨rfl, ⟨nd, rfl⟩⟩))
                                go_ret
                                exact ⟨by first | rfl | (simp [errW_none, errW_some] <;> rfl) | (simp [*, errW_none, errW_some] <;> rfl), by repeat (first | (with_reducible first | exact HB.out | apply below_alloc | apply pw_below_drewN | apply below_drew1) | exact HB.out)⟩
                              · rw [if_neg c36] at H
                                have c36b0 : (t235.toList == t233.toList) = false := beq_eq_false_iff_ne.mpr c36
                                have c36b1 : (t235.toList != t233.toList) = true := bne_iff_ne.mpr c36
                                obtain rfl := Option.some.inj H
                                go_wp2_with (first | ((with_reducible refine gate_callee (f := 17) rfl ?_); refine goesL_ (some 66) rfl rfl Try.func17 (by kernel_rfl) rfl #[.string a0] rfl (by (try simp only [List.map_toArray, List.map_cons, List.map_nil]); first | done | rfl | (simp only [List.length_drop, List.length_take]; rfl)) ?_; (with_reducible refine (path_Parent.calls kj13 a0 t233 true _ A26.out).mono ?_); rintro e w' ⟨rfl, ⟨nd, rfl⟩⟩; refine ⟨_, rfl, ?_⟩) | ((with_reducible refine gate_callee (f := 13) rfl ?_); refine goesL_ (some 72) rfl rfl Try.func13 (by kernel_rfl) rfl #[.string (a0 ++ (⟨#[47, 46, 46]⟩ : ByteArray))] rfl (by (try simp only [List.map_toArray, List.map_cons, List.map_nil]); first | done | rfl | (simp only [List.length_drop, List.length_take]; rfl)) ?_; (with_reducible refine (path_Norm.calls kj13 (a0 ++ (⟨#[47, 46, 46]⟩ : ByteArray)) t235 t236 _ A28.out).mono ?_); rintro e w38 ⟨rfl, hb⟩; refine ⟨_, rfl, ?_⟩; have n0_ := Aside0.mk (below_step (by repeat (first | (with_reducible first | exact HB.out | apply below_alloc | apply pw_below_drewN | apply below_drew1) | exact HB.out)) hb); clear HB; have HB := n0_; clear n0_; (try clear hb); (try clear hb2); (try clear hk); (try clear hi)) | ((with_reducible refine gate_callee (f := 15) rfl ?_); refine goesL_ (some 94) rfl rfl Try.func15 (by kernel_rfl) rfl #[.string t233] rfl (by (try simp only [List.map_toArray, List.map_cons, List.map_nil]); first | done | rfl | (simp only [List.length_drop, List.length_take]; rfl)) ?_; (with_reducible refine (path_Is.calls kj13 t233 true _ A30.out).mono ?_); rintro e w' ⟨rfl, ⟨nd, rfl⟩⟩; refine ⟨_, rfl, ?_⟩) | (go_at_call 20; (with_reducible refine (path_Base.calls kj13 a0 t238 _ A33.out).mono ?_); rintro e w' ⟨rfl, ⟨nd, rfl⟩⟩))
                                go_ret
                                exact ⟨by first | rfl | (simp [errW_none, errW_some] <;> rfl) | (simp [*, errW_none, errW_some] <;> rfl), by repeat (first | (with_reducible first | exact HB.out | apply below_alloc | apply pw_below_drewN | apply below_drew1) | exact HB.out)⟩
                            · rw [if_neg c35] at H
                              have c35b0 : (((t233 ++ (⟨#[47]⟩ : ByteArray)) ++ t238).toList == a0.toList) = false := beq_eq_false_iff_ne.mpr c35
                              have c35b1 : (((t233 ++ (⟨#[47]⟩ : ByteArray)) ++ t238).toList != a0.toList) = true := bne_iff_ne.mpr c35
                              obtain rfl := Option.some.inj H
                              go_wp2_with (first | ((with_reducible refine gate_callee (f := 17) rfl ?_); refine goesL_ (some 66) rfl rfl Try.func17 (by kernel_rfl) rfl #[.string a0] rfl (by (try simp only [List.map_toArray, List.map_cons, List.map_nil]); first | done | rfl | (simp only [List.length_drop, List.length_take]; rfl)) ?_; (with_reducible refine (path_Parent.calls kj13 a0 t233 true _ A26.out).mono ?_); rintro e w' ⟨rfl, ⟨nd, rfl⟩⟩; refine ⟨_, rfl, ?_⟩) | ((with_reducible refine gate_callee (f := 13) rfl ?_); refine goesL_ (some 72) rfl rfl Try.func13 (by kernel_rfl) rfl #[.string (a0 ++ (⟨#[47, 46, 46]⟩ : ByteArray))] rfl (by (try simp only [List.map_toArray, List.map_cons, List.map_nil]); first | done | rfl | (simp only [List.length_drop, List.length_take]; rfl)) ?_; (with_reducible refine (path_Norm.calls kj13 (a0 ++ (⟨#[47, 46, 46]⟩ : ByteArray)) t235 t236 _ A28.out).mono ?_); rintro e w39 ⟨rfl, hb⟩; refine ⟨_, rfl, ?_⟩; have n0_ := Aside0.mk (below_step (by repeat (first | (with_reducible first | exact HB.out | apply below_alloc | apply pw_below_drewN | apply below_drew1) | exact HB.out)) hb); clear HB; have HB := n0_; clear n0_; (try clear hb); (try clear hb2); (try clear hk); (try clear hi)) | ((with_reducible refine gate_callee (f := 15) rfl ?_); refine goesL_ (some 94) rfl rfl Try.func15 (by kernel_rfl) rfl #[.string t233] rfl (by (try simp only [List.map_toArray, List.map_cons, List.map_nil]); first | done | rfl | (simp only [List.length_drop, List.length_take]; rfl)) ?_; (with_reducible refine (path_Is.calls kj13 t233 true _ A30.out).mono ?_); rintro e w' ⟨rfl, ⟨nd, rfl⟩⟩; refine ⟨_, rfl, ?_⟩) | (go_at_call 20; (with_reducible refine (path_Base.calls kj13 a0 t238 _ A33.out).mono ?_); rintro e w' ⟨rfl, ⟨nd, rfl⟩⟩))
                              go_ret
                              exact ⟨by first | rfl | (simp [errW_none, errW_some] <;> rfl) | (simp [*, errW_none, errW_some] <;> rfl), by repeat (first | (with_reducible first | exact HB.out | apply below_alloc | apply pw_below_drewN | apply below_drew1) | exact HB.out)⟩
                          · rw [if_neg c34] at H
                            exact absurd H (by simp)
                        · rw [if_neg c32] at H
                          exact absurd H (by simp)
                      · replace c31 := Bool.eq_false_iff.mpr c31
                        subst c31
                        have H1 : (some false) = some r := by rw [if_neg (show ¬ (false = true) by decide)] at H; exact H
                        clear H
                        have H := H1
                        clear H1
                        obtain rfl := Option.some.inj H
                        go_wp2_with (first | ((with_reducible refine gate_callee (f := 17) rfl ?_); refine goesL_ (some 66) rfl rfl Try.func17 (by kernel_rfl) rfl #[.string a0] rfl (by (try simp only [List.map_toArray, List.map_cons, List.map_nil]); first | done | rfl | (simp only [List.length_drop, List.length_take]; rfl)) ?_; (with_reducible refine (path_Parent.calls kj13 a0 t233 true _ A26.out).mono ?_); rintro e w' ⟨rfl, ⟨nd, rfl⟩⟩; refine ⟨_, rfl, ?_⟩) | ((with_reducible refine gate_callee (f := 13) rfl ?_); refine goesL_ (some 72) rfl rfl Try.func13 (by kernel_rfl) rfl #[.string (a0 ++ (⟨#[47, 46, 46]⟩ : ByteArray))] rfl (by (try simp only [List.map_toArray, List.map_cons, List.map_nil]); first | done | rfl | (simp only [List.length_drop, List.length_take]; rfl)) ?_; (with_reducible refine (path_Norm.calls kj13 (a0 ++ (⟨#[47, 46, 46]⟩ : ByteArray)) t235 t236 _ A28.out).mono ?_); rintro e w40 ⟨rfl, hb⟩; refine ⟨_, rfl, ?_⟩; have n0_ := Aside0.mk (below_step (by repeat (first | (with_reducible first | exact HB.out | apply below_alloc | apply pw_below_drewN | apply below_drew1) | exact HB.out)) hb); clear HB; have HB := n0_; clear n0_; (try clear hb); (try clear hb2); (try clear hk); (try clear hi)) | ((with_reducible refine gate_callee (f := 15) rfl ?_); refine goesL_ (some 94) rfl rfl Try.func15 (by kernel_rfl) rfl #[.string t233] rfl (by (try simp only [List.map_toArray, List.map_cons, List.map_nil]); first | done | rfl | (simp only [List.length_drop, List.length_take]; rfl)) ?_; (with_reducible refine (path_Is.calls kj13 t233 false _ A30.out).mono ?_); rintro e w' ⟨rfl, ⟨nd, rfl⟩⟩; refine ⟨_, rfl, ?_⟩))
                        go_ret
                        exact ⟨by first | rfl | (simp [errW_none, errW_some] <;> rfl) | (simp [*, errW_none, errW_some] <;> rfl), by repeat (first | (with_reducible first | exact HB.out | apply below_alloc | apply pw_below_drewN | apply below_drew1) | exact HB.out)⟩
                    · replace c29 := Bool.eq_false_iff.mpr c29
                      subst c29
                      have H1 : (if t233.toList = ([] : List UInt8) then ((path_Base.f kj13 a0).bind fun t239 => (if t239.toList = a0.toList then (if t235.toList = ([] : List UInt8) then (some (t236 == 2)) else (some false)) else (some false))) else (some false)) = some r := by rw [if_neg (show ¬ (false = true) by decide)] at H; exact H
                      clear H
                      have H := H1
                      clear H1
                      by_cases c41 : t233.toList = ([] : List UInt8)
                      · rw [if_pos c41] at H
                        have c41b0 : t233.toList.isEmpty = true := by simpa using c41
                        have c41b1 : (t233.toList == ([] : List UInt8)) = true := beq_iff_eq.mpr c41
                        have c41b2 : (t233.toList != ([] : List UInt8)) = false := bne_eq_false_iff_eq.mpr c41
                        clear c41
                        replace H := Option.bind_eq_some_iff.mp H
                        obtain ⟨t239, A420, H⟩ := H
                        replace H : (if t239.toList = a0.toList then (if t235.toList = ([] : List UInt8) then (some (t236 == 2)) else (some false)) else (some false)) = some r := H
                        have A42 := Aside0.mk A420
                        clear A420
                        by_cases c43 : t239.toList = a0.toList
                        · rw [if_pos c43] at H
                          have c43b0 : (t239.toList == a0.toList) = true := beq_iff_eq.mpr c43
                          have c43b1 : (t239.toList != a0.toList) = false := bne_eq_false_iff_eq.mpr c43
                          clear c43
                          by_cases c44 : t235.toList = ([] : List UInt8)
                          · rw [if_pos c44] at H
                            have c44b0 : t235.toList.isEmpty = true := by simpa using c44
                            have c44b1 : (t235.toList == ([] : List UInt8)) = true := beq_iff_eq.mpr c44
                            have c44b2 : (t235.toList != ([] : List UInt8)) = false := bne_eq_false_iff_eq.mpr c44
                            clear c44
                            obtain rfl := Option.some.inj H
                            go_wp2_with (first | ((with_reducible refine gate_callee (f := 17) rfl ?_); refine goesL_ (some 66) rfl rfl Try.func17 (by kernel_rfl) rfl #[.string a0] rfl (by (try simp only [List.map_toArray, List.map_cons, List.map_nil]); first | done | rfl | (simp only [List.length_drop, List.length_take]; rfl)) ?_; (with_reducible refine (path_Parent.calls kj13 a0 t233 false _ A26.out).mono ?_); rintro e w' ⟨rfl, ⟨nd, rfl⟩⟩; refine ⟨_, rfl, ?_⟩) | ((with_reducible refine gate_callee (f := 13) rfl ?_); refine goesL_ (some 72) rfl rfl Try.func13 (by kernel_rfl) rfl #[.string (a0 ++ (⟨#[47, 46, 46]⟩ : ByteArray))] rfl (by (try simp only [List.map_toArray, List.map_cons, List.map_nil]); first | done | rfl | (simp only [List.length_drop, List.length_take]; rfl)) ?_; (with_reducible refine (path_Norm.calls kj13 (a0 ++ (⟨#[47, 46, 46]⟩ : ByteArray)) t235 t236 _ A28.out).mono ?_); rintro e w45 ⟨rfl, hb⟩; refine ⟨_, rfl, ?_⟩; have n0_ := Aside0.mk (below_step (by repeat (first | (with_reducible first | exact HB.out | apply below_alloc | apply pw_below_drewN | apply below_drew1) | exact HB.out)) hb); clear HB; have HB := n0_; clear n0_; (try clear hb); (try clear hb2); (try clear hk); (try clear hi)) | (go_at_call 20; (with_reducible refine (path_Base.calls kj13 a0 t239 _ A42.out).mono ?_); rintro e w' ⟨rfl, ⟨nd, rfl⟩⟩))
                            go_ret
                            exact ⟨by first | rfl | (simp [errW_none, errW_some] <;> rfl) | (simp [*, errW_none, errW_some] <;> rfl), by repeat (first | (with_reducible first | exact HB.out | apply below_alloc | apply pw_below_drewN | apply below_drew1) | exact HB.out)⟩
                          · rw [if_neg c44] at H
                            have c44b0 : t235.toList.isEmpty = false := by simpa using c44
                            have c44b1 : (t235.toList == ([] : List UInt8)) = false := beq_eq_false_iff_ne.mpr c44
                            have c44b2 : (t235.toList != ([] : List UInt8)) = true := bne_iff_ne.mpr c44
                            obtain rfl := Option.some.inj H
                            go_wp2_with (first | ((with_reducible refine gate_callee (f := 17) rfl ?_); refine goesL_ (some 66) rfl rfl Try.func17 (by kernel_rfl) rfl #[.string a0] rfl (by (try simp only [List.map_toArray, List.map_cons, List.map_nil]); first | done | rfl | (simp only [List.length_drop, List.length_take]; rfl)) ?_; (with_reducible refine (path_Parent.calls kj13 a0 t233 false _ A26.out).mono ?_); rintro e w' ⟨rfl, ⟨nd, rfl⟩⟩; refine ⟨_, rfl, ?_⟩) | ((with_reducible refine gate_callee (f := 13) rfl ?_); refine goesL_ (some 72) rfl rfl Try.func13 (by kernel_rfl) rfl #[.string (a0 ++ (⟨#[47, 46, 46]⟩ : ByteArray))] rfl (by (try simp only [List.map_toArray, List.map_cons, List.map_nil]); first | done | rfl | (simp only [List.length_drop, List.length_take]; rfl)) ?_; (with_reducible refine (path_Norm.calls kj13 (a0 ++ (⟨#[47, 46, 46]⟩ : ByteArray)) t235 t236 _ A28.out).mono ?_); rintro e w46 ⟨rfl, hb⟩; refine ⟨_, rfl, ?_⟩; have n0_ := Aside0.mk (below_step (by repeat (first | (with_reducible first | exact HB.out | apply below_alloc | apply pw_below_drewN | apply below_drew1) | exact HB.out)) hb); clear HB; have HB := n0_; clear n0_; (try clear hb); (try clear hb2); (try clear hk); (try clear hi)) | (go_at_call 20; (with_reducible refine (path_Base.calls kj13 a0 t239 _ A42.out).mono ?_); rintro e w' ⟨rfl, ⟨nd, rfl⟩⟩))
                            go_ret
                            exact ⟨by first | rfl | (simp [errW_none, errW_some] <;> rfl) | (simp [*, errW_none, errW_some] <;> rfl), by repeat (first | (with_reducible first | exact HB.out | apply below_alloc | apply pw_below_drewN | apply below_drew1) | exact HB.out)⟩
                        · rw [if_neg c43] at H
                          have c43b0 : (t239.toList == a0.toList) = false := beq_eq_false_iff_ne.mpr c43
                          have c43b1 : (t239.toList != a0.toList) = true := bne_iff_ne.mpr c43
                          obtain rfl := Option.some.inj H
                          go_wp2_with (first | ((with_reducible refine gate_callee (f := 17) rfl ?_); refine goesL_ (some 66) rfl rfl Try.func17 (by kernel_rfl) rfl #[.string a0] rfl (by (try simp only [List.map_toArray, List.map_cons, List.map_nil]); first | done | rfl | (simp only [List.length_drop, List.length_take]; rfl)) ?_; (with_reducible refine (path_Parent.calls kj13 a0 t233 false _ A26.out).mono ?_); rintro e w' ⟨rfl, ⟨nd, rfl⟩⟩; refine ⟨_, rfl, ?_⟩) | ((with_reducible refine gate_callee (f := 13) rfl ?_); refine goesL_ (some 72) rfl rfl Try.func13 (by kernel_rfl) rfl #[.string (a0 ++ (⟨#[47, 46, 46]⟩ : ByteArray))] rfl (by (try simp only [List.map_toArray, List.map_cons, List.map_nil]); first | done | rfl | (simp only [List.length_drop, List.length_take]; rfl)) ?_; (with_reducible refine (path_Norm.calls kj13 (a0 ++ (⟨#[47, 46, 46]⟩ : ByteArray)) t235 t236 _ A28.out).mono ?_); rintro e w47 ⟨rfl, hb⟩; refine ⟨_, rfl, ?_⟩; have n0_ := Aside0.mk (below_step (by repeat (first | (with_reducible first | exact HB.out | apply below_alloc | apply pw_below_drewN | apply below_drew1) | exact HB.out)) hb); clear HB; have HB := n0_; clear n0_; (try clear hb); (try clear hb2); (try clear hk); (try clear hi)) | (go_at_call 20; (with_reducible refine (path_Base.calls kj13 a0 t239 _ A42.out).mono ?_); rintro e w' ⟨rfl, ⟨nd, rfl⟩⟩))
                          go_ret
                          exact ⟨by first | rfl | (simp [errW_none, errW_some] <;> rfl) | (simp [*, errW_none, errW_some] <;> rfl), by repeat (first | (with_reducible first | exact HB.out | apply below_alloc | apply pw_below_drewN | apply below_drew1) | exact HB.out)⟩
                      · rw [if_neg c41] at H
                        have c41b0 : t233.toList.isEmpty = false := by simpa using c41
                        have c41b1 : (t233.toList == ([] : List UInt8)) = false := beq_eq_false_iff_ne.mpr c41
                        have c41b2 : (t233.toList != ([] : List UInt8)) = true := bne_iff_ne.mpr c41
                        obtain rfl := Option.some.inj H
                        go_wp2_with (first | ((with_reducible refine gate_callee (f := 17) rfl ?_); refine goesL_ (some 66) rfl rfl Try.func17 (by kernel_rfl) rfl #[.string a0] rfl (by (try simp only [List.map_toArray, List.map_cons, List.map_nil]); first | done | rfl | (simp only [List.length_drop, List.length_take]; rfl)) ?_; (with_reducible refine (path_Parent.calls kj13 a0 t233 false _ A26.out).mono ?_); rintro e w' ⟨rfl, ⟨nd, rfl⟩⟩; refine ⟨_, rfl, ?_⟩) | ((with_reducible refine gate_callee (f := 13) rfl ?_); refine goesL_ (some 72) rfl rfl Try.func13 (by kernel_rfl) rfl #[.string (a0 ++ (⟨#[47, 46, 46]⟩ : ByteArray))] rfl (by (try simp only [List.map_toArray, List.map_cons, List.map_nil]); first | done | rfl | (simp only [List.length_drop, List.length_take]; rfl)) ?_; (with_reducible refine (path_Norm.calls kj13 (a0 ++ (⟨#[47, 46, 46]⟩ : ByteArray)) t235 t236 _ A28.out).mono ?_); rintro e w48 ⟨rfl, hb⟩; refine ⟨_, rfl, ?_⟩; have n0_ := Aside0.mk (below_step (by repeat (first | (with_reducible first | exact HB.out | apply below_alloc | apply pw_below_drewN | apply below_drew1) | exact HB.out)) hb); clear HB; have HB := n0_; clear n0_; (try clear hb); (try clear hb2); (try clear hk); (try clear hi)))
                        go_ret
                        exact ⟨by first | rfl | (simp [errW_none, errW_some] <;> rfl) | (simp [*, errW_none, errW_some] <;> rfl), by repeat (first | (with_reducible first | exact HB.out | apply below_alloc | apply pw_below_drewN | apply below_drew1) | exact HB.out)⟩
                  · rw [if_neg c27] at H
                    exact absurd H (by simp)
            · rw [if_neg c12] at H
              exact absurd H (by simp)
          · rw [if_neg c11] at H
            exact absurd H (by simp)
  · replace c4 := Bool.eq_false_iff.mpr c4
    subst c4
    have H1 : (some false) = some r := by rw [if_neg (show ¬ (false = true) by decide)] at H; exact H
    clear H
    have H := H1
    clear H1
    obtain rfl := Option.some.inj H
    go_enter Try.func7, Try.ntmps7
    go_wp2_with (first | ((with_reducible refine gate_callee (f := 11) rfl ?_); refine goesL_ (some 11) rfl rfl Try.func11 (by kernel_rfl) rfl #[] rfl (by (try simp only [List.map_toArray, List.map_cons, List.map_nil]); first | done | rfl | (simp only [List.length_drop, List.length_take]; rfl)) ?_; (with_reducible refine (brickyardlaw09_works.calls  false _ A3.out).mono ?_); rintro e w49 ⟨rfl, hb⟩; refine ⟨_, rfl, ?_⟩; have n0_ := Aside0.mk (below_step (by repeat (first | (with_reducible first | exact HB.out | apply below_alloc | apply pw_below_drewN | apply below_drew1) | exact HB.out)) hb); clear HB; have HB := n0_; clear n0_; (try clear hb); (try clear hb2); (try clear hk); (try clear hi)))
    go_ret
    exact ⟨by first | rfl | (simp [errW_none, errW_some] <;> rfl) | (simp [*, errW_none, errW_some] <;> rfl), by repeat (first | (with_reducible first | exact HB.out | apply below_alloc | apply pw_below_drewN | apply below_drew1) | exact HB.out)⟩

/-- THE ONE PURE STATEMENT of brickyardlaw09_PathJoins: yours. -/
def brickyardlaw09_PathJoins.Pure : Prop := ∀ (a0 : ByteArray) (a1 : ByteArray), a0.size ≤ 140737488351232 → a1.size ≤ 140737488351232 → ∃ k, brickyardlaw09_PathJoins.f k a0 a1 = some true
theorem brickyardlaw09_PathJoins.walk (P : brickyardlaw09_PathJoins.Pure) (a0 : ByteArray) (a1 : ByteArray) (w : World) (w0 : a0.size ≤ 140737488351232) (w1 : a1.size ≤ 140737488351232) :
    Calls Try.prog 7 #[.string a0, .string a1] w fun e w' => e = .returned (.bool true) ∧ Below w.heap.size w w' := by
  obtain ⟨k, h⟩ := P a0 a1 w0 w1
  refine (brickyardlaw09_PathJoins.calls k a0 a1 true w h).mono ?_
  rintro e w' ⟨rfl, hd⟩
  exact ⟨rfl, hd⟩

end Go.Proofs.Ytpphdmpnnnimdaa.P
