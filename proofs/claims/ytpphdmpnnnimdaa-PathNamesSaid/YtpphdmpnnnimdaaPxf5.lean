/- The functions that the laws of this seat come to, as plain Lean functions, each with the proof that the machine's call comes to it. -/
import Derived.Test.YtpphdmpnnnimdaaPx0
import Derived.Test.YtpphdmpnnnimdaaPxf13
import Derived.Test.YtpphdmpnnnimdaaPxf15
import Derived.Test.YtpphdmpnnnimdaaG4
namespace Go.Proofs.Ytpphdmpnnnimdaa.P
open Go.RowKit Go.Proofs.YtpphdmpnnnimdaaW.PrintWords Go.Proofs.YtpphdmpnnnimdaaW.PrintLast Go.Proofs.YtpphdmpnnnimdaaW.PrintMore
attribute [local go_sem] max2_int min2_int max_two min_two max_three min_three max_four min_four   -- for this text's walks alone
set_option linter.unusedVariables false
set_option linter.unusedSimpArgs false

/-! ### brickyardlaw09_PathNames: function 5 -/
def brickyardlaw09_PathNames.l0 : Nat → ByteArray → Int → Option (Bool)
  | 0, _, _ => none
  | k + 1, x1, x2 => if x2 < 32 then (if x1.size + 1 ≤ 9223372036854775807 then (brickyardlaw09_PathNames.l0 k (x1 ++ (⟨#[97]⟩ : ByteArray)) (wrap64 (x2 + 1))) else (none)) else (if x1.size + 1 ≤ 9223372036854775807 then (if 0 ≤ 27 then (if 27 ≤ (x1.size : Int) then (if (x1 ++ (⟨#[47]⟩ : ByteArray)).size + (x1.extract 0 27).size ≤ 9223372036854775807 then (if ((x1 ++ (⟨#[47]⟩ : ByteArray)) ++ (x1.extract 0 27)).size + 1 ≤ 9223372036854775807 then ((path_Norm.f k (((x1 ++ (⟨#[47]⟩ : ByteArray)) ++ (x1.extract 0 27)) ++ (⟨#[97]⟩ : ByteArray))).bind fun bt188 => ((path_Norm.f k ((x1 ++ (⟨#[47]⟩ : ByteArray)) ++ (x1.extract 0 27))).bind fun bt190 => ((path_Is.f k x1).bind fun t192 => (if t192 = true then ((path_Is.f k (x1 ++ (⟨#[97]⟩ : ByteArray))).bind fun t193 => (if t193 = true then (some false) else (if (((x1 ++ (⟨#[47]⟩ : ByteArray)) ++ (x1.extract 0 27)).size : Int) = 60 then ((path_Is.f k ((x1 ++ (⟨#[47]⟩ : ByteArray)) ++ (x1.extract 0 27))).bind fun t194 => (if t194 = true then ((path_Is.f k (((x1 ++ (⟨#[47]⟩ : ByteArray)) ++ (x1.extract 0 27)) ++ (⟨#[97]⟩ : ByteArray))).bind fun t195 => (if t195 = true then (some false) else (if bt188.2 = 3 then (if bt190.1.toList = ((x1 ++ (⟨#[47]⟩ : ByteArray)) ++ (x1.extract 0 27)).toList then (some (bt190.2 == 0)) else (some false)) else (some false)))) else (some false))) else (some false)))) else (some false))))) else (none)) else (none)) else (none)) else (none)) else (none))
def brickyardlaw09_PathNames.f (k : Nat)  : Option (Bool) := (brickyardlaw09_works.f).bind fun t187 => (if t187 = true then (brickyardlaw09_PathNames.l0 k (⟨#[]⟩ : ByteArray) 0) else (some false))
theorem brickyardlaw09_PathNames.mono_l : ∀ k, (∀ y0 y1, LeO (brickyardlaw09_PathNames.l0 k y0 y1) (brickyardlaw09_PathNames.l0 (k + 1) y0 y1))
  | 0 => fun _ _ r h => by simp [brickyardlaw09_PathNames.l0] at h
  | k + 1 => by
    have ih0 := brickyardlaw09_PathNames.mono_l k
    · intro y0 y1
      unfold brickyardlaw09_PathNames.l0
      repeat' first
      | (with_reducible exact ih0 _ _)
      | (with_reducible exact path_Is.mono _ _)
      | (with_reducible exact path_Norm.mono _ _)
      | (with_reducible exact LeO.refl _)
      | (with_reducible exact LeO.none _)
      | (with_reducible refine LeO.ite ?_ ?_)
      | (with_reducible refine LeO.bind ?_ (fun _ => ?_))
      | exact ih0 _ _
      | exact path_Is.mono _ _
      | exact path_Norm.mono _ _
      | exact LeO.none _
      | refine LeO.ite ?_ ?_
      | refine LeO.bind ?_ (fun _ => ?_)
theorem brickyardlaw09_PathNames.mono : ∀ k, LeO (brickyardlaw09_PathNames.f k ) (brickyardlaw09_PathNames.f (k + 1) ) := by
  intro  k
  have ih0 := brickyardlaw09_PathNames.mono_l k
  unfold brickyardlaw09_PathNames.f
  repeat' first
      | (with_reducible exact ih0 _ _)
      | (with_reducible exact path_Is.mono _ _)
      | (with_reducible exact path_Norm.mono _ _)
      | (with_reducible exact LeO.refl _)
      | (with_reducible exact LeO.none _)
      | (with_reducible refine LeO.ite ?_ ?_)
      | (with_reducible refine LeO.bind ?_ (fun _ => ?_))
      | exact ih0 _ _
      | exact path_Is.mono _ _
      | exact path_Norm.mono _ _
      | exact LeO.none _
      | refine LeO.ite ?_ ?_
      | refine LeO.bind ?_ (fun _ => ?_)
set_option maxHeartbeats 8000000 in
set_option maxRecDepth 100000 in
theorem brickyardlaw09_PathNames.calls (k : Nat)  (r : Bool) (w : World) (h : brickyardlaw09_PathNames.f k  = some r) :
    Calls Try.prog 5 #[] w fun e w' => e = .returned (.bool r) ∧ Below w.heap.size w w' := by
  have HB := Aside0.mk (Below.refl w.heap.size w)
  have H : ((brickyardlaw09_works.f).bind fun t187 => (if t187 = true then (brickyardlaw09_PathNames.l0 k (⟨#[]⟩ : ByteArray) 0) else (some false))) = some r := h
  clear h
  replace H := Option.bind_eq_some_iff.mp H
  obtain ⟨t187, A10, H⟩ := H
  replace H : (if t187 = true then (brickyardlaw09_PathNames.l0 k (⟨#[]⟩ : ByteArray) 0) else (some false)) = some r := H
  have A1 := Aside0.mk A10
  clear A10
  by_cases c2 : t187 = true
  · subst c2
    have H1 : (brickyardlaw09_PathNames.l0 k (⟨#[]⟩ : ByteArray) 0) = some r := by rw [if_pos rfl] at H; exact H
    clear H
    have H := H1
    clear H1
    have H' := Aside0.mk H
    clear H
    go_enter Try.func5, Try.ntmps5
    go_wp2_with (first | ((with_reducible refine gate_callee (f := 11) rfl ?_); refine goesL_ (some 8) rfl rfl Try.func11 (by kernel_rfl) rfl #[] rfl (by (try simp only [List.map_toArray, List.map_cons, List.map_nil]); first | done | rfl | (simp only [List.length_drop, List.length_take]; rfl)) ?_; (with_reducible refine (brickyardlaw09_works.calls  true _ A1.out).mono ?_); rintro e w3 ⟨rfl, hb⟩; refine ⟨_, rfl, ?_⟩; have n0_ := Aside0.mk (below_step (by repeat (first | (with_reducible first | exact HB.out | apply below_alloc | apply pw_below_drewN | apply below_drew1) | exact HB.out)) hb); clear HB; have HB := n0_; clear n0_; (try clear hb); (try clear hb2); (try clear hk); (try clear hi)))
    go_loopg [1, 2] k (fun kq v1 v2 w' => ∃ (x1_1 : ByteArray) (x2_1 : Int), v1 = .string x1_1 ∧ v2 = .int .i64 x2_1 ∧ Aside0 (brickyardlaw09_PathNames.l0 kq x1_1 x2_1 = some r) ∧ Aside0 (kq ≤ k) ∧ Aside0 (Below w.heap.size w w'))
    case atStart => exact ⟨((⟨#[]⟩ : ByteArray)), (0), (by first | rfl | (simp; done) | (simp [*]; done)), (by first | rfl | (simp; done) | (simp [*]; done)), H', ⟨Nat.le_refl _⟩, ⟨by repeat (first | (with_reducible first | exact HB.out | apply below_alloc | apply pw_below_drewN | apply below_drew1) | exact HB.out)⟩⟩
    case round =>
      clear H'
      try clear c1
      try clear c2
      try clear p2
      obtain ⟨x1_1, x2_1, rfl, rfl, HA, HK1, HB⟩ := hrel
      cases gk with
      | zero => exact absurd HA.out (by simp [brickyardlaw09_PathNames.l0])
      | succ k1 =>
        have H := HA.out
        clear HA
        simp only [brickyardlaw09_PathNames.l0] at H
        by_cases c4 : x2_1 < 32
        · rw [if_pos c4] at H
          have c4b0 : decide (x2_1 < 32) = true := decide_eq_true c4
          clear c4
          by_cases c5 : x1_1.size + 1 ≤ 9223372036854775807
          · rw [if_pos c5] at H
            have c5b0 := eq_true c5
            have c5b1 : decide (x1_1.size + 1 ≤ 9223372036854775807) = true := decide_eq_true c5
            try have c5b2 : (9223372036854775807 < x1_1.size + 1) = False := eq_false (Nat.not_lt.2 c5)
            have H' := Aside0.mk H
            clear H
            go_wp2
            go_roundg k1
            case measure => have := HK1.out; omega
            case rel => exact ⟨(x1_1 ++ (⟨#[97]⟩ : ByteArray)), (wrap64 (x2_1 + 1)), (by first | rfl | (simp; done) | (simp [*]; done)), (by first | rfl | (simp; done) | (simp [*]; done)), H', ⟨by have := HK1.out; omega⟩, ⟨by repeat (first | (with_reducible first | exact HB.out | apply below_alloc | apply pw_below_drewN | apply below_drew1) | exact HB.out)⟩⟩
          · rw [if_neg c5] at H
            exact absurd H (by simp)
        · rw [if_neg c4] at H
          have c4b0 : decide (x2_1 < 32) = false := decide_eq_false c4
          clear c4
          by_cases c6 : x1_1.size + 1 ≤ 9223372036854775807
          · rw [if_pos c6] at H
            have c6b0 := eq_true c6
            have c6b1 : decide (x1_1.size + 1 ≤ 9223372036854775807) = true := decide_eq_true c6
            try have c6b2 : (9223372036854775807 < x1_1.size + 1) = False := eq_false (Nat.not_lt.2 c6)
            by_cases c7 : 0 ≤ 27
            · rw [if_pos c7] at H
              have c7b0 := eq_true c7
              have c7b1 : decide (0 ≤ 27) = true := decide_eq_true c7
              clear c7
              by_cases c8 : 27 ≤ (x1_1.size : Int)
              · rw [if_pos c8] at H
                have c8b0 := eq_true c8
                have c8b1 : decide (27 ≤ (x1_1.size : Int)) = true := decide_eq_true c8
                clear c8
                by_cases c9 : (x1_1 ++ (⟨#[47]⟩ : ByteArray)).size + (x1_1.extract 0 27).size ≤ 9223372036854775807
                · rw [if_pos c9] at H
                  have c9b0 := eq_true c9
                  have c9b1 : decide ((x1_1 ++ (⟨#[47]⟩ : ByteArray)).size + (x1_1.extract 0 27).size ≤ 9223372036854775807) = true := decide_eq_true c9
                  try have c9b2 : (9223372036854775807 < (x1_1 ++ (⟨#[47]⟩ : ByteArray)).size + (x1_1.extract 0 27).size) = False := eq_false (Nat.not_lt.2 c9)
                  try (have c9b2e := c9b2; simp only [ByteArray.size_append, ByteArray.size_extract, Nat.sub_zero, Nat.min_self, show (⟨#[47]⟩ : ByteArray).size = 1 from rfl] at c9b2e)
                  try (have c9b2f := c9b2e; rw [Nat.min_eq_left (by first | omega | (simp only [decide_eq_true_eq, eq_iff_iff, iff_true] at *; omega))] at c9b2f)
                  by_cases c10 : ((x1_1 ++ (⟨#[47]⟩ : ByteArray)) ++ (x1_1.extract 0 27)).size + 1 ≤ 9223372036854775807
                  · rw [if_pos c10] at H
                    have c10b0 := eq_true c10
                    have c10b1 : decide (((x1_1 ++ (⟨#[47]⟩ : ByteArray)) ++ (x1_1.extract 0 27)).size + 1 ≤ 9223372036854775807) = true := decide_eq_true c10
                    try have c10b2 : (9223372036854775807 < ((x1_1 ++ (⟨#[47]⟩ : ByteArray)) ++ (x1_1.extract 0 27)).size + 1) = False := eq_false (Nat.not_lt.2 c10)
                    try (have c10b2e := c10b2; simp only [ByteArray.size_append, ByteArray.size_extract, Nat.sub_zero, Nat.min_self, show (⟨#[47]⟩ : ByteArray).size = 1 from rfl] at c10b2e)
                    try (have c10b2f := c10b2e; rw [Nat.min_eq_left (by first | omega | (simp only [decide_eq_true_eq, eq_iff_iff, iff_true] at *; omega))] at c10b2f)
                    replace H := Option.bind_eq_some_iff.mp H
                    obtain ⟨⟨t188, t189⟩, A110, H⟩ := H
                    replace H : ((path_Norm.f k1 ((x1_1 ++ (⟨#[47]⟩ : ByteArray)) ++ (x1_1.extract 0 27))).bind fun bt190 => ((path_Is.f k1 x1_1).bind fun t192 => (if t192 = true then ((path_Is.f k1 (x1_1 ++ (⟨#[97]⟩ : ByteArray))).bind fun t193 => (if t193 = true then (some false) else (if (((x1_1 ++ (⟨#[47]⟩ : ByteArray)) ++ (x1_1.extract 0 27)).size : Int) = 60 then ((path_Is.f k1 ((x1_1 ++ (⟨#[47]⟩ : ByteArray)) ++ (x1_1.extract 0 27))).bind fun t194 => (if t194 = true then ((path_Is.f k1 (((x1_1 ++ (⟨#[47]⟩ : ByteArray)) ++ (x1_1.extract 0 27)) ++ (⟨#[97]⟩ : ByteArray))).bind fun t195 => (if t195 = true then (some false) else (if t189 = 3 then (if bt190.1.toList = ((x1_1 ++ (⟨#[47]⟩ : ByteArray)) ++ (x1_1.extract 0 27)).toList then (some (bt190.2 == 0)) else (some false)) else (some false)))) else (some false))) else (some false)))) else (some false)))) = some r := H
                    have A11 := Aside0.mk A110
                    clear A110
                    replace H := Option.bind_eq_some_iff.mp H
                    obtain ⟨⟨t190, t191⟩, A120, H⟩ := H
                    replace H : ((path_Is.f k1 x1_1).bind fun t192 => (if t192 = true then ((path_Is.f k1 (x1_1 ++ (⟨#[97]⟩ : ByteArray))).bind fun t193 => (if t193 = true then (some false) else (if (((x1_1 ++ (⟨#[47]⟩ : ByteArray)) ++ (x1_1.extract 0 27)).size : Int) = 60 then ((path_Is.f k1 ((x1_1 ++ (⟨#[47]⟩ : ByteArray)) ++ (x1_1.extract 0 27))).bind fun t194 => (if t194 = true then ((path_Is.f k1 (((x1_1 ++ (⟨#[47]⟩ : ByteArray)) ++ (x1_1.extract 0 27)) ++ (⟨#[97]⟩ : ByteArray))).bind fun t195 => (if t195 = true then (some false) else (if t189 = 3 then (if t190.toList = ((x1_1 ++ (⟨#[47]⟩ : ByteArray)) ++ (x1_1.extract 0 27)).toList then (some (t191 == 0)) else (some false)) else (some false)))) else (some false))) else (some false)))) else (some false))) = some r := H
                    have A12 := Aside0.mk A120
                    clear A120
                    replace H := Option.bind_eq_some_iff.mp H
                    obtain ⟨t192, A130, H⟩ := H
                    replace H : (if t192 = true then ((path_Is.f k1 (x1_1 ++ (⟨#[97]⟩ : ByteArray))).bind fun t193 => (if t193 = true then (some false) else (if (((x1_1 ++ (⟨#[47]⟩ : ByteArray)) ++ (x1_1.extract 0 27)).size : Int) = 60 then ((path_Is.f k1 ((x1_1 ++ (⟨#[47]⟩ : ByteArray)) ++ (x1_1.extract 0 27))).bind fun t194 => (if t194 = true then ((path_Is.f k1 (((x1_1 ++ (⟨#[47]⟩ : ByteArray)) ++ (x1_1.extract 0 27)) ++ (⟨#[97]⟩ : ByteArray))).bind fun t195 => (if t195 = true then (some false) else (if t189 = 3 then (if t190.toList = ((x1_1 ++ (⟨#[47]⟩ : ByteArray)) ++ (x1_1.extract 0 27)).toList then (some (t191 == 0)) else (some false)) else (some false)))) else (some false))) else (some false)))) else (some false)) = some r := H
                    have A13 := Aside0.mk A130
                    clear A130
                    by_cases c14 : t192 = true
                    · subst c14
                      have H1 : ((path_Is.f k1 (x1_1 ++ (⟨#[97]⟩ : ByteArray))).bind fun t193 => (if t193 = true then (some false) else (if (((x1_1 ++ (⟨#[47]⟩ : ByteArray)) ++ (x1_1.extract 0 27)).size : Int) = 60 then ((path_Is.f k1 ((x1_1 ++ (⟨#[47]⟩ : ByteArray)) ++ (x1_1.extract 0 27))).bind fun t194 => (if t194 = true then ((path_Is.f k1 (((x1_1 ++ (⟨#[47]⟩ : ByteArray)) ++ (x1_1.extract 0 27)) ++ (⟨#[97]⟩ : ByteArray))).bind fun t195 => (if t195 = true then (some false) else (if t189 = 3 then (if t190.toList = ((x1_1 ++ (⟨#[47]⟩ : ByteArray)) ++ (x1_1.extract 0 27)).toList then (some (t191 == 0)) else (some false)) else (some false)))) else (some false))) else (some false)))) = some r := by rw [if_pos rfl] at H; exact H
                      clear H
                      have H := H1
                      clear H1
                      replace H := Option.bind_eq_some_iff.mp H
                      obtain ⟨t193, A150, H⟩ := H
                      replace H : (if t193 = true then (some false) else (if (((x1_1 ++ (⟨#[47]⟩ : ByteArray)) ++ (x1_1.extract 0 27)).size : Int) = 60 then ((path_Is.f k1 ((x1_1 ++ (⟨#[47]⟩ : ByteArray)) ++ (x1_1.extract 0 27))).bind fun t194 => (if t194 = true then ((path_Is.f k1 (((x1_1 ++ (⟨#[47]⟩ : ByteArray)) ++ (x1_1.extract 0 27)) ++ (⟨#[97]⟩ : ByteArray))).bind fun t195 => (if t195 = true then (some false) else (if t189 = 3 then (if t190.toList = ((x1_1 ++ (⟨#[47]⟩ : ByteArray)) ++ (x1_1.extract 0 27)).toList then (some (t191 == 0)) else (some false)) else (some false)))) else (some false))) else (some false))) = some r := H
                      have A15 := Aside0.mk A150
                      clear A150
                      by_cases c16 : t193 = true
                      · subst c16
                        have H1 : (some false) = some r := by rw [if_pos rfl] at H; exact H
                        clear H
                        have H := H1
                        clear H1
                        obtain rfl := Option.some.inj H
                        go_wp2_with (first | ((with_reducible refine gate_callee (f := 13) rfl ?_); refine goesL_ (some 24) rfl rfl Try.func13 (by kernel_rfl) rfl #[.string (((x1_1 ++ (⟨#[47]⟩ : ByteArray)) ++ (x1_1.extract 0 27)) ++ (⟨#[97]⟩ : ByteArray))] rfl (by (try simp only [List.map_toArray, List.map_cons, List.map_nil]); first | done | rfl | (simp only [List.length_drop, List.length_take]; rfl)) ?_; (with_reducible refine (path_Norm.calls k1 (((x1_1 ++ (⟨#[47]⟩ : ByteArray)) ++ (x1_1.extract 0 27)) ++ (⟨#[97]⟩ : ByteArray)) t188 t189 _ A11.out).mono ?_); rintro e w17 ⟨rfl, hb⟩; refine ⟨_, rfl, ?_⟩; have n0_ := Aside0.mk (below_step (by repeat (first | (with_reducible first | exact HB.out | apply below_alloc | apply pw_below_drewN | apply below_drew1) | exact HB.out)) hb); clear HB; have HB := n0_; clear n0_; (try clear hb); (try clear hb2); (try clear hk); (try clear hi)) | ((with_reducible refine gate_callee (f := 13) rfl ?_); refine goesL_ (some 29) rfl rfl Try.func13 (by kernel_rfl) rfl #[.string ((x1_1 ++ (⟨#[47]⟩ : ByteArray)) ++ (x1_1.extract 0 27))] rfl (by (try simp only [List.map_toArray, List.map_cons, List.map_nil]); first | done | rfl | (simp only [List.length_drop, List.length_take]; rfl)) ?_; (with_reducible refine (path_Norm.calls k1 ((x1_1 ++ (⟨#[47]⟩ : ByteArray)) ++ (x1_1.extract 0 27)) t190 t191 _ A12.out).mono ?_); rintro e w18 ⟨rfl, hb⟩; refine ⟨_, rfl, ?_⟩; have n0_ := Aside0.mk (below_step (by repeat (first | (with_reducible first | exact HB.out | apply below_alloc | apply pw_below_drewN | apply below_drew1) | exact HB.out)) hb); clear HB; have HB := n0_; clear n0_; (try clear hb); (try clear hb2); (try clear hk); (try clear hi)) | (go_at_call 15; (with_reducible refine (path_Is.calls k1 x1_1 true _ A13.out).mono ?_); rintro e w' ⟨rfl, ⟨nd, rfl⟩⟩) | (go_at_call 15; (with_reducible refine (path_Is.calls k1 (x1_1 ++ (⟨#[97]⟩ : ByteArray)) true _ A15.out).mono ?_); rintro e w' ⟨rfl, ⟨nd, rfl⟩⟩))
                        go_ret
                        exact ⟨by first | rfl | (simp [errW_none, errW_some] <;> rfl) | (simp [*, errW_none, errW_some] <;> rfl), by repeat (first | (with_reducible first | exact HB.out | apply below_alloc | apply pw_below_drewN | apply below_drew1) | exact HB.out)⟩
                      · replace c16 := Bool.eq_false_iff.mpr c16
                        subst c16
                        have H1 : (if (((x1_1 ++ (⟨#[47]⟩ : ByteArray)) ++ (x1_1.extract 0 27)).size : Int) = 60 then ((path_Is.f k1 ((x1_1 ++ (⟨#[47]⟩ : ByteArray)) ++ (x1_1.extract 0 27))).bind fun t194 => (if t194 = true then ((path_Is.f k1 (((x1_1 ++ (⟨#[47]⟩ : ByteArray)) ++ (x1_1.extract 0 27)) ++ (⟨#[97]⟩ : ByteArray))).bind fun t195 => (if t195 = true then (some false) else (if t189 = 3 then (if t190.toList = ((x1_1 ++ (⟨#[47]⟩ : ByteArray)) ++ (x1_1.extract 0 27)).toList then (some (t191 == 0)) else (some false)) else (some false)))) else (some false))) else (some false)) = some r := by rw [if_neg (show ¬ (false = true) by decide)] at H; exact H
                        clear H
                        have H := H1
                        clear H1
                        by_cases c19 : (((x1_1 ++ (⟨#[47]⟩ : ByteArray)) ++ (x1_1.extract 0 27)).size : Int) = 60
                        · rw [if_pos c19] at H
                          have c19b0 : ((((x1_1 ++ (⟨#[47]⟩ : ByteArray)) ++ (x1_1.extract 0 27)).size : Int) == 60) = true := beq_iff_eq.mpr c19
                          try (have c19b0e := c19b0; simp only [ByteArray.size_append, ByteArray.size_extract, Nat.sub_zero, Nat.min_self, Int.natCast_add, show (⟨#[47]⟩ : ByteArray).size = 1 from rfl, show ((1 : Nat) : Int) = 1 from rfl] at c19b0e)
                          have c19b1 : ((((x1_1 ++ (⟨#[47]⟩ : ByteArray)) ++ (x1_1.extract 0 27)).size : Int) != 60) = false := bne_eq_false_iff_eq.mpr c19
                          try (have c19b1e := c19b1; simp only [ByteArray.size_append, ByteArray.size_extract, Nat.sub_zero, Nat.min_self, Int.natCast_add, show (⟨#[47]⟩ : ByteArray).size = 1 from rfl, show ((1 : Nat) : Int) = 1 from rfl] at c19b1e)
                          clear c19
                          replace H := Option.bind_eq_some_iff.mp H
                          obtain ⟨t194, A200, H⟩ := H
                          replace H : (if t194 = true then ((path_Is.f k1 (((x1_1 ++ (⟨#[47]⟩ : ByteArray)) ++ (x1_1.extract 0 27)) ++ (⟨#[97]⟩ : ByteArray))).bind fun t195 => (if t195 = true then (some false) else (if t189 = 3 then (if t190.toList = ((x1_1 ++ (⟨#[47]⟩ : ByteArray)) ++ (x1_1.extract 0 27)).toList then (some (t191 == 0)) else (some false)) else (some false)))) else (some false)) = some r := H
                          have A20 := Aside0.mk A200
                          clear A200
                          by_cases c21 : t194 = true
                          · subst c21
                            have H1 : ((path_Is.f k1 (((x1_1 ++ (⟨#[47]⟩ : ByteArray)) ++ (x1_1.extract 0 27)) ++ (⟨#[97]⟩ : ByteArray))).bind fun t195 => (if t195 = true then (some false) else (if t189 = 3 then (if t190.toList = ((x1_1 ++ (⟨#[47]⟩ : ByteArray)) ++ (x1_1.extract 0 27)).toList then (some (t191 == 0)) else (some false)) else (some false)))) = some r := by rw [if_pos rfl] at H; exact H
                            clear H
                            have H := H1
                            clear H1
                            replace H := Option.bind_eq_some_iff.mp H
                            obtain ⟨t195, A220, H⟩ := H
                            replace H : (if t195 = true then (some false) else (if t189 = 3 then (if t190.toList = ((x1_1 ++ (⟨#[47]⟩ : ByteArray)) ++ (x1_1.extract 0 27)).toList then (some (t191 == 0)) else (some false)) else (some false))) = some r := H
                            have A22 := Aside0.mk A220
                            clear A220
                            by_cases c23 : t195 = true
                            · subst c23
                              have H1 : (some false) = some r := by rw [if_pos rfl] at H; exact H
                              clear H
                              have H := H1
                              clear H1
                              obtain rfl := Option.some.inj H
                              go_wp2_with (first | ((with_reducible refine gate_callee (f := 13) rfl ?_); refine goesL_ (some 24) rfl rfl Try.func13 (by kernel_rfl) rfl #[.string (((x1_1 ++ (⟨#[47]⟩ : ByteArray)) ++ (x1_1.extract 0 27)) ++ (⟨#[97]⟩ : ByteArray))] rfl (by (try simp only [List.map_toArray, List.map_cons, List.map_nil]); first | done | rfl | (simp only [List.length_drop, List.length_take]; rfl)) ?_; (with_reducible refine (path_Norm.calls k1 (((x1_1 ++ (⟨#[47]⟩ : ByteArray)) ++ (x1_1.extract 0 27)) ++ (⟨#[97]⟩ : ByteArray)) t188 t189 _ A11.out).mono ?_); rintro e w24 ⟨rfl, hb⟩; refine ⟨_, rfl, ?_⟩; have n0_ := Aside0.mk (below_step (by repeat (first | (with_reducible first | exact HB.out | apply below_alloc | apply pw_below_drewN | apply below_drew1) | exact HB.out)) hb); clear HB; have HB := n0_; clear n0_; (try clear hb); (try clear hb2); (try clear hk); (try clear hi)) | ((with_reducible refine gate_callee (f := 13) rfl ?_); refine goesL_ (some 29) rfl rfl Try.func13 (by kernel_rfl) rfl #[.string ((x1_1 ++ (⟨#[47]⟩ : ByteArray)) ++ (x1_1.extract 0 27))] rfl (by (try simp only [List.map_toArray, List.map_cons, List.map_nil]); first | done | rfl | (simp only [List.length_drop, List.length_take]; rfl)) ?_; (with_reducible refine (path_Norm.calls k1 ((x1_1 ++ (⟨#[47]⟩ : ByteArray)) ++ (x1_1.extract 0 27)) t190 t191 _ A12.out).mono ?_); rintro e w25 ⟨rfl, hb⟩; refine ⟨_, rfl, ?_⟩; have n0_ := Aside0.mk (below_step (by repeat (first | (with_reducible first | exact HB.out | apply below_alloc | apply pw_below_drewN | apply below_drew1) | exact HB.out)) hb); clear HB; have HB := n0_; clear n0_; (try clear hb); (try clear hb2); (try clear hk); (try clear hi)) | (go_at_call 15; (with_reducible refine (path_Is.calls k1 x1_1 true _ A13.out).mono ?_); rintro e w' ⟨rfl, ⟨nd, rfl⟩⟩) | (go_at_call 15; (with_reducible refine (path_Is.calls k1 (x1_1 ++ (⟨#[97]⟩ : ByteArray)) false _ A15.out).mono ?_); rintro e w' ⟨rfl, ⟨nd, rfl⟩⟩) | (go_at_call 15; (with_reducible refine (path_Is.calls k1 ((x1_1 ++ (⟨#[47]⟩ : ByteArray)) ++ (x1_1.extract 0 27)) true _ A20.out).mono ?_); rintro e w' ⟨rfl, ⟨nd, rfl⟩⟩) | (go_at_call 15; (with_reducible refine (path_Is.calls k1 (((x1_1 ++ (⟨#[47]⟩ : ByteArray)) ++ (x1_1.extract 0 27)) ++ (⟨#[97]⟩ : ByteArray)) true _ A22.out).mono ?_); rintro e w' ⟨rfl, ⟨nd, rfl⟩⟩))
                              go_ret
                              exact ⟨by first | rfl | (simp [errW_none, errW_some] <;> rfl) | (simp [*, errW_none, errW_some] <;> rfl), by repeat (first | (with_reducible first | exact HB.out | apply below_alloc | apply pw_below_drewN | apply below_drew1) | exact HB.out)⟩
                            · replace c23 := Bool.eq_false_iff.mpr c23
                              subst c23
                              have H1 : (if t189 = 3 then (if t190.toList = ((x1_1 ++ (⟨#[47]⟩ : ByteArray)) ++ (x1_1.extract 0 27)).toList then (some (t191 == 0)) else (some false)) else (some false)) = some r := by rw [if_neg (show ¬ (false = true) by decide)] at H; exact H
                              clear H
                              have H := H1
                              clear H1
                              by_cases c26 : t189 = 3
                              · rw [if_pos c26] at H
                                have c26b0 : (t189 == 3) = true := beq_iff_eq.mpr c26
                                have c26b1 : (t189 != 3) = false := bne_eq_false_iff_eq.mpr c26
                                clear c26
                                by_cases c27 : t190.toList = ((x1_1 ++ (⟨#[47]⟩ : ByteArray)) ++ (x1_1.extract 0 27)).toList
                                · rw [if_pos c27] at H
                                  have c27b0 : (t190.toList == ((x1_1 ++ (⟨#[47]⟩ : ByteArray)) ++ (x1_1.extract 0 27)).toList) = true := beq_iff_eq.mpr c27
                                  have c27b1 : (t190.toList != ((x1_1 ++ (⟨#[47]⟩ : ByteArray)) ++ (x1_1.extract 0 27)).toList) = false := bne_eq_false_iff_eq.mpr c27
                                  clear c27
                                  obtain rfl := Option.some.inj H
                                  go_wp2_with (first | ((with_reducible refine gate_callee (f := 13) rfl ?_); refine goesL_ (some 24) rfl rfl Try.func13 (by kernel_rfl) rfl #[.string (((x1_1 ++ (⟨#[47]⟩ : ByteArray)) ++ (x1_1.extract 0 27)) ++ (⟨#[97]⟩ : ByteArray))] rfl (by (try simp only [List.map_toArray, List.map_cons, List.map_nil]); first | done | rfl | (simp only [List.length_drop, List.length_take]; rfl)) ?_; (with_reducible refine (path_Norm.calls k1 (((x1_1 ++ (⟨#[47]⟩ : ByteArray)) ++ (x1_1.extract 0 27)) ++ (⟨#[97]⟩ : ByteArray)) t188 t189 _ A11.out).mono ?_); rintro e w28 ⟨rfl, hb⟩; refine ⟨_, rfl, ?_⟩; have n0_ := Aside0.mk (below_step (by repeat (first | (with_reducible first | exact HB.out | apply below_alloc | apply pw_below_drewN | apply below_drew1) | exact HB.out)) hb); clear HB; have HB := n0_; clear n0_; (try clear hb); (try clear hb2); (try clear hk); (try clear hi)) | ((with_reducible refine gate_callee (f := 13) rfl ?_); refine goesL_ (some 29) rfl rfl Try.func13 (by kernel_rfl) rfl #[.string ((x1_1 ++ (⟨#[47]⟩ : ByteArray)) ++ (x1_1.extract 0 27))] rfl (by (try simp only [List.map_toArray, List.map_cons, List.map_nil]); first | done | rfl | (simp only [List.length_drop, List.length_take]; rfl)) ?_; (with_reducible refine (path_Norm.calls k1 ((x1_1 ++ (⟨#[47]⟩ : ByteArray)) ++ (x1_1.extract 0 27)) t190 t191 _ A12.out).mono ?_); rintro e w29 ⟨rfl, hb⟩; refine ⟨_, rfl, ?_⟩; have n0_ := Aside0.mk (below_step (by repeat (first | (with_reducible first | exact HB.out | apply below_alloc | apply pw_below_drewN | apply below_drew1) | exact HB.out)) hb); clear HB; have HB := n0_; clear n0_; (try clear hb); (try clear hb2); (try clear hk); (try clear hi)) | (go_at_call 15; (with_reducible refine (path_Is.calls k1 x1_1 true _ A13.out).mono ?_); rintro e w' ⟨rfl, ⟨nd, rfl⟩⟩) | (go_at_call 15; (with_reducible refine (path_Is.calls k1 (x1_1 ++ (⟨#[97]⟩ : ByteArray)) false _ A15.out).mono ?_); rintro e w' ⟨rfl, ⟨nd, rfl⟩⟩) | (go_at_call 15; (with_reducible refine (path_Is.calls k1 ((x1_1 ++ (⟨#[47]⟩ : ByteArray)) ++ (x1_1.extract 0 27)) true _ A20.out).mono ?_); rintro e w' ⟨rfl, ⟨nd, rfl⟩⟩) | (go_at_call 15; (with_reducible refine (path_Is.calls k1 (((x1_1 ++ (⟨#[47]⟩ : ByteArray)) ++ (x1_1.extract 0 27)) ++ (⟨#[97]⟩ : ByteArray)) false _ A22.out).mono ?_); rintro e w' ⟨rfl, ⟨nd, rfl⟩⟩))
                                  go_ret
                                  exact ⟨by first | rfl | (simp [errW_none, errW_some] <;> rfl) | (simp [*, errW_none, errW_some] <;> rfl), by repeat (first | (with_reducible first | exact HB.out | apply below_alloc | apply pw_below_drewN | apply below_drew1) | exact HB.out)⟩
                                · rw [if_neg c27] at H
                                  have c27b0 : (t190.toList == ((x1_1 ++ (⟨#[47]⟩ : ByteArray)) ++ (x1_1.extract 0 27)).toList) = false := beq_eq_false_iff_ne.mpr c27
                                  have c27b1 : (t190.toList != ((x1_1 ++ (⟨#[47]⟩ : ByteArray)) ++ (x1_1.extract 0 27)).toList) = true := bne_iff_ne.mpr c27
                                  obtain rfl := Option.some.inj H
                                  go_wp2_with (first | ((with_reducible refine gate_callee (f := 13) rfl ?_); refine goesL_ (some 24) rfl rfl Try.func13 (by kernel_rfl) rfl #[.string (((x1_1 ++ (⟨#[47]⟩ : ByteArray)) ++ (x1_1.extract 0 27)) ++ (⟨#[97]⟩ : ByteArray))] rfl (by (try simp only [List.map_toArray, List.map_cons, List.map_nil]); first | done | rfl | (simp only [List.length_drop, List.length_take]; rfl)) ?_; (with_reducible refine (path_Norm.calls k1 (((x1_1 ++ (⟨#[47]⟩ : ByteArray)) ++ (x1_1.extract 0 27)) ++ (⟨#[97]⟩ : ByteArray)) t188 t189 _ A11.out).mono ?_); rintro e w30 ⟨rfl, hb⟩; refine ⟨_, rfl, ?_⟩; have n0_ := Aside0.mk (below_step (by repeat (first | (with_reducible first | exact HB.out | apply below_alloc | apply pw_below_drewN | apply below_drew1) | exact HB.out)) hb); clear HB; have HB := n0_; clear n0_; (try clear hb); (try clear hb2); (try clear hk); (try clear hi)) | ((with_reducible refine gate_callee (f := 13) rfl ?_); refine goesL_ (some 29) rfl rfl Try.func13 (by kernel_rfl) rfl #[.string ((x1_1 ++ (⟨#[47]⟩ : ByteArray)) ++ (x1_1.extract 0 27))] rfl (by (try simp only [List.map_toArray, List.map_cons, List.map_nil]); first | done | rfl | (simp only [List.length_drop, List.length_take]; rfl)) ?_; (with_reducible refine (path_Norm.calls k1 ((x1_1 ++ (⟨#[47]⟩ : ByteArray)) ++ (x1_1.extract 0 27)) t190 t191 _ A12.out).mono ?_); rintro e w31 ⟨rfl, hb⟩; refine ⟨_, rfl, ?_⟩; have n0_ := Aside0.mk (below_step (by repeat (first | (with_reducible first | exact HB.out | apply below_alloc | apply pw_below_drewN | apply below_drew1) | exact HB.out)) hb); clear HB; have HB := n0_; clear n0_; (try clear hb); (try clear hb2); (try clear hk); (try clear hi)) | (go_at_call 15; (with_reducible refine (path_Is.calls k1 x1_1 true _ A13.out).mono ?_); rintro e w' ⟨rfl, ⟨nd, rfl⟩⟩) | (go_at_call 15; (with_reducible refine (path_Is.calls k1 (x1_1 ++ (⟨#[97]⟩ : ByteArray)) false _ A15.out).mono ?_); rintro e w' ⟨rfl, ⟨nd, rfl⟩⟩) | (go_at_call 15; (with_reducible refine (path_Is.calls k1 ((x1_1 ++ (⟨#[47]⟩ : ByteArray)) ++ (x1_1.extract 0 27)) true _ A20.out).mono ?_); rintro e w' ⟨rfl, ⟨nd, rfl⟩⟩) | (go_at_call 15; (with_reducible refine (path_Is.calls k1 (((x1_1 ++ (⟨#[47]⟩ : ByteArray)) ++ (x1_1.extract 0 27)) ++ (⟨#[97]⟩ : ByteArray)) false _ A22.out).mono ?_); rintro e w' ⟨rfl, ⟨nd, rfl⟩⟩))
                                  go_ret
                                  exact ⟨by first | rfl | (simp [errW_none, errW_some] <;> rfl) | (simp [*, errW_none, errW_some] <;> rfl), by repeat (first | (with_reducible first | exact HB.out | apply below_alloc | apply pw_below_drewN | apply below_drew1) | exact HB.out)⟩
                              · rw [if_neg c26] at H
                                have c26b0 : (t189 == 3) = false := beq_eq_false_iff_ne.mpr c26
                                have c26b1 : (t189 != 3) = true := bne_iff_ne.mpr c26
                                obtain rfl := Option.some.inj H
                                go_wp2_with (first | ((with_reducible refine gate_callee (f := 13) rfl ?_); refine goesL_ (some 24) rfl rfl Try.func13 (by kernel_rfl) rfl #[.string (((x1_1 ++ (⟨#[47]⟩ : ByteArray)) ++ (x1_1.extract 0 27)) ++ (⟨#[97]⟩ : ByteArray))] rfl (by (try simp only [List.map_toArray, List.map_cons, List.map_nil]); first | done | rfl | (simp only [List.length_drop, List.length_take]; rfl)) ?_; (with_reducible refine (path_Norm.calls k1 (((x1_1 ++ (⟨#[47]⟩ : ByteArray)) ++ (x1_1.extract 0 27)) ++ (⟨#[97]⟩ : ByteArray)) t188 t189 _ A11.out).mono ?_); rintro e w32 ⟨rfl, hb⟩; refine ⟨_, rfl, ?_⟩; have n0_ := Aside0.mk (below_step (by repeat (first | (with_reducible first | exact HB.out | apply below_alloc | apply pw_below_drewN | apply below_drew1) | exact HB.out)) hb); clear HB; have HB := n0_; clear n0_; (try clear hb); (try clear hb2); (try clear hk); (try clear hi)) | ((with_reducible refine gate_callee (f := 13) rfl ?_); refine goesL_ (some 29) rfl rfl Try.func13 (by kernel_rfl) rfl #[.string ((x1_1 ++ (⟨#[47]⟩ : ByteArray)) ++ (x1_1.extract 0 27))] rfl (by (try simp only [List.map_toArray, List.map_cons, List.map_nil]); first | done | rfl | (simp only [List.length_drop, List.length_take]; rfl)) ?_; (with_reducible refine (path_Norm.calls k1 ((x1_1 ++ (⟨#[47]⟩ : ByteArray)) ++ (x1_1.extract 0 27)) t190 t191 _ A12.out).mono ?_); rintro e w33 ⟨rfl, hb⟩; refine ⟨_, rfl, ?_⟩; have n0_ := Aside0.mk (below_step (by repeat (first | (with_reducible first | exact HB.out | apply below_alloc | apply pw_below_drewN | apply below_drew1) | exact HB.out)) hb); clear HB; have HB := n0_; clear n0_; (try clear hb); (try clear hb2); (try clear hk); (try clear hi)) | (go_at_call 15; (with_reducible refine (path_Is.calls k1 x1_1 true _ A13.out).mono ?_); rintro e w' ⟨rfl, ⟨nd, rfl⟩⟩) | (go_at_call 15; (with_reducible refine (path_Is.calls k1 (x1_1 ++ (⟨#[97]⟩ : ByteArray)) false _ A15.out).mono ?_); rintro e w' ⟨rfl, ⟨nd, rfl⟩⟩) | (go_at_call 15; (with_reducible refine (path_Is.calls k1 ((x1_1 ++ (⟨#[47]⟩ : ByteArray)) ++ (x1_1.extract 0 27)) true _ A20.out).mono ?_); rintro e w' ⟨rfl, ⟨nd, rfl⟩⟩) | (go_at_call 15; (with_reducible refine (path_Is.calls k1 (((x1_1 ++ (⟨#[47]⟩ : ByteArray)) ++ (x1_1.extract 0 27)) ++ (⟨#[97]⟩ : ByteArray)) false _ A22.out).mono ?_); rintro e w' ⟨rfl, ⟨nd, rfl⟩⟩))
                                go_ret
                                exact ⟨by first | rfl | (simp [errW_none, errW_some] <;> rfl) | (simp [*, errW_none, errW_some] <;> rfl), by repeat (first | (with_reducible first | exact HB.out | apply below_alloc | apply pw_below_drewN | apply below_drew1) | exact HB.out)⟩
                          · replace c21 := Bool.eq_false_iff.mpr c21
                            subst c21
                            have H1 : (some false) = some r := by rw [if_neg (show ¬ (false = true) by decide)] at H; exact H
                            clear H
                            have H := H1
                            clear H1
                            obtain rfl := Option.some.inj H
                            go_wp2_with (first | ((with_reducible refine gate_callee (f := 13) rfl ?_); refine goesL_ (some 24) rfl rfl Try.func13 (by kernel_rfl) rfl #[.string (((x1_1 ++ (⟨#[47]⟩ : ByteArray)) ++ (x1_1.extract 0 27)) ++ (⟨#[97]⟩ : ByteArray))] rfl (by (try simp only [List.map_toArray, List.map_cons, List.map_nil]); first | done | rfl | (simp only [List.length_drop, List.length_take]; rfl)) ?_; (with_reducible refine (path_Norm.calls k1 (((x1_1 ++ (⟨#[47]⟩ : ByteArray)) ++ (x1_1.extract 0 27)) ++ (⟨#[97]⟩ : ByteArray)) t188 t189 _ A11.out).mono ?_); rintro e w34 ⟨rfl, hb⟩; refine ⟨_, rfl, ?_⟩; have n0_ := Aside0.mk (below_step (by repeat (first | (with_reducible first | exact HB.out | apply below_alloc | apply pw_below_drewN | apply below_drew1) | exact HB.out)) hb); clear HB; have HB := n0_; clear n0_; (try clear hb); (try clear hb2); (try clear hk); (try clear hi)) | ((with_reducible refine gate_callee (f := 13) rfl ?_); refine goesL_ (some 29) rfl rfl Try.func13 (by kernel_rfl) rfl #[.string ((x1_1 ++ (⟨#[47]⟩ : ByteArray)) ++ (x1_1.extract 0 27))] rfl (by (try simp only [List.map_toArray, List.map_cons, List.map_nil]); first | done | rfl | (simp only [List.length_drop, List.length_take]; rfl)) ?_; (with_reducible refine (path_Norm.calls k1 ((x1_1 ++ (⟨#[47]⟩ : ByteArray)) ++ (x1_1.extract 0 27)) t190 t191 _ A12.out).mono ?_); rintro e w35 ⟨rfl, hb⟩; refine ⟨_, rfl, ?_⟩; have n0_ := Aside0.mk (below_step (by repeat (first | (with_reducible first | exact HB.out | apply below_alloc | apply pw_below_drewN | apply below_drew1) | exact HB.out)) hb); clear HB; have HB := n0_; clear n0_; (try clear hb); (try clear hb2); (try clear hk); (try clear hi)) | (go_at_call 15; (with_reducible refine (path_Is.calls k1 x1_1 true _ A13.out).mono ?_); rintro e w' ⟨rfl, ⟨nd, rfl⟩⟩) | (go_at_call 15; (with_reducible refine (path_Is.calls k1 (x1_1 ++ (⟨#[97]⟩ : ByteArray)) false _ A15.out).mono ?_); rintro e w' ⟨rfl, ⟨nd, rfl⟩⟩) | (go_at_call 15; (with_reducible refine (path_Is.calls k1 ((x1_1 ++ (⟨#[47]⟩ : ByteArray)) ++ (x1_1.extract 0 27)) false _ A20.out).mono ?_); rintro e w' ⟨rfl, ⟨nd, rfl⟩⟩))
                            go_ret
                            exact ⟨by first | rfl | (simp [errW_none, errW_some] <;> rfl) | (simp [*, errW_none, errW_some] <;> rfl), by repeat (first | (with_reducible first | exact HB.out | apply below_alloc | apply pw_below_drewN | apply below_drew1) | exact HB.out)⟩
                        · rw [if_neg c19] at H
                          have c19b0 : ((((x1_1 ++ (⟨#[47]⟩ : ByteArray)) ++ (x1_1.extract 0 27)).size : Int) == 60) = false := beq_eq_false_iff_ne.mpr c19
                          try (have c19b0e := c19b0; simp only [ByteArray.size_append, ByteArray.size_extract, Nat.sub_zero, Nat.min_self, Int.natCast_add, show (⟨#[47]⟩ : ByteArray).size = 1 from rfl, show ((1 : Nat) : Int) = 1 from rfl] at c19b0e)
                          have c19b1 : ((((x1_1 ++ (⟨#[47]⟩ : ByteArray)) ++ (x1_1.extract 0 27)).size : Int) != 60) = true := bne_iff_ne.mpr c19
                          try (have c19b1e := c19b1; simp only [ByteArray.size_append, ByteArray.size_extract, Nat.sub_zero, Nat.min_self, Int.natCast_add, show (⟨#[47]⟩ : ByteArray).size = 1 from rfl, show ((1 : Nat) : Int) = 1 from rfl] at c19b1e)
                          obtain rfl := Option.some.inj H
                          go_wp2_with (first | ((with_reducible refine gate_callee (f := 13) rfl ?_); refine goesL_ (some 24) rfl rfl Try.func13 (by kernel_rfl) rfl #[.string (((x1_1 ++ (⟨#[47]⟩ : ByteArray)) ++ (x1_1.extract 0 27)) ++ (⟨#[97]⟩ : ByteArray))] rfl (by (try simp only [List.map_toArray, List.map_cons, List.map_nil]); first | done | rfl | (simp only [List.length_drop, List.length_take]; rfl)) ?_; (with_reducible refine (path_Norm.calls k1 (((x1_1 ++ (⟨#[47]⟩ : ByteArray)) ++ (x1_1.extract 0 27)) ++ (⟨#[97]⟩ : ByteArray)) t188 t189 _ A11.out).mono ?_); rintro e w36 ⟨rfl, hb⟩; refine ⟨_, rfl, ?_⟩; have n0_ := Aside0.mk (below_step (by repeat (first | (with_reducible first | exact HB.out | apply below_alloc | apply pw_below_drewN | apply below_drew1) | exact HB.out)) hb); clear HB; have HB := n0_; clear n0_; (try clear hb); (try clear hb2); (try clear hk); (try clear hi)) | ((with_reducible refine gate_callee (f := 13) rfl ?_); refine goesL_ (some 29) rfl rfl Try.func13 (by kernel_rfl) rfl #[.string ((x1_1 ++ (⟨#[47]⟩ : ByteArray)) ++ (x1_1.extract 0 27))] rfl (by (try simp only [List.map_toArray, List.map_cons, List.map_nil]); first | done | rfl | (simp only [List.length_drop, List.length_take]; rfl)) ?_; (with_reducible refine (path_Norm.calls k1 ((x1_1 ++ (⟨#[47]⟩ : ByteArray)) ++ (x1_1.extract 0 27)) t190 t191 _ A12.out).mono ?_); rintro e w37 ⟨rfl, hb⟩; refine ⟨_, rfl, ?_⟩; have n0_ := Aside0.mk (below_step (by repeat (first | (with_reducible first | exact HB.out | apply below_alloc | apply pw_below_drewN | apply below_drew1) | exact HB.out)) hb); clear HB; have HB := n0_; clear n0_; (try clear hb); (try clear hb2); (try clear hk); (try clear hi)) | (go_at_call 15; (with_reducible refine (path_Is.calls k1 x1_1 true _ A13.out).mono ?_); rintro e w' ⟨rfl, ⟨nd, rfl⟩⟩) | (go_at_call 15; (with_reducible refine (path_Is.calls k1 (x1_1 ++ (⟨#[97]⟩ : ByteArray)) false _ A15.out).mono ?_); rintro e w' ⟨rfl, ⟨nd, rfl⟩⟩))
                          go_ret
                          exact ⟨by first | rfl | (simp [errW_none, errW_some] <;> rfl) | (simp [*, errW_none, errW_some] <;> rfl), by repeat (first | (with_reducible first | exact HB.out | apply below_alloc | apply pw_below_drewN | apply below_drew1) | exact HB.out)⟩
                    · replace c14 := Bool.eq_false_iff.mpr c14
                      subst c14
                      have H1 : (some false) = some r := by rw [if_neg (show ¬ (false = true) by decide)] at H; exact H
                      clear H
                      have H := H1
                      clear H1
                      obtain rfl := Option.some.inj H
                      go_wp2_with (first | ((with_reducible refine gate_callee (f := 13) rfl ?_); refine goesL_ (some 24) rfl rfl Try.func13 (by kernel_rfl) rfl #[.string (((x1_1 ++ (⟨#[47]⟩ : ByteArray)) ++ (x1_1.extract 0 27)) ++ (⟨#[97]⟩ : ByteArray))] rfl (by (try simp only [List.map_toArray, List.map_cons, List.map_nil]); first | done | rfl | (simp only [List.length_drop, List.length_take]; rfl)) ?_; (with_reducible refine (path_Norm.calls k1 (((x1_1 ++ (⟨#[47]⟩ : ByteArray)) ++ (x1_1.extract 0 27)) ++ (⟨#[97]⟩ : ByteArray)) t188 t189 _ A11.out).mono ?_); rintro e w38 ⟨rfl, hb⟩; refine ⟨_, rfl, ?_⟩; have n0_ := Aside0.mk (below_step (by repeat (first | (with_reducible first | exact HB.out | apply below_alloc | apply pw_below_drewN | apply below_drew1) | exact HB.out)) hb); clear HB; have HB := n0_; clear n0_; (try clear hb); (try clear hb2); (try clear hk); (try clear hi)) | ((with_reducible refine gate_callee (f := 13) rfl ?_); refine goesL_ (some 29) rfl rfl Try.func13 (by kernel_rfl) rfl #[.string ((x1_1 ++ (⟨#[47]⟩ : ByteArray)) ++ (x1_1.extract 0 27))] rfl (by (try simp only [List.map_toArray, List.map_cons, List.map_nil]); first | done | rfl | (simp only [List.length_drop, List.length_take]; rfl)) ?_; (with_reducible refine (path_Norm.calls k1 ((x1_1 ++ (⟨#[47]⟩ : ByteArray)) ++ (x1_1.extract 0 27)) t190 t191 _ A12.out).mono ?_); rintro e w39 ⟨rfl, hb⟩; refine ⟨_, rfl, ?_⟩; have n0_ := Aside0.mk (below_step (by repeat (first | (with_reducible first | exact HB.out | apply below_alloc | apply pw_below_drewN | apply below_drew1) | exact HB.out)) hb); clear HB; have HB := n0_; clear n0_; (try clear hb); (try clear hb2); (try clear hk); (try clear hi)) | (go_at_call 15; (with_reducible refine (path_Is.calls k1 x1_1 false _ A13.out).mono ?_); rintro e w' ⟨rfl, ⟨nd, rfl⟩⟩))
                      go_ret
                      exact ⟨by first | rfl | (simp [errW_none, errW_some] <;> rfl) | (simp [*, errW_none, errW_some] <;> rfl), by repeat (first | (with_reducible first | exact HB.out | apply below_alloc | apply pw_below_drewN | apply below_drew1) | exact HB.out)⟩
                  · rw [if_neg c10] at H
                    exact absurd H (by simp)
                · rw [if_neg c9] at H
                  exact absurd H (by simp)
              · rw [if_neg c8] at H
                exact absurd H (by simp)
            · rw [if_neg c7] at H
              exact absurd H (by simp)
          · rw [if_neg c6] at H
            exact absurd H (by simp)
  · replace c2 := Bool.eq_false_iff.mpr c2
    subst c2
    have H1 : (some false) = some r := by rw [if_neg (show ¬ (false = true) by decide)] at H; exact H
    clear H
    have H := H1
    clear H1
    obtain rfl := Option.some.inj H
    go_enter Try.func5, Try.ntmps5
    go_wp2_with (first | ((with_reducible refine gate_callee (f := 11) rfl ?_); refine goesL_ (some 8) rfl rfl Try.func11 (by kernel_rfl) rfl #[] rfl (by (try simp only [List.map_toArray, List.map_cons, List.map_nil]); first | done | rfl | (simp only [List.length_drop, List.length_take]; rfl)) ?_; (with_reducible refine (brickyardlaw09_works.calls  false _ A1.out).mono ?_); rintro e w40 ⟨rfl, hb⟩; refine ⟨_, rfl, ?_⟩; have n0_ := Aside0.mk (below_step (by repeat (first | (with_reducible first | exact HB.out | apply below_alloc | apply pw_below_drewN | apply below_drew1) | exact HB.out)) hb); clear HB; have HB := n0_; clear n0_; (try clear hb); (try clear hb2); (try clear hk); (try clear hi)))
    go_ret
    exact ⟨by first | rfl | (simp [errW_none, errW_some] <;> rfl) | (simp [*, errW_none, errW_some] <;> rfl), by repeat (first | (with_reducible first | exact HB.out | apply below_alloc | apply pw_below_drewN | apply below_drew1) | exact HB.out)⟩

/-- THE ONE PURE STATEMENT of brickyardlaw09_PathNames: yours. -/
def brickyardlaw09_PathNames.Pure : Prop := ∃ k, brickyardlaw09_PathNames.f k  = some true
theorem brickyardlaw09_PathNames.walk (P : brickyardlaw09_PathNames.Pure)  (w : World)  :
    Calls Try.prog 5 #[] w fun e w' => e = .returned (.bool true) ∧ Below w.heap.size w w' := by
  obtain ⟨k, h⟩ := P  
  refine (brickyardlaw09_PathNames.calls k  true w h).mono ?_
  rintro e w' ⟨rfl, hd⟩
  exact ⟨rfl, hd⟩

end Go.Proofs.Ytpphdmpnnnimdaa.P
