/- The functions that the laws of this seat come to, as plain Lean functions, each with the proof that the machine's call comes to it. -/
import Derived.Test.YtpphdmpnnnimdaaDoorPx0
import Derived.Test.YtpphdmpnnnimdaaDoorPxf12
import Derived.Test.YtpphdmpnnnimdaaDoorPxf13
import Derived.Test.YtpphdmpnnnimdaaDoorPxf14
import Derived.Test.YtpphdmpnnnimdaaDoorPxf15
namespace Go.Proofs.YtpphdmpnnnimdaaDoor.P
open Go.RowKit Go.Proofs.YtpphdmpnnnimdaaDoorW.PrintWords Go.Proofs.YtpphdmpnnnimdaaDoorW.PrintLast Go.Proofs.YtpphdmpnnnimdaaDoorW.PrintMore
attribute [local go_sem] max2_int min2_int max_two min_two max_three min_three max_four min_four   -- for this text's walks alone
set_option linter.unusedVariables false
set_option linter.unusedSimpArgs false

/-! ### path_Match: function 8 -/
def path_Match.f (a0 : ByteArray) (a1 : ByteArray) : Option (ByteArray × Bool) := (strings_Cut.f a0 (⟨#[37]⟩ : ByteArray)).bind fun bt129 => (if bt129.2.2 = true then ((strings_Contains.f bt129.2.1 (⟨#[37]⟩ : ByteArray)).bind fun t132 => (if t132 = true then (some ((⟨#[]⟩ : ByteArray), false)) else (if (a1.size : Int) ≤ (wrap64 ((bt129.1.size : Int) + (bt129.2.1.size : Int))) then (some ((⟨#[]⟩ : ByteArray), false)) else ((strings_HasPrefix.f a1 bt129.1).bind fun t133 => (if t133 = true then ((strings_HasSuffix.f a1 bt129.2.1).bind fun t134 => (if t134 = true then (if 0 ≤ (bt129.1.size : Int) then (if (bt129.1.size : Int) ≤ (wrap64 ((a1.size : Int) - (bt129.2.1.size : Int))) then (if (wrap64 ((a1.size : Int) - (bt129.2.1.size : Int))) ≤ (a1.size : Int) then (some (a1.extract ((bt129.1.size : Int) : Int).toNat ((wrap64 ((a1.size : Int) - (bt129.2.1.size : Int))) : Int).toNat, true)) else (none)) else (none)) else (none)) else (some ((⟨#[]⟩ : ByteArray), false)))) else (some ((⟨#[]⟩ : ByteArray), false))))))) else (some ((⟨#[]⟩ : ByteArray), (a0.toList == a1.toList))))
set_option maxHeartbeats 8000000 in
set_option maxRecDepth 100000 in
theorem path_Match.calls (a0 : ByteArray) (a1 : ByteArray) (r1 : ByteArray) (r2 : Bool) (w : World) (h : path_Match.f a0 a1 = some (r1, r2)) :
    Calls Tryd.prog 8 #[.string a0, .string a1] w fun e w' => e = .returned (.tuple #[.string r1, .bool r2]) ∧ Drawn0 w w' := by
  have H : ((strings_Cut.f a0 (⟨#[37]⟩ : ByteArray)).bind fun bt129 => (if bt129.2.2 = true then ((strings_Contains.f bt129.2.1 (⟨#[37]⟩ : ByteArray)).bind fun t132 => (if t132 = true then (some ((⟨#[]⟩ : ByteArray), false)) else (if (a1.size : Int) ≤ (wrap64 ((bt129.1.size : Int) + (bt129.2.1.size : Int))) then (some ((⟨#[]⟩ : ByteArray), false)) else ((strings_HasPrefix.f a1 bt129.1).bind fun t133 => (if t133 = true then ((strings_HasSuffix.f a1 bt129.2.1).bind fun t134 => (if t134 = true then (if 0 ≤ (bt129.1.size : Int) then (if (bt129.1.size : Int) ≤ (wrap64 ((a1.size : Int) - (bt129.2.1.size : Int))) then (if (wrap64 ((a1.size : Int) - (bt129.2.1.size : Int))) ≤ (a1.size : Int) then (some (a1.extract ((bt129.1.size : Int) : Int).toNat ((wrap64 ((a1.size : Int) - (bt129.2.1.size : Int))) : Int).toNat, true)) else (none)) else (none)) else (none)) else (some ((⟨#[]⟩ : ByteArray), false)))) else (some ((⟨#[]⟩ : ByteArray), false))))))) else (some ((⟨#[]⟩ : ByteArray), (a0.toList == a1.toList))))) = some (r1, r2) := h
  clear h
  replace H := Option.bind_eq_some_iff.mp H
  obtain ⟨⟨t129, t130, t131⟩, A30, H⟩ := H
  replace H : (if t131 = true then ((strings_Contains.f t130 (⟨#[37]⟩ : ByteArray)).bind fun t132 => (if t132 = true then (some ((⟨#[]⟩ : ByteArray), false)) else (if (a1.size : Int) ≤ (wrap64 ((t129.size : Int) + (t130.size : Int))) then (some ((⟨#[]⟩ : ByteArray), false)) else ((strings_HasPrefix.f a1 t129).bind fun t133 => (if t133 = true then ((strings_HasSuffix.f a1 t130).bind fun t134 => (if t134 = true then (if 0 ≤ (t129.size : Int) then (if (t129.size : Int) ≤ (wrap64 ((a1.size : Int) - (t130.size : Int))) then (if (wrap64 ((a1.size : Int) - (t130.size : Int))) ≤ (a1.size : Int) then (some (a1.extract ((t129.size : Int) : Int).toNat ((wrap64 ((a1.size : Int) - (t130.size : Int))) : Int).toNat, true)) else (none)) else (none)) else (none)) else (some ((⟨#[]⟩ : ByteArray), false)))) else (some ((⟨#[]⟩ : ByteArray), false))))))) else (some ((⟨#[]⟩ : ByteArray), (a0.toList == a1.toList)))) = some (r1, r2) := H
  have A3 := Aside0.mk A30
  clear A30
  by_cases c4 : t131 = true
  · subst c4
    have H1 : ((strings_Contains.f t130 (⟨#[37]⟩ : ByteArray)).bind fun t132 => (if t132 = true then (some ((⟨#[]⟩ : ByteArray), false)) else (if (a1.size : Int) ≤ (wrap64 ((t129.size : Int) + (t130.size : Int))) then (some ((⟨#[]⟩ : ByteArray), false)) else ((strings_HasPrefix.f a1 t129).bind fun t133 => (if t133 = true then ((strings_HasSuffix.f a1 t130).bind fun t134 => (if t134 = true then (if 0 ≤ (t129.size : Int) then (if (t129.size : Int) ≤ (wrap64 ((a1.size : Int) - (t130.size : Int))) then (if (wrap64 ((a1.size : Int) - (t130.size : Int))) ≤ (a1.size : Int) then (some (a1.extract ((t129.size : Int) : Int).toNat ((wrap64 ((a1.size : Int) - (t130.size : Int))) : Int).toNat, true)) else (none)) else (none)) else (none)) else (some ((⟨#[]⟩ : ByteArray), false)))) else (some ((⟨#[]⟩ : ByteArray), false))))))) = some (r1, r2) := by rw [if_pos rfl] at H; exact H
    clear H
    have H := H1
    clear H1
    replace H := Option.bind_eq_some_iff.mp H
    obtain ⟨t132, A50, H⟩ := H
    replace H : (if t132 = true then (some ((⟨#[]⟩ : ByteArray), false)) else (if (a1.size : Int) ≤ (wrap64 ((t129.size : Int) + (t130.size : Int))) then (some ((⟨#[]⟩ : ByteArray), false)) else ((strings_HasPrefix.f a1 t129).bind fun t133 => (if t133 = true then ((strings_HasSuffix.f a1 t130).bind fun t134 => (if t134 = true then (if 0 ≤ (t129.size : Int) then (if (t129.size : Int) ≤ (wrap64 ((a1.size : Int) - (t130.size : Int))) then (if (wrap64 ((a1.size : Int) - (t130.size : Int))) ≤ (a1.size : Int) then (some (a1.extract ((t129.size : Int) : Int).toNat ((wrap64 ((a1.size : Int) - (t130.size : Int))) : Int).toNat, true)) else (none)) else (none)) else (none)) else (some ((⟨#[]⟩ : ByteArray), false)))) else (some ((⟨#[]⟩ : ByteArray), false)))))) = some (r1, r2) := H
    have A5 := Aside0.mk A50
    clear A50
    by_cases c6 : t132 = true
    · subst c6
      have H1 : (some ((⟨#[]⟩ : ByteArray), false)) = some (r1, r2) := by rw [if_pos rfl] at H; exact H
      clear H
      have H := H1
      clear H1
      simp only [Option.some.injEq, Prod.mk.injEq] at H
      obtain ⟨rfl, rfl⟩ := H
      go_enter Tryd.func8, Tryd.ntmps8
      go_wp2_with (first | ((with_reducible refine gate_callee (f := 12) rfl ?_); refine goesL_ (some 11) rfl rfl Tryd.func12 (by kernel_rfl) rfl #[.string a0, .string (⟨#[37]⟩ : ByteArray)] rfl (by (try simp only [List.map_toArray, List.map_cons, List.map_nil]); first | done | rfl | (simp only [List.length_drop, List.length_take]; rfl)) ?_; (with_reducible refine (strings_Cut.calls a0 (⟨#[37]⟩ : ByteArray) t129 t130 true _ A3.out).mono ?_); rintro e w' ⟨rfl, ⟨nd, rfl⟩⟩; refine ⟨_, rfl, ?_⟩) | ((with_reducible refine gate_callee (f := 13) rfl ?_); refine goesL_ (some 21) rfl rfl Tryd.func13 (by kernel_rfl) rfl #[.string t130, .string (⟨#[37]⟩ : ByteArray)] rfl (by (try simp only [List.map_toArray, List.map_cons, List.map_nil]); first | done | rfl | (simp only [List.length_drop, List.length_take]; rfl)) ?_; (with_reducible refine (strings_Contains.calls t130 (⟨#[37]⟩ : ByteArray) true _ A5.out).mono ?_); rintro e w' ⟨rfl, ⟨nd, rfl⟩⟩; refine ⟨_, rfl, ?_⟩))
      go_ret2
      exact ⟨by first | rfl | (simp; done) | (simp [*]; done), by repeat (first | exact Drawn0.refl _ | apply Drawn0.step)⟩
    · replace c6 := Bool.eq_false_iff.mpr c6
      subst c6
      have H1 : (if (a1.size : Int) ≤ (wrap64 ((t129.size : Int) + (t130.size : Int))) then (some ((⟨#[]⟩ : ByteArray), false)) else ((strings_HasPrefix.f a1 t129).bind fun t133 => (if t133 = true then ((strings_HasSuffix.f a1 t130).bind fun t134 => (if t134 = true then (if 0 ≤ (t129.size : Int) then (if (t129.size : Int) ≤ (wrap64 ((a1.size : Int) - (t130.size : Int))) then (if (wrap64 ((a1.size : Int) - (t130.size : Int))) ≤ (a1.size : Int) then (some (a1.extract ((t129.size : Int) : Int).toNat ((wrap64 ((a1.size : Int) - (t130.size : Int))) : Int).toNat, true)) else (none)) else (none)) else (none)) else (some ((⟨#[]⟩ : ByteArray), false)))) else (some ((⟨#[]⟩ : ByteArray), false))))) = some (r1, r2) := by rw [if_neg (show ¬ (false = true) by decide)] at H; exact H
      clear H
      have H := H1
      clear H1
      by_cases c7 : (a1.size : Int) ≤ (wrap64 ((t129.size : Int) + (t130.size : Int)))
      · rw [if_pos c7] at H
        have c7b0 : decide ((a1.size : Int) ≤ (wrap64 ((t129.size : Int) + (t130.size : Int)))) = true := decide_eq_true c7
        try (have c7b0w := c7b0; simp (disch := omega) only [w64_] at c7b0w)
        clear c7
        simp only [Option.some.injEq, Prod.mk.injEq] at H
        obtain ⟨rfl, rfl⟩ := H
        go_enter Tryd.func8, Tryd.ntmps8
        go_wp2_with (first | ((with_reducible refine gate_callee (f := 12) rfl ?_); refine goesL_ (some 11) rfl rfl Tryd.func12 (by kernel_rfl) rfl #[.string a0, .string (⟨#[37]⟩ : ByteArray)] rfl (by (try simp only [List.map_toArray, List.map_cons, List.map_nil]); first | done | rfl | (simp only [List.length_drop, List.length_take]; rfl)) ?_; (with_reducible refine (strings_Cut.calls a0 (⟨#[37]⟩ : ByteArray) t129 t130 true _ A3.out).mono ?_); rintro e w' ⟨rfl, ⟨nd, rfl⟩⟩; refine ⟨_, rfl, ?_⟩) | ((with_reducible refine gate_callee (f := 13) rfl ?_); refine goesL_ (some 21) rfl rfl Tryd.func13 (by kernel_rfl) rfl #[.string t130, .string (⟨#[37]⟩ : ByteArray)] rfl (by (try simp only [List.map_toArray, List.map_cons, List.map_nil]); first | done | rfl | (simp only [List.length_drop, List.length_take]; rfl)) ?_; (with_reducible refine (strings_Contains.calls t130 (⟨#[37]⟩ : ByteArray) false _ A5.out).mono ?_); rintro e w' ⟨rfl, ⟨nd, rfl⟩⟩; refine ⟨_, rfl, ?_⟩))
        go_ret2
        exact ⟨by first | rfl | (simp; done) | (simp [*]; done), by repeat (first | exact Drawn0.refl _ | apply Drawn0.step)⟩
      · rw [if_neg c7] at H
        have c7b0 : decide ((a1.size : Int) ≤ (wrap64 ((t129.size : Int) + (t130.size : Int)))) = false := decide_eq_false c7
        try (have c7b0w := c7b0; simp (disch := omega) only [w64_] at c7b0w)
        clear c7
        replace H := Option.bind_eq_some_iff.mp H
        obtain ⟨t133, A80, H⟩ := H
        replace H : (if t133 = true then ((strings_HasSuffix.f a1 t130).bind fun t134 => (if t134 = true then (if 0 ≤ (t129.size : Int) then (if (t129.size : Int) ≤ (wrap64 ((a1.size : Int) - (t130.size : Int))) then (if (wrap64 ((a1.size : Int) - (t130.size : Int))) ≤ (a1.size : Int) then (some (a1.extract ((t129.size : Int) : Int).toNat ((wrap64 ((a1.size : Int) - (t130.size : Int))) : Int).toNat, true)) else (none)) else (none)) else (none)) else (some ((⟨#[]⟩ : ByteArray), false)))) else (some ((⟨#[]⟩ : ByteArray), false))) = some (r1, r2) := H
        have A8 := Aside0.mk A80
        clear A80
        by_cases c9 : t133 = true
        · subst c9
          have H1 : ((strings_HasSuffix.f a1 t130).bind fun t134 => (if t134 = true then (if 0 ≤ (t129.size : Int) then (if (t129.size : Int) ≤ (wrap64 ((a1.size : Int) - (t130.size : Int))) then (if (wrap64 ((a1.size : Int) - (t130.size : Int))) ≤ (a1.size : Int) then (some (a1.extract ((t129.size : Int) : Int).toNat ((wrap64 ((a1.size : Int) - (t130.size : Int))) : Int).toNat, true)) else (none)) else (none)) else (none)) else (some ((⟨#[]⟩ : ByteArray), false)))) = some (r1, r2) := by rw [if_pos rfl] at H; exact H
          clear H
          have H := H1
          clear H1
          replace H := Option.bind_eq_some_iff.mp H
          obtain ⟨t134, A100, H⟩ := H
          replace H : (if t134 = true then (if 0 ≤ (t129.size : Int) then (if (t129.size : Int) ≤ (wrap64 ((a1.size : Int) - (t130.size : Int))) then (if (wrap64 ((a1.size : Int) - (t130.size : Int))) ≤ (a1.size : Int) then (some (a1.extract ((t129.size : Int) : Int).toNat ((wrap64 ((a1.size : Int) - (t130.size : Int))) : Int).toNat, true)) else (none)) else (none)) else (none)) else (some ((⟨#[]⟩ : ByteArray), false))) = some (r1, r2) := H
          have A10 := Aside0.mk A100
          clear A100
          by_cases c11 : t134 = true
          · subst c11
            have H1 : (if 0 ≤ (t129.size : Int) then (if (t129.size : Int) ≤ (wrap64 ((a1.size : Int) - (t130.size : Int))) then (if (wrap64 ((a1.size : Int) - (t130.size : Int))) ≤ (a1.size : Int) then (some (a1.extract ((t129.size : Int) : Int).toNat ((wrap64 ((a1.size : Int) - (t130.size : Int))) : Int).toNat, true)) else (none)) else (none)) else (none)) = some (r1, r2) := by rw [if_pos rfl] at H; exact H
            clear H
            have H := H1
            clear H1
            by_cases c12 : 0 ≤ (t129.size : Int)
            · rw [if_pos c12] at H
              have c12b0 := eq_true c12
              have c12b1 : decide (0 ≤ (t129.size : Int)) = true := decide_eq_true c12
              clear c12
              by_cases c13 : (t129.size : Int) ≤ (wrap64 ((a1.size : Int) - (t130.size : Int)))
              · rw [if_pos c13] at H
                have c13b0 := eq_true c13
                have c13b1 : decide ((t129.size : Int) ≤ (wrap64 ((a1.size : Int) - (t130.size : Int)))) = true := decide_eq_true c13
                try (have c13b1w := c13b1; simp (disch := omega) only [w64_] at c13b1w)
                clear c13
                by_cases c14 : (wrap64 ((a1.size : Int) - (t130.size : Int))) ≤ (a1.size : Int)
                · rw [if_pos c14] at H
                  have c14b0 := eq_true c14
                  have c14b1 : decide ((wrap64 ((a1.size : Int) - (t130.size : Int))) ≤ (a1.size : Int)) = true := decide_eq_true c14
                  try (have c14b1w := c14b1; simp (disch := omega) only [w64_] at c14b1w)
                  clear c14
                  simp only [Option.some.injEq, Prod.mk.injEq] at H
                  obtain ⟨rfl, rfl⟩ := H
                  go_enter Tryd.func8, Tryd.ntmps8
                  go_wp2_with (first | ((with_reducible refine gate_callee (f := 12) rfl ?_); refine goesL_ (some 11) rfl rfl Tryd.func12 (by kernel_rfl) rfl #[.string a0, .string (⟨#[37]⟩ : ByteArray)] rfl (by (try simp only [List.map_toArray, List.map_cons, List.map_nil]); first | done | rfl | (simp only [List.length_drop, List.length_take]; rfl)) ?_; (with_reducible refine (strings_Cut.calls a0 (⟨#[37]⟩ : ByteArray) t129 t130 true _ A3.out).mono ?_); rintro e w' ⟨rfl, ⟨nd, rfl⟩⟩; refine ⟨_, rfl, ?_⟩) | ((with_reducible refine gate_callee (f := 13) rfl ?_); refine goesL_ (some 21) rfl rfl Tryd.func13 (by kernel_rfl) rfl #[.string t130, .string (⟨#[37]⟩ : ByteArray)] rfl (by (try simp only [List.map_toArray, List.map_cons, List.map_nil]); first | done | rfl | (simp only [List.length_drop, List.length_take]; rfl)) ?_; (with_reducible refine (strings_Contains.calls t130 (⟨#[37]⟩ : ByteArray) false _ A5.out).mono ?_); rintro e w' ⟨rfl, ⟨nd, rfl⟩⟩; refine ⟨_, rfl, ?_⟩) | (go_at_call 14; (with_reducible refine (strings_HasPrefix.calls a1 t129 true _ A8.out).mono ?_); rintro e w' ⟨rfl, ⟨nd, rfl⟩⟩) | (go_at_call 15; (with_reducible refine (strings_HasSuffix.calls a1 t130 true _ A10.out).mono ?_); rintro e w' ⟨rfl, ⟨nd, rfl⟩⟩))
                  go_ret2
                  exact ⟨by first | rfl | (simp; done) | (simp [*]; done), by repeat (first | exact Drawn0.refl _ | apply Drawn0.step)⟩
                · rw [if_neg c14] at H
                  exact absurd H (by simp)
              · rw [if_neg c13] at H
                exact absurd H (by simp)
            · rw [if_neg c12] at H
              exact absurd H (by simp)
          · replace c11 := Bool.eq_false_iff.mpr c11
            subst c11
            have H1 : (some ((⟨#[]⟩ : ByteArray), false)) = some (r1, r2) := by rw [if_neg (show ¬ (false = true) by decide)] at H; exact H
            clear H
            have H := H1
            clear H1
            simp only [Option.some.injEq, Prod.mk.injEq] at H
            obtain ⟨rfl, rfl⟩ := H
            go_enter Tryd.func8, Tryd.ntmps8
            go_wp2_with (first | ((with_reducible refine gate_callee (f := 12) rfl ?_); refine goesL_ (some 11) rfl rfl Tryd.func12 (by kernel_rfl) rfl #[.string a0, .string (⟨#[37]⟩ : ByteArray)] rfl (by (try simp only [List.map_toArray, List.map_cons, List.map_nil]); first | done | rfl | (simp only [List.length_drop, List.length_take]; rfl)) ?_; (with_reducible refine (strings_Cut.calls a0 (⟨#[37]⟩ : ByteArray) t129 t130 true _ A3.out).mono ?_); rintro e w' ⟨rfl, ⟨nd, rfl⟩⟩; refine ⟨_, rfl, ?_⟩) | ((with_reducible refine gate_callee (f := 13) rfl ?_); refine goesL_ (some 21) rfl rfl Tryd.func13 (by kernel_rfl) rfl #[.string t130, .string (⟨#[37]⟩ : ByteArray)] rfl (by (try simp only [List.map_toArray, List.map_cons, List.map_nil]); first | done | rfl | (simp only [List.length_drop, List.length_take]; rfl)) ?_; (with_reducible refine (strings_Contains.calls t130 (⟨#[37]⟩ : ByteArray) false _ A5.out).mono ?_); rintro e w' ⟨rfl, ⟨nd, rfl⟩⟩; refine ⟨_, rfl, ?_⟩) | (go_at_call 14; (with_reducible refine (strings_HasPrefix.calls a1 t129 true _ A8.out).mono ?_); rintro e w' ⟨rfl, ⟨nd, rfl⟩⟩) | (go_at_call 15; (with_reducible refine (strings_HasSuffix.calls a1 t130 false _ A10.out).mono ?_); rintro e w' ⟨rfl, ⟨nd, rfl⟩⟩))
            go_ret2
            exact ⟨by first | rfl | (simp; done) | (simp [*]; done), by repeat (first | exact Drawn0.refl _ | apply Drawn0.step)⟩
        · replace c9 := Bool.eq_false_iff.mpr c9
          subst c9
          have H1 : (some ((⟨#[]⟩ : ByteArray), false)) = some (r1, r2) := by rw [if_neg (show ¬ (false = true) by decide)] at H; exact H
          clear H
          have H := H1
          clear H1
          simp only [Option.some.injEq, Prod.mk.injEq] at H
          obtain ⟨rfl, rfl⟩ := H
          go_enter Tryd.func8, Tryd.ntmps8
          go_wp2_with (first | ((with_reducible refine gate_callee (f := 12) rfl ?_); refine goesL_ (some 11) rfl rfl Tryd.func12 (by kernel_rfl) rfl #[.string a0, .string (⟨#[37]⟩ : ByteArray)] rfl (by (try simp only [List.map_toArray, List.map_cons, List.map_nil]); first | done | rfl | (simp only [List.length_drop, List.length_take]; rfl)) ?_; (with_reducible refine (strings_Cut.calls a0 (⟨#[37]⟩ : ByteArray) t129 t130 true _ A3.out).mono ?_); rintro e w' ⟨rfl, ⟨nd, rfl⟩⟩; refine ⟨_, rfl, ?_⟩) | ((with_reducible refine gate_callee (f := 13) rfl ?_); refine goesL_ (some 21) rfl rfl Tryd.func13 (by kernel_rfl) rfl #[.string t130, .string (⟨#[37]⟩ : ByteArray)] rfl (by (try simp only [List.map_toArray, List.map_cons, List.map_nil]); first | done | rfl | (simp only [List.length_drop, List.length_take]; rfl)) ?_; (with_reducible refine (strings_Contains.calls t130 (⟨#[37]⟩ : ByteArray) false _ A5.out).mono ?_); rintro e w' ⟨rfl, ⟨nd, rfl⟩⟩; refine ⟨_, rfl, ?_⟩) | (go_at_call 14; (with_reducible refine (strings_HasPrefix.calls a1 t129 false _ A8.out).mono ?_); rintro e w' ⟨rfl, ⟨nd, rfl⟩⟩))
          go_ret2
          exact ⟨by first | rfl | (simp; done) | (simp [*]; done), by repeat (first | exact Drawn0.refl _ | apply Drawn0.step)⟩
  · replace c4 := Bool.eq_false_iff.mpr c4
    subst c4
    have H1 : (some ((⟨#[]⟩ : ByteArray), (a0.toList == a1.toList))) = some (r1, r2) := by rw [if_neg (show ¬ (false = true) by decide)] at H; exact H
    clear H
    have H := H1
    clear H1
    simp only [Option.some.injEq, Prod.mk.injEq] at H
    obtain ⟨rfl, rfl⟩ := H
    go_enter Tryd.func8, Tryd.ntmps8
    go_wp2_with (first | ((with_reducible refine gate_callee (f := 12) rfl ?_); refine goesL_ (some 11) rfl rfl Tryd.func12 (by kernel_rfl) rfl #[.string a0, .string (⟨#[37]⟩ : ByteArray)] rfl (by (try simp only [List.map_toArray, List.map_cons, List.map_nil]); first | done | rfl | (simp only [List.length_drop, List.length_take]; rfl)) ?_; (with_reducible refine (strings_Cut.calls a0 (⟨#[37]⟩ : ByteArray) t129 t130 false _ A3.out).mono ?_); rintro e w' ⟨rfl, ⟨nd, rfl⟩⟩; refine ⟨_, rfl, ?_⟩))
    go_ret2
    exact ⟨by first | rfl | (simp; done) | (simp [*]; done), by repeat (first | exact Drawn0.refl _ | apply Drawn0.step)⟩

end Go.Proofs.YtpphdmpnnnimdaaDoor.P
