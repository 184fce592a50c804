/- The functions that the laws of this seat come to, as plain Lean functions, each with the proof that the machine's call comes to it. -/
import Derived.Test.YtahdgaaedilcmaaPx0
namespace Go.Proofs.Ytahdgaaedilcmaa.P
open Go.RowKit Go.Proofs.YtahdgaaedilcmaaW.PrintWords Go.Proofs.YtahdgaaedilcmaaW.PrintLast Go.Proofs.YtahdgaaedilcmaaW.PrintMore
attribute [local go_sem] max2_int min2_int max_two min_two max_three min_three max_four min_four   -- for this text's walks alone
set_option linter.unusedVariables false
set_option linter.unusedSimpArgs false

/-! ### brickyardlaw16_great: function 15 -/
mutual
def brickyardlaw16_great.l0 : Nat → Int → List (List (S32)) → Int → Int → Option (Bool)
  | 0, _, _, _, _ => none
  | k + 1, x3, x8, x9, x10 => if x10 < x9 then (if 0 ≤ x10 then (if x10 < (x8.length : Int) then (brickyardlaw16_great.l1 k x3 (rd_L3 x8 x10) 0 x8 x9 x10) else (none)) else (none)) else (some (decide (x3 ≥ 32768)))
def brickyardlaw16_great.l1 : Nat → Int → List (S32) → Int → List (List (S32)) → Int → Int → Option (Bool)
  | 0, _, _, _, _, _, _ => none
  | k + 1, x3, x5, x6, x8, x9, x10 => if x6 < (x5.length : Int) then (brickyardlaw16_great.j2 k x3 x5 x6 x8 x9 x10 (decide (x3 < 32768))) else (brickyardlaw16_great.j2 k x3 x5 x6 x8 x9 x10 false)
def brickyardlaw16_great.j2 : Nat → Int → List (S32) → Int → List (List (S32)) → Int → Int → Bool → Option (Bool)
  | 0, _, _, _, _, _, _, _ => none
  | k + 1, x3, x5, x6, x8, x9, x10, x21 => if x21 = true then (if 0 ≤ x6 then (if x6 < (x5.length : Int) then (brickyardlaw16_great.l2 k (wrap64 (x3 + (wrap64 (1 + (((rd_T32 x5 x6).f0).size : Int))))) x5 x6 0 x8 x9 x10) else (none)) else (none)) else (brickyardlaw16_great.l0 k x3 x8 x9 (wrap64 (x10 + 1)))
def brickyardlaw16_great.l2 : Nat → Int → List (S32) → Int → Int → List (List (S32)) → Int → Int → Option (Bool)
  | 0, _, _, _, _, _, _, _ => none
  | k + 1, x3, x5, x6, x7, x8, x9, x10 => if 0 ≤ x6 then (if x6 < (x5.length : Int) then (if x7 < (((rd_T32 x5 x6).f1).length : Int) then (if x3 < 32768 then (if 0 ≤ x7 then (brickyardlaw16_great.l2 k (wrap64 (x3 + (wrap64 (1 + ((rdOf ByteArray.empty ((rd_T32 x5 x6).f1) x7).size : Int))))) x5 x6 (wrap64 (x7 + 1)) x8 x9 x10) else (none)) else (brickyardlaw16_great.l1 k x3 x5 (wrap64 (x6 + 1)) x8 x9 x10)) else (brickyardlaw16_great.l1 k x3 x5 (wrap64 (x6 + 1)) x8 x9 x10)) else (none)) else (none)
end
def brickyardlaw16_great.f (k : Nat) (l0 : List (List (S32))) : Option (Bool) := brickyardlaw16_great.l0 k 0 l0 (l0.length : Int) 0
theorem brickyardlaw16_great.mono_l : ∀ k, (∀ y0 y1 y2 y3, LeO (brickyardlaw16_great.l0 k y0 y1 y2 y3) (brickyardlaw16_great.l0 (k + 1) y0 y1 y2 y3)) ∧ (∀ y0 y1 y2 y3 y4 y5, LeO (brickyardlaw16_great.l1 k y0 y1 y2 y3 y4 y5) (brickyardlaw16_great.l1 (k + 1) y0 y1 y2 y3 y4 y5)) ∧ (∀ y0 y1 y2 y3 y4 y5 y6, LeO (brickyardlaw16_great.j2 k y0 y1 y2 y3 y4 y5 y6) (brickyardlaw16_great.j2 (k + 1) y0 y1 y2 y3 y4 y5 y6)) ∧ (∀ y0 y1 y2 y3 y4 y5 y6, LeO (brickyardlaw16_great.l2 k y0 y1 y2 y3 y4 y5 y6) (brickyardlaw16_great.l2 (k + 1) y0 y1 y2 y3 y4 y5 y6))
  | 0 => ⟨fun _ _ _ _ r h => by simp [brickyardlaw16_great.l0] at h, fun _ _ _ _ _ _ r h => by simp [brickyardlaw16_great.l1] at h, fun _ _ _ _ _ _ _ r h => by simp [brickyardlaw16_great.j2] at h, fun _ _ _ _ _ _ _ r h => by simp [brickyardlaw16_great.l2] at h⟩
  | k + 1 => by
    obtain ⟨ih0, ih1, ih2, ih3⟩ := brickyardlaw16_great.mono_l k
    refine ⟨?_, ?_, ?_, ?_⟩
    · intro y0 y1 y2 y3
      unfold brickyardlaw16_great.l0
      repeat' first
      | (with_reducible exact ih0 _ _ _ _)
      | (with_reducible exact ih1 _ _ _ _ _ _)
      | (with_reducible exact ih2 _ _ _ _ _ _ _)
      | (with_reducible exact ih3 _ _ _ _ _ _ _)
      | (with_reducible exact LeO.refl _)
      | (with_reducible exact LeO.none _)
      | (with_reducible refine LeO.ite ?_ ?_)
      | (with_reducible refine LeO.bind ?_ (fun _ => ?_))
      | exact ih0 _ _ _ _
      | exact ih1 _ _ _ _ _ _
      | exact ih2 _ _ _ _ _ _ _
      | exact ih3 _ _ _ _ _ _ _
      | exact LeO.none _
      | refine LeO.ite ?_ ?_
      | refine LeO.bind ?_ (fun _ => ?_)
    · intro y0 y1 y2 y3 y4 y5
      unfold brickyardlaw16_great.l1
      repeat' first
      | (with_reducible exact ih0 _ _ _ _)
      | (with_reducible exact ih1 _ _ _ _ _ _)
      | (with_reducible exact ih2 _ _ _ _ _ _ _)
      | (with_reducible exact ih3 _ _ _ _ _ _ _)
      | (with_reducible exact LeO.refl _)
      | (with_reducible exact LeO.none _)
      | (with_reducible refine LeO.ite ?_ ?_)
      | (with_reducible refine LeO.bind ?_ (fun _ => ?_))
      | exact ih0 _ _ _ _
      | exact ih1 _ _ _ _ _ _
      | exact ih2 _ _ _ _ _ _ _
      | exact ih3 _ _ _ _ _ _ _
      | exact LeO.none _
      | refine LeO.ite ?_ ?_
      | refine LeO.bind ?_ (fun _ => ?_)
    · intro y0 y1 y2 y3 y4 y5 y6
      unfold brickyardlaw16_great.j2
      repeat' first
      | (with_reducible exact ih0 _ _ _ _)
      | (with_reducible exact ih1 _ _ _ _ _ _)
      | (with_reducible exact ih2 _ _ _ _ _ _ _)
      | (with_reducible exact ih3 _ _ _ _ _ _ _)
      | (with_reducible exact LeO.refl _)
      | (with_reducible exact LeO.none _)
      | (with_reducible refine LeO.ite ?_ ?_)
      | (with_reducible refine LeO.bind ?_ (fun _ => ?_))
      | exact ih0 _ _ _ _
      | exact ih1 _ _ _ _ _ _
      | exact ih2 _ _ _ _ _ _ _
      | exact ih3 _ _ _ _ _ _ _
      | exact LeO.none _
      | refine LeO.ite ?_ ?_
      | refine LeO.bind ?_ (fun _ => ?_)
    · intro y0 y1 y2 y3 y4 y5 y6
      unfold brickyardlaw16_great.l2
      repeat' first
      | (with_reducible exact ih0 _ _ _ _)
      | (with_reducible exact ih1 _ _ _ _ _ _)
      | (with_reducible exact ih2 _ _ _ _ _ _ _)
      | (with_reducible exact ih3 _ _ _ _ _ _ _)
      | (with_reducible exact LeO.refl _)
      | (with_reducible exact LeO.none _)
      | (with_reducible refine LeO.ite ?_ ?_)
      | (with_reducible refine LeO.bind ?_ (fun _ => ?_))
      | exact ih0 _ _ _ _
      | exact ih1 _ _ _ _ _ _
      | exact ih2 _ _ _ _ _ _ _
      | exact ih3 _ _ _ _ _ _ _
      | exact LeO.none _
      | refine LeO.ite ?_ ?_
      | refine LeO.bind ?_ (fun _ => ?_)
theorem brickyardlaw16_great.mono : ∀ a0 k, LeO (brickyardlaw16_great.f k a0) (brickyardlaw16_great.f (k + 1) a0) := by
  intro a0 k
  obtain ⟨ih0, ih1, ih2, ih3⟩ := brickyardlaw16_great.mono_l k
  unfold brickyardlaw16_great.f
  repeat' first
      | (with_reducible exact ih0 _ _ _ _)
      | (with_reducible exact ih1 _ _ _ _ _ _)
      | (with_reducible exact ih2 _ _ _ _ _ _ _)
      | (with_reducible exact ih3 _ _ _ _ _ _ _)
      | (with_reducible exact LeO.refl _)
      | (with_reducible exact LeO.none _)
      | (with_reducible refine LeO.ite ?_ ?_)
      | (with_reducible refine LeO.bind ?_ (fun _ => ?_))
      | exact ih0 _ _ _ _
      | exact ih1 _ _ _ _ _ _
      | exact ih2 _ _ _ _ _ _ _
      | exact ih3 _ _ _ _ _ _ _
      | exact LeO.none _
      | refine LeO.ite ?_ ?_
      | refine LeO.bind ?_ (fun _ => ?_)
set_option maxHeartbeats 8000000 in
set_option maxRecDepth 100000 in
theorem brickyardlaw16_great.calls (k : Nat) (A0 : Option Addr) (c0 : Nat) (l0 : List (List (S32))) (r : Bool) (w : World) (hr0 : Kd.C (Kd.slice 32 k32) w A0 l0.length l0) (hc0 : l0.length ≤ c0) (h : brickyardlaw16_great.f k l0 = some r) :
    Calls Try.prog 15 #[.slice A0 l0.length c0] w fun e w' => e = .returned (.bool r) ∧ Drawn0 w w' := by
  have HR0 := Aside0.mk hr0
  have HC0 := Aside0.mk hc0
  clear hr0 hc0
  have H : (brickyardlaw16_great.l0 k 0 l0 (l0.length : Int) 0) = some r := h
  clear h
  have H' := Aside0.mk H
  clear H
  go_enter Try.func15, Try.ntmps15
  go_wp2
  go_loopg [3, 10] k (fun kq v3 v10 w' => ∃ (x3_1 : Int) (x10_1 : Int), v3 = .int .i64 x3_1 ∧ v10 = .int .i64 x10_1 ∧ Aside0 (brickyardlaw16_great.l0 kq x3_1 l0 (l0.length : Int) x10_1 = some r) ∧ Aside0 (kq ≤ k) ∧ Drawn0 w w')
  case atStart => exact ⟨(0), (0), (by first | rfl | (simp; done) | (simp [*]; done)), (by first | rfl | (simp; done) | (simp [*]; done)), H', ⟨Nat.le_refl _⟩, by repeat (first | exact Drawn0.refl _ | apply Drawn0.step)⟩
  case round =>
    clear H'
    try clear c1
    obtain ⟨x3_1, x10_1, rfl, rfl, HA, HK1, ⟨m1, rfl⟩⟩ := hrel
    cases gk with
    | zero => exact absurd HA.out (by simp [brickyardlaw16_great.l0])
    | succ k1 =>
      have H := HA.out
      clear HA
      simp only [brickyardlaw16_great.l0] at H
      by_cases c2 : x10_1 < (l0.length : Int)
      · rw [if_pos c2] at H
        have c2b0 : decide (x10_1 < (l0.length : Int)) = true := decide_eq_true c2
        clear c2
        by_cases c3 : 0 ≤ x10_1
        · rw [if_pos c3] at H
          have c3b0 : decide (0 ≤ x10_1) = true := decide_eq_true c3
          clear c3
          by_cases c4 : x10_1 < (l0.length : Int)
          · rw [if_pos c4] at H
            have c4b0 : decide (x10_1 < (l0.length : Int)) = true := decide_eq_true c4
            clear c4
            have H' := Aside0.mk H
            clear H
            have p244 : 0 ≤ (x10_1 : Int) := of_decide_eq_true (by first | (with_reducible assumption) | assumption)
            have q244 : x10_1 < (l0.length : Int) := of_decide_eq_true (by first | (with_reducible assumption) | assumption)
            obtain ⟨ad244, A244_0, c244_0, e244, hx244_0, hl244_0, hi244_0⟩ := at_L3 HR0.out x10_1 p244 q244
            cases e244
            have HR244_0 := Aside0.mk hi244_0
            have HC244_0 := Aside0.mk hl244_0
            clear hi244_0 hl244_0
            replace p244 := eq_true p244
            replace q244 := eq_true q244
            go_wp2
            go_loopg [3, 6] k1 (fun kq v3 v6 w' => ∃ (x3_2 : Int) (x6_2 : Int), v3 = .int .i64 x3_2 ∧ v6 = .int .i64 x6_2 ∧ Aside0 (brickyardlaw16_great.l1 kq x3_2 (rd_L3 l0 x10_1) x6_2 l0 (l0.length : Int) x10_1 = some r) ∧ Aside0 (kq ≤ k1) ∧ Drawn0 w w')
            case atStart => exact ⟨(x3_1), (0), (by first | rfl | (simp; done) | (simp [*]; done)), (by first | rfl | (simp; done) | (simp [*]; done)), H', ⟨Nat.le_refl _⟩, by repeat (first | exact Drawn0.refl _ | apply Drawn0.step)⟩
            case round =>
              clear H'
              try clear c1
              try clear c2
              try clear c2b0
              try clear p2
              try clear q2
              try clear hx2
              try clear c3
              try clear c3b0
              try clear c4
              try clear c4b0
              try clear hx244_0
              try clear p244
              try clear q244
              obtain ⟨x3_2, x6_2, rfl, rfl, HA, HK2, ⟨m2, rfl⟩⟩ := hrel
              cases gk with
              | zero => exact absurd HA.out (by simp [brickyardlaw16_great.l1])
              | succ k2 =>
                have H := HA.out
                clear HA
                simp only [brickyardlaw16_great.l1] at H
                have HC5 := Aside0.mk H
                clear H
                go_upto_region 6 with (fail)
                go_cut [21] (fun v21 wc => ∃ (kq : Nat) (x21_4 : Bool), v21 = .bool x21_4 ∧ Aside0 (brickyardlaw16_great.j2 kq x3_2 (rd_L3 l0 x10_1) x6_2 l0 (l0.length : Int) x10_1 x21_4 = some r) ∧ Aside0 (kq ≤ k2) ∧ Drawn0 w wc)
                case first =>
                  have H := HC5.out
                  clear HC5
                  by_cases c6 : x6_2 < ((rd_L3 l0 x10_1).length : Int)
                  · rw [if_pos c6] at H
                    have c6b0 : decide (x6_2 < ((rd_L3 l0 x10_1).length : Int)) = true := decide_eq_true c6
                    clear c6
                    (first | rw [c6b0] | (simp only [i64_w, i32_w]; rw [c6b0]) | skip)
                    have H' := Aside0.mk H
                    clear H
                    go_wp2
                    go_meet
                    case rel => exact ⟨_, (decide (x3_2 < 32768)), (by first | rfl | (simp; done) | (simp [*]; done)), H', ⟨by have := HK1.out; have := HK2.out; first | omega | exact Nat.le_refl _⟩, by repeat (first | exact Drawn0.refl _ | apply Drawn0.step)⟩
                  · rw [if_neg c6] at H
                    have c6b0 : decide (x6_2 < ((rd_L3 l0 x10_1).length : Int)) = false := decide_eq_false c6
                    clear c6
                    (first | rw [c6b0] | (simp only [i64_w, i32_w]; rw [c6b0]) | skip)
                    have H' := Aside0.mk H
                    clear H
                    go_wp2
                    go_meet
                    case rel => exact ⟨_, (false), (by first | rfl | (simp; done) | (simp [*]; done)), H', ⟨by have := HK1.out; have := HK2.out; first | omega | exact Nat.le_refl _⟩, by repeat (first | exact Drawn0.refl _ | apply Drawn0.step)⟩
                case rest =>
                  clear HC5
                  try clear c1
                  try clear c2
                  try clear c2b0
                  try clear p2
                  try clear q2
                  try clear hx2
                  try clear c3
                  try clear c3b0
                  try clear c4
                  try clear c4b0
                  try clear c6
                  try clear c6b0
                  try clear hx244_0
                  try clear p2
                  try clear p244
                  try clear q2
                  try clear q244
                  obtain ⟨kq, x21_4, rfl, HA, HJ4, ⟨mc4, rfl⟩⟩ := hcut
                  cases kq with
                  | zero => exact absurd HA.out (by simp [brickyardlaw16_great.j2])
                  | succ kj4 =>
                    have H := HA.out
                    clear HA
                    simp only [brickyardlaw16_great.j2] at H
                    by_cases c7 : x21_4 = true
                    · subst c7
                      have H1 : (if 0 ≤ x6_2 then (if x6_2 < ((rd_L3 l0 x10_1).length : Int) then (brickyardlaw16_great.l2 kj4 (wrap64 (x3_2 + (wrap64 (1 + (((rd_T32 (rd_L3 l0 x10_1) x6_2).f0).size : Int))))) (rd_L3 l0 x10_1) x6_2 0 l0 (l0.length : Int) x10_1) else (none)) else (none)) = some r := by rw [if_pos rfl] at H; exact H
                      clear H
                      have H := H1
                      clear H1
                      by_cases c8 : 0 ≤ x6_2
                      · rw [if_pos c8] at H
                        have c8b0 : decide (0 ≤ x6_2) = true := decide_eq_true c8
                        clear c8
                        by_cases c9 : x6_2 < ((rd_L3 l0 x10_1).length : Int)
                        · rw [if_pos c9] at H
                          have c9b0 : decide (x6_2 < ((rd_L3 l0 x10_1).length : Int)) = true := decide_eq_true c9
                          clear c9
                          have H' := Aside0.mk H
                          clear H
                          have p245 : 0 ≤ (x6_2 : Int) := of_decide_eq_true (by first | (with_reducible assumption) | assumption)
                          have q245 : x6_2 < ((rd_L3 l0 x10_1).length : Int) := of_decide_eq_true (by first | (with_reducible assumption) | assumption)
                          obtain ⟨ad245, A245_1, c245_1, e245, hx245_0, hx245_1, hl245_1, hi245_1⟩ := at_T32 HR244_0.out x6_2 p245 q245
                          cases e245
                          have HR245_1 := Aside0.mk hi245_1
                          have HC245_1 := Aside0.mk hl245_1
                          clear hi245_1 hl245_1
                          replace p245 := eq_true p245
                          replace q245 := eq_true q245
                          go_wp2
                          go_loopg [3, 7] kj4 (fun kq v3 v7 w' => ∃ (x3_4 : Int) (x7_4 : Int), v3 = .int .i64 x3_4 ∧ v7 = .int .i64 x7_4 ∧ Aside0 (brickyardlaw16_great.l2 kq x3_4 (rd_L3 l0 x10_1) x6_2 x7_4 l0 (l0.length : Int) x10_1 = some r) ∧ Aside0 (kq ≤ kj4) ∧ Drawn0 w w')
                          case atStart => exact ⟨(wrap64 (x3_2 + (wrap64 (1 + (((rd_T32 (rd_L3 l0 x10_1) x6_2).f0).size : Int))))), (0), (by first | rfl | (simp; done) | (simp [*]; done)), (by first | rfl | (simp; done) | (simp [*]; done)), H', ⟨Nat.le_refl _⟩, by repeat (first | exact Drawn0.refl _ | apply Drawn0.step)⟩
                          case round =>
                            clear H'
                            try clear c1
                            try clear c2
                            try clear c2b0
                            try clear p2
                            try clear q2
                            try clear hx2
                            try clear c3
                            try clear c3b0
                            try clear c4
                            try clear c4b0
                            try clear c6
                            try clear c6b0
                            try clear p6
                            try clear c7
                            try clear c8
                            try clear c8b0
                            try clear c9
                            try clear c9b0
                            try clear hx244_0
                            try clear hx245_0
                            try clear hx245_1
                            try clear p2
                            try clear p244
                            try clear p245
                            try clear q2
                            try clear q244
                            try clear q245
                            obtain ⟨x3_4, x7_4, rfl, rfl, HA, HK4, ⟨m4, rfl⟩⟩ := hrel
                            cases gk with
                            | zero => exact absurd HA.out (by simp [brickyardlaw16_great.l2])
                            | succ k4 =>
                              have H := HA.out
                              clear HA
                              simp only [brickyardlaw16_great.l2] at H
                              by_cases c10 : 0 ≤ x6_2
                              · rw [if_pos c10] at H
                                have c10b0 : decide (0 ≤ x6_2) = true := decide_eq_true c10
                                clear c10
                                by_cases c11 : x6_2 < ((rd_L3 l0 x10_1).length : Int)
                                · rw [if_pos c11] at H
                                  have c11b0 : decide (x6_2 < ((rd_L3 l0 x10_1).length : Int)) = true := decide_eq_true c11
                                  clear c11
                                  by_cases c12 : x7_4 < (((rd_T32 (rd_L3 l0 x10_1) x6_2).f1).length : Int)
                                  · rw [if_pos c12] at H
                                    have c12b0 : decide (x7_4 < (((rd_T32 (rd_L3 l0 x10_1) x6_2).f1).length : Int)) = true := decide_eq_true c12
                                    clear c12
                                    by_cases c13 : x3_4 < 32768
                                    · rw [if_pos c13] at H
                                      have c13b0 : decide (x3_4 < 32768) = true := decide_eq_true c13
                                      clear c13
                                      by_cases c14 : 0 ≤ x7_4
                                      · rw [if_pos c14] at H
                                        have c14b0 : decide (0 ≤ x7_4) = true := decide_eq_true c14
                                        clear c14
                                        have H' := Aside0.mk H
                                        clear H
                                        have p246 : 0 ≤ (x6_2 : Int) := of_decide_eq_true (by first | (with_reducible assumption) | assumption)
                                        have q246 : x6_2 < ((rd_L3 l0 x10_1).length : Int) := of_decide_eq_true (by first | (with_reducible assumption) | assumption)
                                        obtain ⟨ad246, A246_1, c246_1, e246, hx246_0, hx246_1, hl246_1, hi246_1⟩ := at_T32 HR244_0.out x6_2 p246 q246
                                        obtain rfl : ad245 = ad246 := (by injection e246)
                                        have HR246_1 := Aside0.mk hi246_1
                                        have HC246_1 := Aside0.mk hl246_1
                                        clear hi246_1 hl246_1
                                        replace p246 := eq_true p246
                                        replace q246 := eq_true q246
                                        have p247 : 0 ≤ (x6_2 : Int) := of_decide_eq_true (by first | (with_reducible assumption) | assumption)
                                        have q247 : x6_2 < ((rd_L3 l0 x10_1).length : Int) := of_decide_eq_true (by first | (with_reducible assumption) | assumption)
                                        obtain ⟨ad247, A247_1, c247_1, e247, hx247_0, hx247_1, hl247_1, hi247_1⟩ := at_T32 HR244_0.out x6_2 p247 q247
                                        obtain rfl : ad245 = ad247 := (by injection e247)
                                        have HR247_1 := Aside0.mk hi247_1
                                        have HC247_1 := Aside0.mk hl247_1
                                        clear hi247_1 hl247_1
                                        replace p247 := eq_true p247
                                        replace q247 := eq_true q247
                                        have ea_ := Option.some.inj (hx246_1.symm.trans hx247_1)
                                        injection ea_ with ea_ en_ ec_
                                        subst ea_
                                        subst ec_
                                        clear en_
                                        have p248 : 0 ≤ (x7_4 : Int) := of_decide_eq_true (by first | (with_reducible assumption) | assumption)
                                        have q248 : x7_4 < (((rd_T32 (rd_L3 l0 x10_1) x6_2).f1).length : Int) := of_decide_eq_true (by first | (with_reducible assumption) | assumption)
                                        obtain ⟨ad248, e248, hx248_0⟩ := Kd.at_string HR247_1.out x7_4 p248 q248
                                        cases e248
                                        replace p248 := eq_true p248
                                        replace q248 := eq_true q248
                                        go_wp2
                                        go_roundg k4
                                        case measure => have := HK1.out; have := HK2.out; have := HJ4.out; have := HK4.out; omega
                                        case rel => exact ⟨(wrap64 (x3_4 + (wrap64 (1 + ((rdOf ByteArray.empty ((rd_T32 (rd_L3 l0 x10_1) x6_2).f1) x7_4).size : Int))))), (wrap64 (x7_4 + 1)), (by first | rfl | (simp; done) | (simp [*]; done)), (by first | rfl | (simp; done) | (simp [*]; done)), H', ⟨by have := HK1.out; have := HK2.out; have := HJ4.out; have := HK4.out; omega⟩, by repeat (first | exact Drawn0.refl _ | apply Drawn0.step)⟩
                                      · rw [if_neg c14] at H
                                        exact absurd H (by simp)
                                    · rw [if_neg c13] at H
                                      have c13b0 : decide (x3_4 < 32768) = false := decide_eq_false c13
                                      clear c13
                                      have H' := Aside0.mk H
                                      clear H
                                      have p246 : 0 ≤ (x6_2 : Int) := of_decide_eq_true (by first | (with_reducible assumption) | assumption)
                                      have q246 : x6_2 < ((rd_L3 l0 x10_1).length : Int) := of_decide_eq_true (by first | (with_reducible assumption) | assumption)
                                      obtain ⟨ad246, A246_1, c246_1, e246, hx246_0, hx246_1, hl246_1, hi246_1⟩ := at_T32 HR244_0.out x6_2 p246 q246
                                      obtain rfl : ad245 = ad246 := (by injection e246)
                                      have HR246_1 := Aside0.mk hi246_1
                                      have HC246_1 := Aside0.mk hl246_1
                                      clear hi246_1 hl246_1
                                      replace p246 := eq_true p246
                                      replace q246 := eq_true q246
                                      go_wp2
                                      go_roundg k4
                                      case measure => have := HK1.out; have := HK2.out; have := HJ4.out; have := HK4.out; omega
                                      case rel => exact ⟨(x3_4), (wrap64 (x6_2 + 1)), (by first | rfl | (simp; done) | (simp [*]; done)), (by first | rfl | (simp; done) | (simp [*]; done)), H', ⟨by have := HK1.out; have := HK2.out; have := HJ4.out; have := HK4.out; omega⟩, by repeat (first | exact Drawn0.refl _ | apply Drawn0.step)⟩
                                  · rw [if_neg c12] at H
                                    have c12b0 : decide (x7_4 < (((rd_T32 (rd_L3 l0 x10_1) x6_2).f1).length : Int)) = false := decide_eq_false c12
                                    clear c12
                                    have H' := Aside0.mk H
                                    clear H
                                    have p246 : 0 ≤ (x6_2 : Int) := of_decide_eq_true (by first | (with_reducible assumption) | assumption)
                                    have q246 : x6_2 < ((rd_L3 l0 x10_1).length : Int) := of_decide_eq_true (by first | (with_reducible assumption) | assumption)
                                    obtain ⟨ad246, A246_1, c246_1, e246, hx246_0, hx246_1, hl246_1, hi246_1⟩ := at_T32 HR244_0.out x6_2 p246 q246
                                    obtain rfl : ad245 = ad246 := (by injection e246)
                                    have HR246_1 := Aside0.mk hi246_1
                                    have HC246_1 := Aside0.mk hl246_1
                                    clear hi246_1 hl246_1
                                    replace p246 := eq_true p246
                                    replace q246 := eq_true q246
                                    go_wp2
                                    go_roundg k4
                                    case measure => have := HK1.out; have := HK2.out; have := HJ4.out; have := HK4.out; omega
                                    case rel => exact ⟨(x3_4), (wrap64 (x6_2 + 1)), (by first | rfl | (simp; done) | (simp [*]; done)), (by first | rfl | (simp; done) | (simp [*]; done)), H', ⟨by have := HK1.out; have := HK2.out; have := HJ4.out; have := HK4.out; omega⟩, by repeat (first | exact Drawn0.refl _ | apply Drawn0.step)⟩
                                · rw [if_neg c11] at H
                                  exact absurd H (by simp)
                              · rw [if_neg c10] at H
                                exact absurd H (by simp)
                        · rw [if_neg c9] at H
                          exact absurd H (by simp)
                      · rw [if_neg c8] at H
                        exact absurd H (by simp)
                    · replace c7 := Bool.eq_false_iff.mpr c7
                      subst c7
                      have H1 : (brickyardlaw16_great.l0 kj4 x3_2 l0 (l0.length : Int) (wrap64 (x10_1 + 1))) = some r := by rw [if_neg (show ¬ (false = true) by decide)] at H; exact H
                      clear H
                      have H := H1
                      clear H1
                      have H' := Aside0.mk H
                      clear H
                      go_wp2
                      go_roundg kj4
                      case measure => have := HK1.out; have := HK2.out; have := HJ4.out; omega
                      case rel => exact ⟨(x3_2), (wrap64 (x10_1 + 1)), (by first | rfl | (simp; done) | (simp [*]; done)), (by first | rfl | (simp; done) | (simp [*]; done)), H', ⟨by have := HK1.out; have := HK2.out; have := HJ4.out; omega⟩, by repeat (first | exact Drawn0.refl _ | apply Drawn0.step)⟩
          · rw [if_neg c4] at H
            exact absurd H (by simp)
        · rw [if_neg c3] at H
          exact absurd H (by simp)
      · rw [if_neg c2] at H
        have c2b0 : decide (x10_1 < (l0.length : Int)) = false := decide_eq_false c2
        clear c2
        obtain rfl := Option.some.inj H
        go_wp2
        go_ret
        exact ⟨by first | rfl | (simp; done) | (simp [*]; done), by repeat (first | exact Drawn0.refl _ | apply Drawn0.step)⟩

end Go.Proofs.Ytahdgaaedilcmaa.P
