/- Folded: G2, Pxf47, Pxf37, Pxf46, Pxf36, Pxf44, Pxf43, Pxf45, PlPath, PlPathA, Pxf21, Pxf33, Pxf34, Pxf35, PlPathB, PlPathC. -/
import Derived.Test.YtahdgaaedilcmaaShelf
import Derived.Test.YtahdgaaedilcmaaWMore
import Derived.Lib.Strings
import Derived.Test.YtahdgaaedilcmaaPx0
import Derived.Test.YtahdgaaedilcmaaG1
import Derived.Test.YtahdgaaedilcmaaPlBase
import Derived.Lib.Join
import Derived.Lib.Bytealg
/- strings.Join in the print's form. -/
namespace Go.Proofs.Ytahdgaaedilcmaa.P
open Go.RowKit Go.Proofs.YtahdgaaedilcmaaW.PrintWords Go.Proofs.YtahdgaaedilcmaaW.PrintLast Go.Proofs.YtahdgaaedilcmaaW.PrintMore

/-- strings.Join -/
def strings_Join.f (l0 : List ByteArray) (a1 : ByteArray) : Option ByteArray :=
  if (Lib.join (l0.map (·.data.toList)) a1.data.toList).length ≤ 140737488355328 ∧ l0.length ≤ 140737488355328 then some ⟨(Lib.join (l0.map (·.data.toList)) a1.data.toList).toArray⟩ else none
theorem strings_Join.calls (A0 : Option Addr) (c0 : Nat) (l0 : List ByteArray) (a1 : ByteArray) (r : ByteArray) (w : World) (hr0 : Kd.C Kd.string w A0 l0.length l0) (hc0 : l0.length ≤ c0) (h : strings_Join.f l0 a1 = some r) :
    Calls Try.prog 42 #[.slice A0 l0.length c0, .string a1] w fun e w' => e = .returned (.string r) ∧ Below w.heap.size w w' := by
  unfold strings_Join.f at h
  by_cases hlen : (Lib.join (l0.map (·.data.toList)) a1.data.toList).length ≤ 140737488355328 ∧ l0.length ≤ 140737488355328
  · rw [if_pos hlen] at h
    obtain rfl := Option.some.inj h
    cases l0 with
    | nil => exact (Try.strings_Join_none A0 c0 a1 w).mono fun e w' ⟨he, hw⟩ => ⟨he, hw ▸ Below.refl _ _⟩
    | cons x l =>
      obtain ⟨_, _, h3⟩ := hr0
      obtain ⟨ad, rfl, hcell⟩ := h3 (by simp)
      have hcell' : ∀ (j : Nat) y, (x :: l)[j]? = some y → w.cell? (ad.add j) = some (.string y) := by
        intro j y hj
        obtain ⟨c, _, hR, hc⟩ := hcell j y hj
        have hR' : c = [.string y] := hR
        subst hR'
        have := hc 0 _ rfl
        rwa [show Kd.string.sz = 1 from rfl, Nat.mul_one, Nat.add_zero] at this
      obtain ⟨b, o, sp⟩ := ad
      have h0 := hcell' 0 x rfl
      cases sp with
      | some s => simp [Addr.add, World.cell?] at h0; split at h0 <;> first | cases h0 | (split at h0 <;> cases h0)
      | none =>
        have hlt : b < w.heap.size := World.block_lt_of_cell? w ⟨b, o, none⟩ (by simpa [Addr.add] using h0)
        refine Try.strings_Join b o c0 (x :: l) a1 w (fun j y hj => ?_) hlt hlen.2 hc0 hlen.1
        have := hcell' j y hj
        unfold Addr.add at this
        split at this
        · next h00 => subst h00; exact this
        · exact this
  · rw [if_neg hlen] at h
    cases h
end Go.Proofs.Ytahdgaaedilcmaa.P
/- The functions that the laws of this seat come to, as plain Lean functions, each with the proof that the machine's call comes to it. -/
namespace Go.Proofs.Ytahdgaaedilcmaa.P
open Go.RowKit Go.Proofs.YtahdgaaedilcmaaW.PrintWords Go.Proofs.YtahdgaaedilcmaaW.PrintLast Go.Proofs.YtahdgaaedilcmaaW.PrintMore
attribute [local go_sem] max2_int min2_int max_two min_two max_three min_three max_four min_four   -- for this text's walks alone
set_option linter.unusedVariables false
set_option linter.unusedSimpArgs false

/-! ### path_may: function 47 -/
mutual
def path_may.j0 : Nat → Int → Bool → Option (Bool)
  | 0, _, _ => none
  | k + 1, x0, x3 => if x3 = true then (some true) else (if x0 ≥ 48 then (path_may.j1 k x0 (decide (x0 ≤ 57))) else (path_may.j1 k x0 false))
def path_may.j1 : Nat → Int → Bool → Option (Bool)
  | 0, _, _ => none
  | k + 1, x0, x3 => if x3 = true then (some true) else (if x0 = 95 then (some true) else (if x0 = 46 then (some true) else (if x0 = 45 then (some true) else (some false))))
end
def path_may.f (k : Nat) (a0 : Int) : Option (Bool) := if a0 ≥ 97 then (path_may.j0 k a0 (decide (a0 ≤ 122))) else (path_may.j0 k a0 false)
theorem path_may.mono_l : ∀ k, (∀ y0 y1, LeO (path_may.j0 k y0 y1) (path_may.j0 (k + 1) y0 y1)) ∧ (∀ y0 y1, LeO (path_may.j1 k y0 y1) (path_may.j1 (k + 1) y0 y1))
  | 0 => ⟨fun _ _ r h => by simp [path_may.j0] at h, fun _ _ r h => by simp [path_may.j1] at h⟩
  | k + 1 => by
    obtain ⟨ih0, ih1⟩ := path_may.mono_l k
    refine ⟨?_, ?_⟩
    · intro y0 y1
      unfold path_may.j0
      repeat' first
      | (with_reducible exact ih0 _ _)
      | (with_reducible exact ih1 _ _)
      | (with_reducible exact LeO.refl _)
      | (with_reducible exact LeO.none _)
      | (with_reducible refine LeO.ite ?_ ?_)
      | (with_reducible refine LeO.bind ?_ (fun _ => ?_))
      | exact ih0 _ _
      | exact ih1 _ _
      | exact LeO.none _
      | refine LeO.ite ?_ ?_
      | refine LeO.bind ?_ (fun _ => ?_)
    · intro y0 y1
      unfold path_may.j1
      repeat' first
      | (with_reducible exact ih0 _ _)
      | (with_reducible exact ih1 _ _)
      | (with_reducible exact LeO.refl _)
      | (with_reducible exact LeO.none _)
      | (with_reducible refine LeO.ite ?_ ?_)
      | (with_reducible refine LeO.bind ?_ (fun _ => ?_))
      | exact ih0 _ _
      | exact ih1 _ _
      | exact LeO.none _
      | refine LeO.ite ?_ ?_
      | refine LeO.bind ?_ (fun _ => ?_)
theorem path_may.mono : ∀ a0 k, LeO (path_may.f k a0) (path_may.f (k + 1) a0) := by
  intro a0 k
  obtain ⟨ih0, ih1⟩ := path_may.mono_l k
  unfold path_may.f
  repeat' first
      | (with_reducible exact ih0 _ _)
      | (with_reducible exact ih1 _ _)
      | (with_reducible exact LeO.refl _)
      | (with_reducible exact LeO.none _)
      | (with_reducible refine LeO.ite ?_ ?_)
      | (with_reducible refine LeO.bind ?_ (fun _ => ?_))
      | exact ih0 _ _
      | exact ih1 _ _
      | exact LeO.none _
      | refine LeO.ite ?_ ?_
      | refine LeO.bind ?_ (fun _ => ?_)
set_option maxHeartbeats 8000000 in
set_option maxRecDepth 100000 in
theorem path_may.calls (k : Nat) (a0 : Int) (r : Bool) (w : World) (h : path_may.f k a0 = some r) :
    Calls Try.prog 47 #[.int .u8 a0] w fun e w' => e = .returned (.bool r) ∧ Drawn0 w w' := by
  have H : (if a0 ≥ 97 then (path_may.j0 k a0 (decide (a0 ≤ 122))) else (path_may.j0 k a0 false)) = some r := h
  clear h
  have HC2 := Aside0.mk H
  clear H
  go_enter Try.func47, Try.ntmps47
  go_upto_region 1 with (fail)
  go_cut [3] (fun v3 wc => ∃ (kq : Nat) (x3_1 : Bool), v3 = .bool x3_1 ∧ Aside0 (path_may.j0 kq a0 x3_1 = some r) ∧ Aside0 (kq ≤ k) ∧ Drawn0 w wc)
  case first =>
    have H := HC2.out
    clear HC2
    by_cases c3 : a0 ≥ 97
    · rw [if_pos c3] at H
      have c3b0 : decide (97 ≤ a0) = true := decide_eq_true c3
      clear c3
      (first | rw [c3b0] | (simp only [i64_w, i32_w]; rw [c3b0]) | skip)
      have H' := Aside0.mk H
      clear H
      go_wp2
      go_meet
      case rel => exact ⟨_, (decide (a0 ≤ 122)), (by first | rfl | (simp; done) | (simp [*]; done)), H', ⟨by first | omega | exact Nat.le_refl _⟩, by repeat (first | exact Drawn0.refl _ | apply Drawn0.step)⟩
    · rw [if_neg c3] at H
      have c3b0 : decide (97 ≤ a0) = false := decide_eq_false c3
      clear c3
      (first | rw [c3b0] | (simp only [i64_w, i32_w]; rw [c3b0]) | skip)
      have H' := Aside0.mk H
      clear H
      go_wp2
      go_meet
      case rel => exact ⟨_, (false), (by first | rfl | (simp; done) | (simp [*]; done)), H', ⟨by first | omega | exact Nat.le_refl _⟩, by repeat (first | exact Drawn0.refl _ | apply Drawn0.step)⟩
  case rest =>
    clear HC2
    try clear p2
    try clear c3
    try clear c3b0
    obtain ⟨kq, x3_1, rfl, HA, HJ1, ⟨mc1, rfl⟩⟩ := hcut
    cases kq with
    | zero => exact absurd HA.out (by simp [path_may.j0])
    | succ kj1 =>
      have H := HA.out
      clear HA
      simp only [path_may.j0] at H
      by_cases c4 : x3_1 = true
      · subst c4
        have H1 : (some true) = some r := by rw [if_pos rfl] at H; exact H
        clear H
        have H := H1
        clear H1
        obtain rfl := Option.some.inj H
        go_wp2
        go_ret
        exact ⟨by first | rfl | (simp; done) | (simp [*]; done), by repeat (first | exact Drawn0.refl _ | apply Drawn0.step)⟩
      · replace c4 := Bool.eq_false_iff.mpr c4
        subst c4
        have H1 : (if a0 ≥ 48 then (path_may.j1 kj1 a0 (decide (a0 ≤ 57))) else (path_may.j1 kj1 a0 false)) = some r := by rw [if_neg (show ¬ (false = true) by decide)] at H; exact H
        clear H
        have H := H1
        clear H1
        have HC5 := Aside0.mk H
        clear H
        go_upto_region 2 with (fail)
        go_cut [3] (fun v3 wc => ∃ (kq : Nat) (x3_4 : Bool), v3 = .bool x3_4 ∧ Aside0 (path_may.j1 kq a0 x3_4 = some r) ∧ Aside0 (kq ≤ kj1) ∧ Drawn0 w wc)
        case first =>
          have H := HC5.out
          clear HC5
          by_cases c6 : a0 ≥ 48
          · rw [if_pos c6] at H
            have c6b0 : decide (48 ≤ a0) = true := decide_eq_true c6
            clear c6
            (first | rw [c6b0] | (simp only [i64_w, i32_w]; rw [c6b0]) | skip)
            have H' := Aside0.mk H
            clear H
            go_wp2
            go_meet
            case rel => exact ⟨_, (decide (a0 ≤ 57)), (by first | rfl | (simp; done) | (simp [*]; done)), H', ⟨by have := HJ1.out; first | omega | exact Nat.le_refl _⟩, by repeat (first | exact Drawn0.refl _ | apply Drawn0.step)⟩
          · rw [if_neg c6] at H
            have c6b0 : decide (48 ≤ a0) = false := decide_eq_false c6
            clear c6
            (first | rw [c6b0] | (simp only [i64_w, i32_w]; rw [c6b0]) | skip)
            have H' := Aside0.mk H
            clear H
            go_wp2
            go_meet
            case rel => exact ⟨_, (false), (by first | rfl | (simp; done) | (simp [*]; done)), H', ⟨by have := HJ1.out; first | omega | exact Nat.le_refl _⟩, by repeat (first | exact Drawn0.refl _ | apply Drawn0.step)⟩
        case rest =>
          clear HC5
          try clear c1
          try clear p2
          try clear c3
          try clear c3b0
          try clear c4
          try clear c6
          try clear c6b0
          try clear p2
          obtain ⟨kq, x3_4, rfl, HA, HJ4, ⟨mc4, rfl⟩⟩ := hcut
          cases kq with
          | zero => exact absurd HA.out (by simp [path_may.j1])
          | succ kj4 =>
            have H := HA.out
            clear HA
            simp only [path_may.j1] at H
            by_cases c7 : x3_4 = true
            · subst c7
              have H1 : (some true) = some r := by rw [if_pos rfl] at H; exact H
              clear H
              have H := H1
              clear H1
              obtain rfl := Option.some.inj H
              go_wp2
              go_ret
              exact ⟨by first | rfl | (simp; done) | (simp [*]; done), by repeat (first | exact Drawn0.refl _ | apply Drawn0.step)⟩
            · replace c7 := Bool.eq_false_iff.mpr c7
              subst c7
              have H1 : (if a0 = 95 then (some true) else (if a0 = 46 then (some true) else (if a0 = 45 then (some true) else (some false)))) = some r := by rw [if_neg (show ¬ (false = true) by decide)] at H; exact H
              clear H
              have H := H1
              clear H1
              by_cases c8 : a0 = 95
              · rw [if_pos c8] at H
                have c8b0 : (a0 == 95) = true := beq_iff_eq.mpr c8
                have c8b1 : (a0 != 95) = false := bne_eq_false_iff_eq.mpr c8
                clear c8
                obtain rfl := Option.some.inj H
                go_wp2
                go_ret
                exact ⟨by first | rfl | (simp; done) | (simp [*]; done), by repeat (first | exact Drawn0.refl _ | apply Drawn0.step)⟩
              · rw [if_neg c8] at H
                have c8b0 : (a0 == 95) = false := beq_eq_false_iff_ne.mpr c8
                have c8b1 : (a0 != 95) = true := bne_iff_ne.mpr c8
                by_cases c9 : a0 = 46
                · rw [if_pos c9] at H
                  have c9b0 : (a0 == 46) = true := beq_iff_eq.mpr c9
                  have c9b1 : (a0 != 46) = false := bne_eq_false_iff_eq.mpr c9
                  clear c9
                  obtain rfl := Option.some.inj H
                  go_wp2
                  go_ret
                  exact ⟨by first | rfl | (simp; done) | (simp [*]; done), by repeat (first | exact Drawn0.refl _ | apply Drawn0.step)⟩
                · rw [if_neg c9] at H
                  have c9b0 : (a0 == 46) = false := beq_eq_false_iff_ne.mpr c9
                  have c9b1 : (a0 != 46) = true := bne_iff_ne.mpr c9
                  by_cases c10 : a0 = 45
                  · rw [if_pos c10] at H
                    have c10b0 : (a0 == 45) = true := beq_iff_eq.mpr c10
                    have c10b1 : (a0 != 45) = false := bne_eq_false_iff_eq.mpr c10
                    clear c10
                    obtain rfl := Option.some.inj H
                    go_wp2
                    go_ret
                    exact ⟨by first | rfl | (simp; done) | (simp [*]; done), by repeat (first | exact Drawn0.refl _ | apply Drawn0.step)⟩
                  · rw [if_neg c10] at H
                    have c10b0 : (a0 == 45) = false := beq_eq_false_iff_ne.mpr c10
                    have c10b1 : (a0 != 45) = true := bne_iff_ne.mpr c10
                    obtain rfl := Option.some.inj H
                    go_wp2
                    go_ret
                    exact ⟨by first | rfl | (simp; done) | (simp [*]; done), by repeat (first | exact Drawn0.refl _ | apply Drawn0.step)⟩

end Go.Proofs.Ytahdgaaedilcmaa.P
/- The functions that the laws of this seat come to, as plain Lean functions, each with the proof that the machine's call comes to it. -/
namespace Go.Proofs.Ytahdgaaedilcmaa.P
open Go.RowKit Go.Proofs.YtahdgaaedilcmaaW.PrintWords Go.Proofs.YtahdgaaedilcmaaW.PrintLast Go.Proofs.YtahdgaaedilcmaaW.PrintMore
attribute [local go_sem] max2_int min2_int max_two min_two max_three min_three max_four min_four   -- for this text's walks alone
set_option linter.unusedVariables false
set_option linter.unusedSimpArgs false

/-! ### path_segment: function 37 -/
mutual
def path_segment.j0 : Nat → ByteArray → Bool → Option (Bool)
  | 0, _, _ => none
  | k + 1, x0, x18 => if x18 = true then (some false) else (path_segment.l0 k x0 (x0.size : Int) 0)
def path_segment.l0 : Nat → ByteArray → Int → Int → Option (Bool)
  | 0, _, _, _ => none
  | k + 1, x0, x20, x21 => if x21 < x20 then (if 0 ≤ x21 then (if x21 < (x0.size : Int) then ((path_may.f k (bt x0 x21)).bind fun t268 => (if t268 = true then (path_segment.l0 k x0 x20 (wrap64 (x21 + 1))) else (some false))) else (none)) else (none)) else (some true)
end
def path_segment.f (k : Nat) (a0 : ByteArray) : Option (Bool) := if a0.toList = ([] : List UInt8) then (path_segment.j0 k a0 true) else (if (a0.size : Int) > 32 then (path_segment.j0 k a0 true) else (if a0.toList = ([46] : List UInt8) then (path_segment.j0 k a0 true) else (path_segment.j0 k a0 (a0.toList == ([46, 46] : List UInt8)))))
theorem path_segment.mono_l : ∀ k, (∀ y0 y1, LeO (path_segment.j0 k y0 y1) (path_segment.j0 (k + 1) y0 y1)) ∧ (∀ y0 y1 y2, LeO (path_segment.l0 k y0 y1 y2) (path_segment.l0 (k + 1) y0 y1 y2))
  | 0 => ⟨fun _ _ r h => by simp [path_segment.j0] at h, fun _ _ _ r h => by simp [path_segment.l0] at h⟩
  | k + 1 => by
    obtain ⟨ih0, ih1⟩ := path_segment.mono_l k
    refine ⟨?_, ?_⟩
    · intro y0 y1
      unfold path_segment.j0
      repeat' first
      | (with_reducible exact ih0 _ _)
      | (with_reducible exact ih1 _ _ _)
      | (with_reducible exact path_may.mono _ _)
      | (with_reducible exact LeO.refl _)
      | (with_reducible exact LeO.none _)
      | (with_reducible refine LeO.ite ?_ ?_)
      | (with_reducible refine LeO.bind ?_ (fun _ => ?_))
      | exact ih0 _ _
      | exact ih1 _ _ _
      | exact path_may.mono _ _
      | exact LeO.none _
      | refine LeO.ite ?_ ?_
      | refine LeO.bind ?_ (fun _ => ?_)
    · intro y0 y1 y2
      unfold path_segment.l0
      repeat' first
      | (with_reducible exact ih0 _ _)
      | (with_reducible exact ih1 _ _ _)
      | (with_reducible exact path_may.mono _ _)
      | (with_reducible exact LeO.refl _)
      | (with_reducible exact LeO.none _)
      | (with_reducible refine LeO.ite ?_ ?_)
      | (with_reducible refine LeO.bind ?_ (fun _ => ?_))
      | exact ih0 _ _
      | exact ih1 _ _ _
      | exact path_may.mono _ _
      | exact LeO.none _
      | refine LeO.ite ?_ ?_
      | refine LeO.bind ?_ (fun _ => ?_)
theorem path_segment.mono : ∀ a0 k, LeO (path_segment.f k a0) (path_segment.f (k + 1) a0) := by
  intro a0 k
  obtain ⟨ih0, ih1⟩ := path_segment.mono_l k
  unfold path_segment.f
  repeat' first
      | (with_reducible exact ih0 _ _)
      | (with_reducible exact ih1 _ _ _)
      | (with_reducible exact path_may.mono _ _)
      | (with_reducible exact LeO.refl _)
      | (with_reducible exact LeO.none _)
      | (with_reducible refine LeO.ite ?_ ?_)
      | (with_reducible refine LeO.bind ?_ (fun _ => ?_))
      | exact ih0 _ _
      | exact ih1 _ _ _
      | exact path_may.mono _ _
      | exact LeO.none _
      | refine LeO.ite ?_ ?_
      | refine LeO.bind ?_ (fun _ => ?_)
set_option maxHeartbeats 8000000 in
set_option maxRecDepth 100000 in
theorem path_segment.calls (k : Nat) (a0 : ByteArray) (r : Bool) (w : World) (h : path_segment.f k a0 = some r) :
    Calls Try.prog 37 #[.string a0] w fun e w' => e = .returned (.bool r) ∧ Drawn0 w w' := by
  have H : (if a0.toList = ([] : List UInt8) then (path_segment.j0 k a0 true) else (if (a0.size : Int) > 32 then (path_segment.j0 k a0 true) else (if a0.toList = ([46] : List UInt8) then (path_segment.j0 k a0 true) else (path_segment.j0 k a0 (a0.toList == ([46, 46] : List UInt8)))))) = some r := h
  clear h
  have HC2 := Aside0.mk H
  clear H
  go_enter Try.func37, Try.ntmps37
  go_upto_region 1 with (fail)
  go_cut [18] (fun v18 wc => ∃ (kq : Nat) (x18_1 : Bool), v18 = .bool x18_1 ∧ Aside0 (path_segment.j0 kq a0 x18_1 = some r) ∧ Aside0 (kq ≤ k) ∧ Drawn0 w wc)
  case first =>
    have H := HC2.out
    clear HC2
    by_cases c3 : a0.toList = ([] : List UInt8)
    · rw [if_pos c3] at H
      have c3b0 : a0.toList.isEmpty = true := by simpa using c3
      have c3b1 : (a0.toList == ([] : List UInt8)) = true := beq_iff_eq.mpr c3
      have c3b2 : (a0.toList != ([] : List UInt8)) = false := bne_eq_false_iff_eq.mpr c3
      clear c3
      (first | rw [c3b0] | (simp only [i64_w, i32_w]; rw [c3b0]) | skip)
      have H' := Aside0.mk H
      clear H
      go_wp2
      go_meet
      case rel => exact ⟨_, (true), (by first | rfl | (simp; done) | (simp [*]; done)), H', ⟨by first | omega | exact Nat.le_refl _⟩, by repeat (first | exact Drawn0.refl _ | apply Drawn0.step)⟩
    · rw [if_neg c3] at H
      have c3b0 : a0.toList.isEmpty = false := by simpa using c3
      have c3b1 : (a0.toList == ([] : List UInt8)) = false := beq_eq_false_iff_ne.mpr c3
      have c3b2 : (a0.toList != ([] : List UInt8)) = true := bne_iff_ne.mpr c3
      (first | rw [c3b0] | (simp only [i64_w, i32_w]; rw [c3b0]) | skip)
      by_cases c4 : (a0.size : Int) > 32
      · rw [if_pos c4] at H
        have c4b0 : decide (32 < (a0.size : Int)) = true := decide_eq_true c4
        have c4b1 : decide (32 < a0.size) = true := decide_eq_true (by omega)
        clear c4
        have H' := Aside0.mk H
        clear H
        go_wp2
        go_meet
        case rel => exact ⟨_, (true), (by first | rfl | (simp; done) | (simp [*]; done)), H', ⟨by first | omega | exact Nat.le_refl _⟩, by repeat (first | exact Drawn0.refl _ | apply Drawn0.step)⟩
      · rw [if_neg c4] at H
        have c4b0 : decide (32 < (a0.size : Int)) = false := decide_eq_false c4
        have c4b1 : decide (32 < a0.size) = false := decide_eq_false (by omega)
        clear c4
        by_cases c5 : a0.toList = ([46] : List UInt8)
        · rw [if_pos c5] at H
          have c5b0 : (a0.toList == ([46] : List UInt8)) = true := beq_iff_eq.mpr c5
          have c5b1 : (a0.toList != ([46] : List UInt8)) = false := bne_eq_false_iff_eq.mpr c5
          clear c5
          have H' := Aside0.mk H
          clear H
          go_wp2
          go_meet
          case rel => exact ⟨_, (true), (by first | rfl | (simp; done) | (simp [*]; done)), H', ⟨by first | omega | exact Nat.le_refl _⟩, by repeat (first | exact Drawn0.refl _ | apply Drawn0.step)⟩
        · rw [if_neg c5] at H
          have c5b0 : (a0.toList == ([46] : List UInt8)) = false := beq_eq_false_iff_ne.mpr c5
          have c5b1 : (a0.toList != ([46] : List UInt8)) = true := bne_iff_ne.mpr c5
          have H' := Aside0.mk H
          clear H
          go_wp2
          go_meet
          case rel => exact ⟨_, ((a0.toList == ([46, 46] : List UInt8))), (by first | rfl | (simp; done) | (simp [*]; done)), H', ⟨by first | omega | exact Nat.le_refl _⟩, by repeat (first | exact Drawn0.refl _ | apply Drawn0.step)⟩
  case rest =>
    clear HC2
    try clear p2
    try clear c3
    try clear c3b0
    try clear c3b1
    try clear c3b2
    try clear c4
    try clear c4b0
    try clear c4b1
    try clear c5
    try clear c5b0
    try clear c5b1
    obtain ⟨kq, x18_1, rfl, HA, HJ1, ⟨mc1, rfl⟩⟩ := hcut
    cases kq with
    | zero => exact absurd HA.out (by simp [path_segment.j0])
    | succ kj1 =>
      have H := HA.out
      clear HA
      simp only [path_segment.j0] at H
      by_cases c6 : x18_1 = true
      · subst c6
        have H1 : (some false) = some r := by rw [if_pos rfl] at H; exact H
        clear H
        have H := H1
        clear H1
        obtain rfl := Option.some.inj H
        go_wp2
        go_ret
        exact ⟨by first | rfl | (simp; done) | (simp [*]; done), by repeat (first | exact Drawn0.refl _ | apply Drawn0.step)⟩
      · replace c6 := Bool.eq_false_iff.mpr c6
        subst c6
        have H1 : (path_segment.l0 kj1 a0 (a0.size : Int) 0) = some r := by rw [if_neg (show ¬ (false = true) by decide)] at H; exact H
        clear H
        have H := H1
        clear H1
        have H' := Aside0.mk H
        clear H
        go_wp2
        go_loopg [21] kj1 (fun kq v21 w' => ∃ (x21_2 : Int), v21 = .int .i64 x21_2 ∧ Aside0 (path_segment.l0 kq a0 (a0.size : Int) x21_2 = some r) ∧ Aside0 (kq ≤ kj1) ∧ Drawn0 w w')
        case atStart => exact ⟨(0), (by first | rfl | (simp; done) | (simp [*]; done)), H', ⟨Nat.le_refl _⟩, by repeat (first | exact Drawn0.refl _ | apply Drawn0.step)⟩
        case round =>
          clear H'
          try clear c1
          try clear p2
          try clear c3
          try clear c3b0
          try clear c3b1
          try clear c3b2
          try clear c4
          try clear c4b0
          try clear c4b1
          try clear c5
          try clear c5b0
          try clear c5b1
          try clear c6
          try clear p2
          obtain ⟨x21_2, rfl, HA, HK2, ⟨m2, rfl⟩⟩ := hrel
          cases gk with
          | zero => exact absurd HA.out (by simp [path_segment.l0])
          | succ k2 =>
            have H := HA.out
            clear HA
            simp only [path_segment.l0] at H
            by_cases c7 : x21_2 < (a0.size : Int)
            · rw [if_pos c7] at H
              have c7b0 : decide (x21_2 < (a0.size : Int)) = true := decide_eq_true c7
              clear c7
              by_cases c8 : 0 ≤ x21_2
              · rw [if_pos c8] at H
                have c8b0 : decide (0 ≤ x21_2) = true := decide_eq_true c8
                clear c8
                by_cases c9 : x21_2 < (a0.size : Int)
                · rw [if_pos c9] at H
                  have c9b0 : decide (x21_2 < (a0.size : Int)) = true := decide_eq_true c9
                  clear c9
                  replace H := Option.bind_eq_some_iff.mp H
                  obtain ⟨t268, A110, H⟩ := H
                  replace H : (if t268 = true then (path_segment.l0 k2 a0 (a0.size : Int) (wrap64 (x21_2 + 1))) else (some false)) = some r := H
                  have A11 := Aside0.mk A110
                  clear A110
                  by_cases c12 : t268 = true
                  · subst c12
                    have H1 : (path_segment.l0 k2 a0 (a0.size : Int) (wrap64 (x21_2 + 1))) = some r := by rw [if_pos rfl] at H; exact H
                    clear H
                    have H := H1
                    clear H1
                    have H' := Aside0.mk H
                    clear H
                    have p10 : 0 ≤ (x21_2 : Int) := of_decide_eq_true (by first | (with_reducible assumption) | assumption)
                    have q10 : x21_2 < (a0.size : Int) := of_decide_eq_true (by first | (with_reducible assumption) | assumption)
                    have hx10 := bt_at a0 x21_2
                    replace p10 := eq_true p10
                    replace q10 := eq_true q10
                    go_wp2_with (first | ((with_reducible refine gate_callee (f := 47) rfl ?_); refine goesL_ (some 27) rfl rfl Try.func47 (by kernel_rfl) rfl #[.int .u8 (bt a0 x21_2)] rfl (by (try simp only [List.map_toArray, List.map_cons, List.map_nil]); first | done | rfl | (simp only [List.length_drop, List.length_take]; rfl)) ?_; (with_reducible refine (path_may.calls k2 (bt a0 x21_2) true _ A11.out).mono ?_); rintro e w' ⟨rfl, ⟨nd, rfl⟩⟩; refine ⟨_, rfl, ?_⟩))
                    go_roundg k2
                    case measure => have := HJ1.out; have := HK2.out; omega
                    case rel => exact ⟨(wrap64 (x21_2 + 1)), (by first | rfl | (simp; done) | (simp [*]; done)), H', ⟨by have := HJ1.out; have := HK2.out; omega⟩, by repeat (first | exact Drawn0.refl _ | apply Drawn0.step)⟩
                  · replace c12 := Bool.eq_false_iff.mpr c12
                    subst c12
                    have H1 : (some false) = some r := by rw [if_neg (show ¬ (false = true) by decide)] at H; exact H
                    clear H
                    have H := H1
                    clear H1
                    obtain rfl := Option.some.inj H
                    have p10 : 0 ≤ (x21_2 : Int) := of_decide_eq_true (by first | (with_reducible assumption) | assumption)
                    have q10 : x21_2 < (a0.size : Int) := of_decide_eq_true (by first | (with_reducible assumption) | assumption)
                    have hx10 := bt_at a0 x21_2
                    replace p10 := eq_true p10
                    replace q10 := eq_true q10
                    go_wp2_with (first | ((with_reducible refine gate_callee (f := 47) rfl ?_); refine goesL_ (some 27) rfl rfl Try.func47 (by kernel_rfl) rfl #[.int .u8 (bt a0 x21_2)] rfl (by (try simp only [List.map_toArray, List.map_cons, List.map_nil]); first | done | rfl | (simp only [List.length_drop, List.length_take]; rfl)) ?_; (with_reducible refine (path_may.calls k2 (bt a0 x21_2) false _ A11.out).mono ?_); rintro e w' ⟨rfl, ⟨nd, rfl⟩⟩; refine ⟨_, rfl, ?_⟩))
                    go_ret
                    exact ⟨by first | rfl | (simp; done) | (simp [*]; done), by repeat (first | exact Drawn0.refl _ | apply Drawn0.step)⟩
                · rw [if_neg c9] at H
                  exact absurd H (by simp)
              · rw [if_neg c8] at H
                exact absurd H (by simp)
            · rw [if_neg c7] at H
              have c7b0 : decide (x21_2 < (a0.size : Int)) = false := decide_eq_false c7
              clear c7
              obtain rfl := Option.some.inj H
              go_wp2
              go_ret
              exact ⟨by first | rfl | (simp; done) | (simp [*]; done), by repeat (first | exact Drawn0.refl _ | apply Drawn0.step)⟩

end Go.Proofs.Ytahdgaaedilcmaa.P
/- The functions that the laws of this seat come to, as plain Lean functions, each with the proof that the machine's call comes to it. -/
namespace Go.Proofs.Ytahdgaaedilcmaa.P
open Go.RowKit Go.Proofs.YtahdgaaedilcmaaW.PrintWords Go.Proofs.YtahdgaaedilcmaaW.PrintLast Go.Proofs.YtahdgaaedilcmaaW.PrintMore
attribute [local go_sem] max2_int min2_int max_two min_two max_three min_three max_four min_four   -- for this text's walks alone
set_option linter.unusedVariables false
set_option linter.unusedSimpArgs false

/-! ### stringslite_Cut: function 46 -/
def stringslite_Cut.f (a0 : ByteArray) (a1 : ByteArray) : Option (ByteArray × ByteArray × Bool) := (stringslite_Index.f a0 a1).bind fun t264 => (if t264 ≥ 0 then (if 0 ≤ t264 then (if t264 ≤ (a0.size : Int) then (if 0 ≤ (wrap64 (t264 + (a1.size : Int))) then (if (wrap64 (t264 + (a1.size : Int))) ≤ (a0.size : Int) then (some (a0.extract 0 (t264 : Int).toNat, a0.extract ((wrap64 (t264 + (a1.size : Int))) : Int).toNat a0.size, true)) else (none)) else (none)) else (none)) else (none)) else (some (a0, (⟨#[]⟩ : ByteArray), false)))
set_option maxHeartbeats 8000000 in
set_option maxRecDepth 100000 in
theorem stringslite_Cut.calls (a0 : ByteArray) (a1 : ByteArray) (r1 : ByteArray) (r2 : ByteArray) (r3 : Bool) (w : World) (h : stringslite_Cut.f a0 a1 = some (r1, r2, r3)) :
    Calls Try.prog 46 #[.string a0, .string a1] w fun e w' => e = .returned (.tuple #[.string r1, .string r2, .bool r3]) ∧ Drawn0 w w' := by
  have H : ((stringslite_Index.f a0 a1).bind fun t264 => (if t264 ≥ 0 then (if 0 ≤ t264 then (if t264 ≤ (a0.size : Int) then (if 0 ≤ (wrap64 (t264 + (a1.size : Int))) then (if (wrap64 (t264 + (a1.size : Int))) ≤ (a0.size : Int) then (some (a0.extract 0 (t264 : Int).toNat, a0.extract ((wrap64 (t264 + (a1.size : Int))) : Int).toNat a0.size, true)) else (none)) else (none)) else (none)) else (none)) else (some (a0, (⟨#[]⟩ : ByteArray), false)))) = some (r1, r2, r3) := h
  clear h
  replace H := Option.bind_eq_some_iff.mp H
  obtain ⟨t264, A30, H⟩ := H
  replace H : (if t264 ≥ 0 then (if 0 ≤ t264 then (if t264 ≤ (a0.size : Int) then (if 0 ≤ (wrap64 (t264 + (a1.size : Int))) then (if (wrap64 (t264 + (a1.size : Int))) ≤ (a0.size : Int) then (some (a0.extract 0 (t264 : Int).toNat, a0.extract ((wrap64 (t264 + (a1.size : Int))) : Int).toNat a0.size, true)) else (none)) else (none)) else (none)) else (none)) else (some (a0, (⟨#[]⟩ : ByteArray), false))) = some (r1, r2, r3) := H
  have A3 := Aside0.mk A30
  clear A30
  by_cases c4 : t264 ≥ 0
  · rw [if_pos c4] at H
    have c4b0 : decide (0 ≤ t264) = true := decide_eq_true c4
    clear c4
    by_cases c5 : 0 ≤ t264
    · rw [if_pos c5] at H
      have c5b0 := eq_true c5
      have c5b1 : decide (0 ≤ t264) = true := decide_eq_true c5
      clear c5
      by_cases c6 : t264 ≤ (a0.size : Int)
      · rw [if_pos c6] at H
        have c6b0 := eq_true c6
        have c6b1 : decide (t264 ≤ (a0.size : Int)) = true := decide_eq_true c6
        clear c6
        obtain ⟨ji7, hji7⟩ : ∃ j_ : Int, (wrap64 (t264 + (a1.size : Int))) = j_ := ⟨_, rfl⟩
        replace H : (if 0 ≤ (ji7) then (if (ji7) ≤ (a0.size : Int) then (some (a0.extract 0 (t264 : Int).toNat, a0.extract ((ji7) : Int).toNat a0.size, true)) else (none)) else (none)) = some (r1, r2, r3) := by first | (rw [hji7] at H; exact H) | (simp only [hji7] at H ⊢; exact H)
        (try rw [hji7] at A3)
        have hji7w : (IntKind.i64.wrap (t264 + (a1.size : Int))) = ji7 := (i64_w _).trans hji7
        by_cases c8 : 0 ≤ (ji7)
        · rw [if_pos c8] at H
          have c8b0 := eq_true c8
          have c8b1 : decide (0 ≤ (ji7)) = true := decide_eq_true c8
          clear c8
          by_cases c9 : (ji7) ≤ (a0.size : Int)
          · rw [if_pos c9] at H
            have c9b0 := eq_true c9
            have c9b1 : decide ((ji7) ≤ (a0.size : Int)) = true := decide_eq_true c9
            clear c9
            simp only [Option.some.injEq, Prod.mk.injEq] at H
            obtain ⟨rfl, rfl, rfl⟩ := H
            go_enter Try.func46, Try.ntmps46
            go_wp2_with (first | (go_at_call 58; (with_reducible refine (stringslite_Index.calls a0 a1 t264 _ A3.out).mono ?_); rintro e w' ⟨rfl, ⟨nd, rfl⟩⟩; (try first | exact ⟨rfl, _, World.drewN_drewN _ _ _⟩ | exact ⟨rfl, _, Eq.trans (World.drewN_drewN _ _ _) (congrArg (World.drewN _) (Nat.add_assoc _ _ _))⟩)))
            repeat (go_quiet (first | (go_at_call 58; (with_reducible refine (stringslite_Index.calls a0 a1 t264 _ A3.out).mono ?_); rintro e w' ⟨rfl, ⟨nd, rfl⟩⟩; (try first | exact ⟨rfl, _, World.drewN_drewN _ _ _⟩ | exact ⟨rfl, _, Eq.trans (World.drewN_drewN _ _ _) (congrArg (World.drewN _) (Nat.add_assoc _ _ _))⟩))); try go_wp2_with (first | (go_at_call 58; (with_reducible refine (stringslite_Index.calls a0 a1 t264 _ A3.out).mono ?_); rintro e w' ⟨rfl, ⟨nd, rfl⟩⟩; (try first | exact ⟨rfl, _, World.drewN_drewN _ _ _⟩ | exact ⟨rfl, _, Eq.trans (World.drewN_drewN _ _ _) (congrArg (World.drewN _) (Nat.add_assoc _ _ _))⟩))))
            go_ret3
            exact ⟨by first | rfl | (simp; done) | (simp only [← hji7] <;> (first | rfl | simp)) | (simp [*]; done), by repeat (first | exact Drawn0.refl _ | apply Drawn0.step)⟩
          · rw [if_neg c9] at H
            exact absurd H (by simp)
        · rw [if_neg c8] at H
          exact absurd H (by simp)
      · rw [if_neg c6] at H
        exact absurd H (by simp)
    · rw [if_neg c5] at H
      exact absurd H (by simp)
  · rw [if_neg c4] at H
    have c4b0 : decide (0 ≤ t264) = false := decide_eq_false c4
    clear c4
    simp only [Option.some.injEq, Prod.mk.injEq] at H
    obtain ⟨rfl, rfl, rfl⟩ := H
    go_enter Try.func46, Try.ntmps46
    go_wp2_with (first | (go_at_call 58; (with_reducible refine (stringslite_Index.calls a0 a1 t264 _ A3.out).mono ?_); rintro e w' ⟨rfl, ⟨nd, rfl⟩⟩; (try first | exact ⟨rfl, _, World.drewN_drewN _ _ _⟩ | exact ⟨rfl, _, Eq.trans (World.drewN_drewN _ _ _) (congrArg (World.drewN _) (Nat.add_assoc _ _ _))⟩)))
    repeat (go_quiet (first | (go_at_call 58; (with_reducible refine (stringslite_Index.calls a0 a1 t264 _ A3.out).mono ?_); rintro e w' ⟨rfl, ⟨nd, rfl⟩⟩; (try first | exact ⟨rfl, _, World.drewN_drewN _ _ _⟩ | exact ⟨rfl, _, Eq.trans (World.drewN_drewN _ _ _) (congrArg (World.drewN _) (Nat.add_assoc _ _ _))⟩))); try go_wp2_with (first | (go_at_call 58; (with_reducible refine (stringslite_Index.calls a0 a1 t264 _ A3.out).mono ?_); rintro e w' ⟨rfl, ⟨nd, rfl⟩⟩; (try first | exact ⟨rfl, _, World.drewN_drewN _ _ _⟩ | exact ⟨rfl, _, Eq.trans (World.drewN_drewN _ _ _) (congrArg (World.drewN _) (Nat.add_assoc _ _ _))⟩))))
    go_ret3
    exact ⟨by first | rfl | (simp; done) | (simp [*]; done), by repeat (first | exact Drawn0.refl _ | apply Drawn0.step)⟩

end Go.Proofs.Ytahdgaaedilcmaa.P
/- The functions that the laws of this seat come to, as plain Lean functions, each with the proof that the machine's call comes to it. -/
namespace Go.Proofs.Ytahdgaaedilcmaa.P
open Go.RowKit Go.Proofs.YtahdgaaedilcmaaW.PrintWords Go.Proofs.YtahdgaaedilcmaaW.PrintLast Go.Proofs.YtahdgaaedilcmaaW.PrintMore
attribute [local go_sem] max2_int min2_int max_two min_two max_three min_three max_four min_four   -- for this text's walks alone
set_option linter.unusedVariables false
set_option linter.unusedSimpArgs false

/-! ### strings_Cut: function 36 -/
def strings_Cut.f (a0 : ByteArray) (a1 : ByteArray) : Option (ByteArray × ByteArray × Bool) := (stringslite_Cut.f a0 a1).bind fun bt265 => (some (bt265.1, bt265.2.1, bt265.2.2))
set_option maxHeartbeats 8000000 in
set_option maxRecDepth 100000 in
theorem strings_Cut.calls (a0 : ByteArray) (a1 : ByteArray) (r1 : ByteArray) (r2 : ByteArray) (r3 : Bool) (w : World) (h : strings_Cut.f a0 a1 = some (r1, r2, r3)) :
    Calls Try.prog 36 #[.string a0, .string a1] w fun e w' => e = .returned (.tuple #[.string r1, .string r2, .bool r3]) ∧ Drawn0 w w' := by
  have H : ((stringslite_Cut.f a0 a1).bind fun bt265 => (some (bt265.1, bt265.2.1, bt265.2.2))) = some (r1, r2, r3) := h
  clear h
  replace H := Option.bind_eq_some_iff.mp H
  obtain ⟨⟨t265, t266, t267⟩, A30, H⟩ := H
  replace H : (some (t265, t266, t267)) = some (r1, r2, r3) := H
  have A3 := Aside0.mk A30
  clear A30
  simp only [Option.some.injEq, Prod.mk.injEq] at H
  obtain ⟨rfl, rfl, rfl⟩ := H
  go_enter Try.func36, Try.ntmps36
  go_wp2_with (first | ((with_reducible refine gate_callee (f := 46) rfl ?_); refine goesL_ (some 9) rfl rfl Try.func46 (by kernel_rfl) rfl #[.string a0, .string a1] rfl (by (try simp only [List.map_toArray, List.map_cons, List.map_nil]); first | done | rfl | (simp only [List.length_drop, List.length_take]; rfl)) ?_; (with_reducible refine (stringslite_Cut.calls a0 a1 t265 t266 t267 _ A3.out).mono ?_); rintro e w' ⟨rfl, ⟨nd, rfl⟩⟩; refine ⟨_, rfl, ?_⟩))
  go_ret3
  exact ⟨by first | rfl | (simp; done) | (simp [*]; done), by repeat (first | exact Drawn0.refl _ | apply Drawn0.step)⟩

end Go.Proofs.Ytahdgaaedilcmaa.P
/- The functions that the laws of this seat come to, as plain Lean functions, each with the proof that the machine's call comes to it. -/
namespace Go.Proofs.Ytahdgaaedilcmaa.P
open Go.RowKit Go.Proofs.YtahdgaaedilcmaaW.PrintWords Go.Proofs.YtahdgaaedilcmaaW.PrintLast Go.Proofs.YtahdgaaedilcmaaW.PrintMore
attribute [local go_sem] max2_int min2_int max_two min_two max_three min_three max_four min_four   -- for this text's walks alone
set_option linter.unusedVariables false
set_option linter.unusedSimpArgs false

/-! ### brickyardref09_Segment: function 44 -/
mutual
def brickyardref09_Segment.j0 : Nat → ByteArray → Bool → Option (Bool)
  | 0, _, _ => none
  | k + 1, x0, x20 => if x20 = true then (some false) else (brickyardref09_Segment.l0 k x0 0)
def brickyardref09_Segment.l0 : Nat → ByteArray → Int → Option (Bool)
  | 0, _, _ => none
  | k + 1, x0, x3 => if x3 < (x0.size : Int) then (if 0 ≤ x3 then (if (bt x0 x3) < 97 then (if (bt x0 x3) < 48 then (if (bt x0 x3) = 95 then (brickyardref09_Segment.l0 k x0 (wrap64 (x3 + 1))) else (if (bt x0 x3) = 46 then (brickyardref09_Segment.l0 k x0 (wrap64 (x3 + 1))) else (if (bt x0 x3) = 45 then (brickyardref09_Segment.l0 k x0 (wrap64 (x3 + 1))) else (some false)))) else (if (bt x0 x3) > 57 then (if (bt x0 x3) = 95 then (brickyardref09_Segment.l0 k x0 (wrap64 (x3 + 1))) else (if (bt x0 x3) = 46 then (brickyardref09_Segment.l0 k x0 (wrap64 (x3 + 1))) else (if (bt x0 x3) = 45 then (brickyardref09_Segment.l0 k x0 (wrap64 (x3 + 1))) else (some false)))) else (brickyardref09_Segment.l0 k x0 (wrap64 (x3 + 1))))) else (if (bt x0 x3) > 122 then (if (bt x0 x3) < 48 then (if (bt x0 x3) = 95 then (brickyardref09_Segment.l0 k x0 (wrap64 (x3 + 1))) else (if (bt x0 x3) = 46 then (brickyardref09_Segment.l0 k x0 (wrap64 (x3 + 1))) else (if (bt x0 x3) = 45 then (brickyardref09_Segment.l0 k x0 (wrap64 (x3 + 1))) else (some false)))) else (if (bt x0 x3) > 57 then (if (bt x0 x3) = 95 then (brickyardref09_Segment.l0 k x0 (wrap64 (x3 + 1))) else (if (bt x0 x3) = 46 then (brickyardref09_Segment.l0 k x0 (wrap64 (x3 + 1))) else (if (bt x0 x3) = 45 then (brickyardref09_Segment.l0 k x0 (wrap64 (x3 + 1))) else (some false)))) else (brickyardref09_Segment.l0 k x0 (wrap64 (x3 + 1))))) else (brickyardref09_Segment.l0 k x0 (wrap64 (x3 + 1))))) else (none)) else (some true)
end
def brickyardref09_Segment.f (k : Nat) (a0 : ByteArray) : Option (Bool) := if (a0.size : Int) < 1 then (brickyardref09_Segment.j0 k a0 true) else (if (a0.size : Int) > 32 then (brickyardref09_Segment.j0 k a0 true) else (if a0.toList = ([46] : List UInt8) then (brickyardref09_Segment.j0 k a0 true) else (brickyardref09_Segment.j0 k a0 (a0.toList == ([46, 46] : List UInt8)))))
theorem brickyardref09_Segment.mono_l : ∀ k, (∀ y0 y1, LeO (brickyardref09_Segment.j0 k y0 y1) (brickyardref09_Segment.j0 (k + 1) y0 y1)) ∧ (∀ y0 y1, LeO (brickyardref09_Segment.l0 k y0 y1) (brickyardref09_Segment.l0 (k + 1) y0 y1))
  | 0 => ⟨fun _ _ r h => by simp [brickyardref09_Segment.j0] at h, fun _ _ r h => by simp [brickyardref09_Segment.l0] at h⟩
  | k + 1 => by
    obtain ⟨ih0, ih1⟩ := brickyardref09_Segment.mono_l k
    refine ⟨?_, ?_⟩
    · intro y0 y1
      unfold brickyardref09_Segment.j0
      repeat' first
      | (with_reducible exact ih0 _ _)
      | (with_reducible exact ih1 _ _)
      | (with_reducible exact LeO.refl _)
      | (with_reducible exact LeO.none _)
      | (with_reducible refine LeO.ite ?_ ?_)
      | (with_reducible refine LeO.bind ?_ (fun _ => ?_))
      | exact ih0 _ _
      | exact ih1 _ _
      | exact LeO.none _
      | refine LeO.ite ?_ ?_
      | refine LeO.bind ?_ (fun _ => ?_)
    · intro y0 y1
      unfold brickyardref09_Segment.l0
      repeat' first
      | (with_reducible exact ih0 _ _)
      | (with_reducible exact ih1 _ _)
      | (with_reducible exact LeO.refl _)
      | (with_reducible exact LeO.none _)
      | (with_reducible refine LeO.ite ?_ ?_)
      | (with_reducible refine LeO.bind ?_ (fun _ => ?_))
      | exact ih0 _ _
      | exact ih1 _ _
      | exact LeO.none _
      | refine LeO.ite ?_ ?_
      | refine LeO.bind ?_ (fun _ => ?_)
theorem brickyardref09_Segment.mono : ∀ a0 k, LeO (brickyardref09_Segment.f k a0) (brickyardref09_Segment.f (k + 1) a0) := by
  intro a0 k
  obtain ⟨ih0, ih1⟩ := brickyardref09_Segment.mono_l k
  unfold brickyardref09_Segment.f
  repeat' first
      | (with_reducible exact ih0 _ _)
      | (with_reducible exact ih1 _ _)
      | (with_reducible exact LeO.refl _)
      | (with_reducible exact LeO.none _)
      | (with_reducible refine LeO.ite ?_ ?_)
      | (with_reducible refine LeO.bind ?_ (fun _ => ?_))
      | exact ih0 _ _
      | exact ih1 _ _
      | exact LeO.none _
      | refine LeO.ite ?_ ?_
      | refine LeO.bind ?_ (fun _ => ?_)
set_option maxHeartbeats 8000000 in
set_option maxRecDepth 100000 in
theorem brickyardref09_Segment.calls (k : Nat) (a0 : ByteArray) (r : Bool) (w : World) (h : brickyardref09_Segment.f k a0 = some r) :
    Calls Try.prog 44 #[.string a0] w fun e w' => e = .returned (.bool r) ∧ Drawn0 w w' := by
  have H : (if (a0.size : Int) < 1 then (brickyardref09_Segment.j0 k a0 true) else (if (a0.size : Int) > 32 then (brickyardref09_Segment.j0 k a0 true) else (if a0.toList = ([46] : List UInt8) then (brickyardref09_Segment.j0 k a0 true) else (brickyardref09_Segment.j0 k a0 (a0.toList == ([46, 46] : List UInt8)))))) = some r := h
  clear h
  have HC2 := Aside0.mk H
  clear H
  go_enter Try.func44, Try.ntmps44
  go_upto_region 1 with (fail)
  go_cut [20] (fun v20 wc => ∃ (kq : Nat) (x20_1 : Bool), v20 = .bool x20_1 ∧ Aside0 (brickyardref09_Segment.j0 kq a0 x20_1 = some r) ∧ Aside0 (kq ≤ k) ∧ Drawn0 w wc)
  case first =>
    have H := HC2.out
    clear HC2
    by_cases c3 : (a0.size : Int) < 1
    · rw [if_pos c3] at H
      have c3b0 : decide ((a0.size : Int) < 1) = true := decide_eq_true c3
      have c3b1 : decide (a0.size < 1) = true := decide_eq_true (by omega)
      clear c3
      (first | rw [c3b0] | (simp only [i64_w, i32_w]; rw [c3b0]) | skip)
      have H' := Aside0.mk H
      clear H
      go_wp2
      go_meet
      case rel => exact ⟨_, (true), (by first | rfl | (simp; done) | (simp [*]; done)), H', ⟨by first | omega | exact Nat.le_refl _⟩, by repeat (first | exact Drawn0.refl _ | apply Drawn0.step)⟩
    · rw [if_neg c3] at H
      have c3b0 : decide ((a0.size : Int) < 1) = false := decide_eq_false c3
      have c3b1 : decide (a0.size < 1) = false := decide_eq_false (by omega)
      clear c3
      (first | rw [c3b0] | (simp only [i64_w, i32_w]; rw [c3b0]) | skip)
      by_cases c4 : (a0.size : Int) > 32
      · rw [if_pos c4] at H
        have c4b0 : decide (32 < (a0.size : Int)) = true := decide_eq_true c4
        have c4b1 : decide (32 < a0.size) = true := decide_eq_true (by omega)
        clear c4
        have H' := Aside0.mk H
        clear H
        go_wp2
        go_meet
        case rel => exact ⟨_, (true), (by first | rfl | (simp; done) | (simp [*]; done)), H', ⟨by first | omega | exact Nat.le_refl _⟩, by repeat (first | exact Drawn0.refl _ | apply Drawn0.step)⟩
      · rw [if_neg c4] at H
        have c4b0 : decide (32 < (a0.size : Int)) = false := decide_eq_false c4
        have c4b1 : decide (32 < a0.size) = false := decide_eq_false (by omega)
        clear c4
        by_cases c5 : a0.toList = ([46] : List UInt8)
        · rw [if_pos c5] at H
          have c5b0 : (a0.toList == ([46] : List UInt8)) = true := beq_iff_eq.mpr c5
          have c5b1 : (a0.toList != ([46] : List UInt8)) = false := bne_eq_false_iff_eq.mpr c5
          clear c5
          have H' := Aside0.mk H
          clear H
          go_wp2
          go_meet
          case rel => exact ⟨_, (true), (by first | rfl | (simp; done) | (simp [*]; done)), H', ⟨by first | omega | exact Nat.le_refl _⟩, by repeat (first | exact Drawn0.refl _ | apply Drawn0.step)⟩
        · rw [if_neg c5] at H
          have c5b0 : (a0.toList == ([46] : List UInt8)) = false := beq_eq_false_iff_ne.mpr c5
          have c5b1 : (a0.toList != ([46] : List UInt8)) = true := bne_iff_ne.mpr c5
          have H' := Aside0.mk H
          clear H
          go_wp2
          go_meet
          case rel => exact ⟨_, ((a0.toList == ([46, 46] : List UInt8))), (by first | rfl | (simp; done) | (simp [*]; done)), H', ⟨by first | omega | exact Nat.le_refl _⟩, by repeat (first | exact Drawn0.refl _ | apply Drawn0.step)⟩
  case rest =>
    clear HC2
    try clear p2
    try clear c3
    try clear c3b0
    try clear c3b1
    try clear c4
    try clear c4b0
    try clear c4b1
    try clear c5
    try clear c5b0
    try clear c5b1
    obtain ⟨kq, x20_1, rfl, HA, HJ1, ⟨mc1, rfl⟩⟩ := hcut
    cases kq with
    | zero => exact absurd HA.out (by simp [brickyardref09_Segment.j0])
    | succ kj1 =>
      have H := HA.out
      clear HA
      simp only [brickyardref09_Segment.j0] at H
      by_cases c6 : x20_1 = true
      · subst c6
        have H1 : (some false) = some r := by rw [if_pos rfl] at H; exact H
        clear H
        have H := H1
        clear H1
        obtain rfl := Option.some.inj H
        go_wp2
        go_ret
        exact ⟨by first | rfl | (simp; done) | (simp [*]; done), by repeat (first | exact Drawn0.refl _ | apply Drawn0.step)⟩
      · replace c6 := Bool.eq_false_iff.mpr c6
        subst c6
        have H1 : (brickyardref09_Segment.l0 kj1 a0 0) = some r := by rw [if_neg (show ¬ (false = true) by decide)] at H; exact H
        clear H
        have H := H1
        clear H1
        have H' := Aside0.mk H
        clear H
        go_wp2
        go_loopg [3] kj1 (fun kq v3 w' => ∃ (x3_2 : Int), v3 = .int .i64 x3_2 ∧ Aside0 (brickyardref09_Segment.l0 kq a0 x3_2 = some r) ∧ Aside0 (kq ≤ kj1) ∧ Drawn0 w w')
        case atStart => exact ⟨(0), (by first | rfl | (simp; done) | (simp [*]; done)), H', ⟨Nat.le_refl _⟩, by repeat (first | exact Drawn0.refl _ | apply Drawn0.step)⟩
        case round =>
          clear H'
          try clear c1
          try clear p2
          try clear c3
          try clear c3b0
          try clear c3b1
          try clear c4
          try clear c4b0
          try clear c4b1
          try clear c5
          try clear c5b0
          try clear c5b1
          try clear c6
          try clear p2
          obtain ⟨x3_2, rfl, HA, HK2, ⟨m2, rfl⟩⟩ := hrel
          cases gk with
          | zero => exact absurd HA.out (by simp [brickyardref09_Segment.l0])
          | succ k2 =>
            have H := HA.out
            clear HA
            simp only [brickyardref09_Segment.l0] at H
            by_cases c7 : x3_2 < (a0.size : Int)
            · rw [if_pos c7] at H
              have c7b0 : decide (x3_2 < (a0.size : Int)) = true := decide_eq_true c7
              clear c7
              by_cases c8 : 0 ≤ x3_2
              · rw [if_pos c8] at H
                have c8b0 : decide (0 ≤ x3_2) = true := decide_eq_true c8
                clear c8
                by_cases c10 : (bt a0 x3_2) < 97
                · rw [if_pos c10] at H
                  have c10b0 : decide ((bt a0 x3_2) < 97) = true := decide_eq_true c10
                  clear c10
                  by_cases c11 : (bt a0 x3_2) < 48
                  · rw [if_pos c11] at H
                    have c11b0 : decide ((bt a0 x3_2) < 48) = true := decide_eq_true c11
                    clear c11
                    by_cases c12 : (bt a0 x3_2) = 95
                    · rw [if_pos c12] at H
                      have c12b0 : ((bt a0 x3_2) == 95) = true := beq_iff_eq.mpr c12
                      have c12b1 : ((bt a0 x3_2) != 95) = false := bne_eq_false_iff_eq.mpr c12
                      clear c12
                      have H' := Aside0.mk H
                      clear H
                      have p9 : 0 ≤ (x3_2 : Int) := of_decide_eq_true (by first | (with_reducible assumption) | assumption)
                      have q9 : x3_2 < (a0.size : Int) := of_decide_eq_true (by first | (with_reducible assumption) | assumption)
                      have hx9 := bt_at a0 x3_2
                      replace p9 := eq_true p9
                      replace q9 := eq_true q9
                      go_wp2
                      go_roundg k2
                      case measure => have := HJ1.out; have := HK2.out; omega
                      case rel => exact ⟨(wrap64 (x3_2 + 1)), (by first | rfl | (simp; done) | (simp [*]; done)), H', ⟨by have := HJ1.out; have := HK2.out; omega⟩, by repeat (first | exact Drawn0.refl _ | apply Drawn0.step)⟩
                    · rw [if_neg c12] at H
                      have c12b0 : ((bt a0 x3_2) == 95) = false := beq_eq_false_iff_ne.mpr c12
                      have c12b1 : ((bt a0 x3_2) != 95) = true := bne_iff_ne.mpr c12
                      by_cases c13 : (bt a0 x3_2) = 46
                      · rw [if_pos c13] at H
                        have c13b0 : ((bt a0 x3_2) == 46) = true := beq_iff_eq.mpr c13
                        have c13b1 : ((bt a0 x3_2) != 46) = false := bne_eq_false_iff_eq.mpr c13
                        clear c13
                        have H' := Aside0.mk H
                        clear H
                        have p9 : 0 ≤ (x3_2 : Int) := of_decide_eq_true (by first | (with_reducible assumption) | assumption)
                        have q9 : x3_2 < (a0.size : Int) := of_decide_eq_true (by first | (with_reducible assumption) | assumption)
                        have hx9 := bt_at a0 x3_2
                        replace p9 := eq_true p9
                        replace q9 := eq_true q9
                        go_wp2
                        go_roundg k2
                        case measure => have := HJ1.out; have := HK2.out; omega
                        case rel => exact ⟨(wrap64 (x3_2 + 1)), (by first | rfl | (simp; done) | (simp [*]; done)), H', ⟨by have := HJ1.out; have := HK2.out; omega⟩, by repeat (first | exact Drawn0.refl _ | apply Drawn0.step)⟩
                      · rw [if_neg c13] at H
                        have c13b0 : ((bt a0 x3_2) == 46) = false := beq_eq_false_iff_ne.mpr c13
                        have c13b1 : ((bt a0 x3_2) != 46) = true := bne_iff_ne.mpr c13
                        by_cases c14 : (bt a0 x3_2) = 45
                        · rw [if_pos c14] at H
                          have c14b0 : ((bt a0 x3_2) == 45) = true := beq_iff_eq.mpr c14
                          have c14b1 : ((bt a0 x3_2) != 45) = false := bne_eq_false_iff_eq.mpr c14
                          clear c14
                          have H' := Aside0.mk H
                          clear H
                          have p9 : 0 ≤ (x3_2 : Int) := of_decide_eq_true (by first | (with_reducible assumption) | assumption)
                          have q9 : x3_2 < (a0.size : Int) := of_decide_eq_true (by first | (with_reducible assumption) | assumption)
                          have hx9 := bt_at a0 x3_2
                          replace p9 := eq_true p9
                          replace q9 := eq_true q9
                          go_wp2
                          go_roundg k2
                          case measure => have := HJ1.out; have := HK2.out; omega
                          case rel => exact ⟨(wrap64 (x3_2 + 1)), (by first | rfl | (simp; done) | (simp [*]; done)), H', ⟨by have := HJ1.out; have := HK2.out; omega⟩, by repeat (first | exact Drawn0.refl _ | apply Drawn0.step)⟩
                        · rw [if_neg c14] at H
                          have c14b0 : ((bt a0 x3_2) == 45) = false := beq_eq_false_iff_ne.mpr c14
                          have c14b1 : ((bt a0 x3_2) != 45) = true := bne_iff_ne.mpr c14
                          obtain rfl := Option.some.inj H
                          have p9 : 0 ≤ (x3_2 : Int) := of_decide_eq_true (by first | (with_reducible assumption) | assumption)
                          have q9 : x3_2 < (a0.size : Int) := of_decide_eq_true (by first | (with_reducible assumption) | assumption)
                          have hx9 := bt_at a0 x3_2
                          replace p9 := eq_true p9
                          replace q9 := eq_true q9
                          go_wp2
                          go_ret
                          exact ⟨by first | rfl | (simp; done) | (simp [*]; done), by repeat (first | exact Drawn0.refl _ | apply Drawn0.step)⟩
                  · rw [if_neg c11] at H
                    have c11b0 : decide ((bt a0 x3_2) < 48) = false := decide_eq_false c11
                    clear c11
                    by_cases c15 : (bt a0 x3_2) > 57
                    · rw [if_pos c15] at H
                      have c15b0 : decide (57 < (bt a0 x3_2)) = true := decide_eq_true c15
                      clear c15
                      by_cases c16 : (bt a0 x3_2) = 95
                      · rw [if_pos c16] at H
                        have c16b0 : ((bt a0 x3_2) == 95) = true := beq_iff_eq.mpr c16
                        have c16b1 : ((bt a0 x3_2) != 95) = false := bne_eq_false_iff_eq.mpr c16
                        clear c16
                        have H' := Aside0.mk H
                        clear H
                        have p9 : 0 ≤ (x3_2 : Int) := of_decide_eq_true (by first | (with_reducible assumption) | assumption)
                        have q9 : x3_2 < (a0.size : Int) := of_decide_eq_true (by first | (with_reducible assumption) | assumption)
                        have hx9 := bt_at a0 x3_2
                        replace p9 := eq_true p9
                        replace q9 := eq_true q9
                        go_wp2
                        go_roundg k2
                        case measure => have := HJ1.out; have := HK2.out; omega
                        case rel => exact ⟨(wrap64 (x3_2 + 1)), (by first | rfl | (simp; done) | (simp [*]; done)), H', ⟨by have := HJ1.out; have := HK2.out; omega⟩, by repeat (first | exact Drawn0.refl _ | apply Drawn0.step)⟩
                      · rw [if_neg c16] at H
                        have c16b0 : ((bt a0 x3_2) == 95) = false := beq_eq_false_iff_ne.mpr c16
                        have c16b1 : ((bt a0 x3_2) != 95) = true := bne_iff_ne.mpr c16
                        by_cases c17 : (bt a0 x3_2) = 46
                        · rw [if_pos c17] at H
                          have c17b0 : ((bt a0 x3_2) == 46) = true := beq_iff_eq.mpr c17
                          have c17b1 : ((bt a0 x3_2) != 46) = false := bne_eq_false_iff_eq.mpr c17
                          clear c17
                          have H' := Aside0.mk H
                          clear H
                          have p9 : 0 ≤ (x3_2 : Int) := of_decide_eq_true (by first | (with_reducible assumption) | assumption)
                          have q9 : x3_2 < (a0.size : Int) := of_decide_eq_true (by first | (with_reducible assumption) | assumption)
                          have hx9 := bt_at a0 x3_2
                          replace p9 := eq_true p9
                          replace q9 := eq_true q9
                          go_wp2
                          go_roundg k2
                          case measure => have := HJ1.out; have := HK2.out; omega
                          case rel => exact ⟨(wrap64 (x3_2 + 1)), (by first | rfl | (simp; done) | (simp [*]; done)), H', ⟨by have := HJ1.out; have := HK2.out; omega⟩, by repeat (first | exact Drawn0.refl _ | apply Drawn0.step)⟩
                        · rw [if_neg c17] at H
                          have c17b0 : ((bt a0 x3_2) == 46) = false := beq_eq_false_iff_ne.mpr c17
                          have c17b1 : ((bt a0 x3_2) != 46) = true := bne_iff_ne.mpr c17
                          by_cases c18 : (bt a0 x3_2) = 45
                          · rw [if_pos c18] at H
                            have c18b0 : ((bt a0 x3_2) == 45) = true := beq_iff_eq.mpr c18
                            have c18b1 : ((bt a0 x3_2) != 45) = false := bne_eq_false_iff_eq.mpr c18
                            clear c18
                            have H' := Aside0.mk H
                            clear H
                            have p9 : 0 ≤ (x3_2 : Int) := of_decide_eq_true (by first | (with_reducible assumption) | assumption)
                            have q9 : x3_2 < (a0.size : Int) := of_decide_eq_true (by first | (with_reducible assumption) | assumption)
                            have hx9 := bt_at a0 x3_2
                            replace p9 := eq_true p9
                            replace q9 := eq_true q9
                            go_wp2
                            go_roundg k2
                            case measure => have := HJ1.out; have := HK2.out; omega
                            case rel => exact ⟨(wrap64 (x3_2 + 1)), (by first | rfl | (simp; done) | (simp [*]; done)), H', ⟨by have := HJ1.out; have := HK2.out; omega⟩, by repeat (first | exact Drawn0.refl _ | apply Drawn0.step)⟩
                          · rw [if_neg c18] at H
                            have c18b0 : ((bt a0 x3_2) == 45) = false := beq_eq_false_iff_ne.mpr c18
                            have c18b1 : ((bt a0 x3_2) != 45) = true := bne_iff_ne.mpr c18
                            obtain rfl := Option.some.inj H
                            have p9 : 0 ≤ (x3_2 : Int) := of_decide_eq_true (by first | (with_reducible assumption) | assumption)
                            have q9 : x3_2 < (a0.size : Int) := of_decide_eq_true (by first | (with_reducible assumption) | assumption)
                            have hx9 := bt_at a0 x3_2
                            replace p9 := eq_true p9
                            replace q9 := eq_true q9
                            go_wp2
                            go_ret
                            exact ⟨by first | rfl | (simp; done) | (simp [*]; done), by repeat (first | exact Drawn0.refl _ | apply Drawn0.step)⟩
                    · rw [if_neg c15] at H
                      have c15b0 : decide (57 < (bt a0 x3_2)) = false := decide_eq_false c15
                      clear c15
                      have H' := Aside0.mk H
                      clear H
                      have p9 : 0 ≤ (x3_2 : Int) := of_decide_eq_true (by first | (with_reducible assumption) | assumption)
                      have q9 : x3_2 < (a0.size : Int) := of_decide_eq_true (by first | (with_reducible assumption) | assumption)
                      have hx9 := bt_at a0 x3_2
                      replace p9 := eq_true p9
                      replace q9 := eq_true q9
                      go_wp2
                      go_roundg k2
                      case measure => have := HJ1.out; have := HK2.out; omega
                      case rel => exact ⟨(wrap64 (x3_2 + 1)), (by first | rfl | (simp; done) | (simp [*]; done)), H', ⟨by have := HJ1.out; have := HK2.out; omega⟩, by repeat (first | exact Drawn0.refl _ | apply Drawn0.step)⟩
                · rw [if_neg c10] at H
                  have c10b0 : decide ((bt a0 x3_2) < 97) = false := decide_eq_false c10
                  clear c10
                  by_cases c19 : (bt a0 x3_2) > 122
                  · rw [if_pos c19] at H
                    have c19b0 : decide (122 < (bt a0 x3_2)) = true := decide_eq_true c19
                    clear c19
                    by_cases c20 : (bt a0 x3_2) < 48
                    · rw [if_pos c20] at H
                      have c20b0 : decide ((bt a0 x3_2) < 48) = true := decide_eq_true c20
                      clear c20
                      by_cases c21 : (bt a0 x3_2) = 95
                      · rw [if_pos c21] at H
                        have c21b0 : ((bt a0 x3_2) == 95) = true := beq_iff_eq.mpr c21
                        have c21b1 : ((bt a0 x3_2) != 95) = false := bne_eq_false_iff_eq.mpr c21
                        clear c21
                        have H' := Aside0.mk H
                        clear H
                        have p9 : 0 ≤ (x3_2 : Int) := of_decide_eq_true (by first | (with_reducible assumption) | assumption)
                        have q9 : x3_2 < (a0.size : Int) := of_decide_eq_true (by first | (with_reducible assumption) | assumption)
                        have hx9 := bt_at a0 x3_2
                        replace p9 := eq_true p9
                        replace q9 := eq_true q9
                        go_wp2
                        go_roundg k2
                        case measure => have := HJ1.out; have := HK2.out; omega
                        case rel => exact ⟨(wrap64 (x3_2 + 1)), (by first | rfl | (simp; done) | (simp [*]; done)), H', ⟨by have := HJ1.out; have := HK2.out; omega⟩, by repeat (first | exact Drawn0.refl _ | apply Drawn0.step)⟩
                      · rw [if_neg c21] at H
                        have c21b0 : ((bt a0 x3_2) == 95) = false := beq_eq_false_iff_ne.mpr c21
                        have c21b1 : ((bt a0 x3_2) != 95) = true := bne_iff_ne.mpr c21
                        by_cases c22 : (bt a0 x3_2) = 46
                        · rw [if_pos c22] at H
                          have c22b0 : ((bt a0 x3_2) == 46) = true := beq_iff_eq.mpr c22
                          have c22b1 : ((bt a0 x3_2) != 46) = false := bne_eq_false_iff_eq.mpr c22
                          clear c22
                          have H' := Aside0.mk H
                          clear H
                          have p9 : 0 ≤ (x3_2 : Int) := of_decide_eq_true (by first | (with_reducible assumption) | assumption)
                          have q9 : x3_2 < (a0.size : Int) := of_decide_eq_true (by first | (with_reducible assumption) | assumption)
                          have hx9 := bt_at a0 x3_2
                          replace p9 := eq_true p9
                          replace q9 := eq_true q9
                          go_wp2
                          go_roundg k2
                          case measure => have := HJ1.out; have := HK2.out; omega
                          case rel => exact ⟨(wrap64 (x3_2 + 1)), (by first | rfl | (simp; done) | (simp [*]; done)), H', ⟨by have := HJ1.out; have := HK2.out; omega⟩, by repeat (first | exact Drawn0.refl _ | apply Drawn0.step)⟩
                        · rw [if_neg c22] at H
                          have c22b0 : ((bt a0 x3_2) == 46) = false := beq_eq_false_iff_ne.mpr c22
                          have c22b1 : ((bt a0 x3_2) != 46) = true := bne_iff_ne.mpr c22
                          by_cases c23 : (bt a0 x3_2) = 45
                          · rw [if_pos c23] at H
                            have c23b0 : ((bt a0 x3_2) == 45) = true := beq_iff_eq.mpr c23
                            have c23b1 : ((bt a0 x3_2) != 45) = false := bne_eq_false_iff_eq.mpr c23
                            clear c23
                            have H' := Aside0.mk H
                            clear H
                            have p9 : 0 ≤ (x3_2 : Int) := of_decide_eq_true (by first | (with_reducible assumption) | assumption)
                            have q9 : x3_2 < (a0.size : Int) := of_decide_eq_true (by first | (with_reducible assumption) | assumption)
                            have hx9 := bt_at a0 x3_2
                            replace p9 := eq_true p9
                            replace q9 := eq_true q9
                            go_wp2
                            go_roundg k2
                            case measure => have := HJ1.out; have := HK2.out; omega
                            case rel => exact ⟨(wrap64 (x3_2 + 1)), (by first | rfl | (simp; done) | (simp [*]; done)), H', ⟨by have := HJ1.out; have := HK2.out; omega⟩, by repeat (first | exact Drawn0.refl _ | apply Drawn0.step)⟩
                          · rw [if_neg c23] at H
                            have c23b0 : ((bt a0 x3_2) == 45) = false := beq_eq_false_iff_ne.mpr c23
                            have c23b1 : ((bt a0 x3_2) != 45) = true := bne_iff_ne.mpr c23
                            obtain rfl := Option.some.inj H
                            have p9 : 0 ≤ (x3_2 : Int) := of_decide_eq_true (by first | (with_reducible assumption) | assumption)
                            have q9 : x3_2 < (a0.size : Int) := of_decide_eq_true (by first | (with_reducible assumption) | assumption)
                            have hx9 := bt_at a0 x3_2
                            replace p9 := eq_true p9
                            replace q9 := eq_true q9
                            go_wp2
                            go_ret
                            exact ⟨by first | rfl | (simp; done) | (simp [*]; done), by repeat (first | exact Drawn0.refl _ | apply Drawn0.step)⟩
                    · rw [if_neg c20] at H
                      have c20b0 : decide ((bt a0 x3_2) < 48) = false := decide_eq_false c20
                      clear c20
                      by_cases c24 : (bt a0 x3_2) > 57
                      · rw [if_pos c24] at H
                        have c24b0 : decide (57 < (bt a0 x3_2)) = true := decide_eq_true c24
                        clear c24
                        by_cases c25 : (bt a0 x3_2) = 95
                        · rw [if_pos c25] at H
                          have c25b0 : ((bt a0 x3_2) == 95) = true := beq_iff_eq.mpr c25
                          have c25b1 : ((bt a0 x3_2) != 95) = false := bne_eq_false_iff_eq.mpr c25
                          clear c25
                          have H' := Aside0.mk H
                          clear H
                          have p9 : 0 ≤ (x3_2 : Int) := of_decide_eq_true (by first | (with_reducible assumption) | assumption)
                          have q9 : x3_2 < (a0.size : Int) := of_decide_eq_true (by first | (with_reducible assumption) | assumption)
                          have hx9 := bt_at a0 x3_2
                          replace p9 := eq_true p9
                          replace q9 := eq_true q9
                          go_wp2
                          go_roundg k2
                          case measure => have := HJ1.out; have := HK2.out; omega
                          case rel => exact ⟨(wrap64 (x3_2 + 1)), (by first | rfl | (simp; done) | (simp [*]; done)), H', ⟨by have := HJ1.out; have := HK2.out; omega⟩, by repeat (first | exact Drawn0.refl _ | apply Drawn0.step)⟩
                        · rw [if_neg c25] at H
                          have c25b0 : ((bt a0 x3_2) == 95) = false := beq_eq_false_iff_ne.mpr c25
                          have c25b1 : ((bt a0 x3_2) != 95) = true := bne_iff_ne.mpr c25
                          by_cases c26 : (bt a0 x3_2) = 46
                          · rw [if_pos c26] at H
                            have c26b0 : ((bt a0 x3_2) == 46) = true := beq_iff_eq.mpr c26
                            have c26b1 : ((bt a0 x3_2) != 46) = false := bne_eq_false_iff_eq.mpr c26
                            clear c26
                            have H' := Aside0.mk H
                            clear H
                            have p9 : 0 ≤ (x3_2 : Int) := of_decide_eq_true (by first | (with_reducible assumption) | assumption)
                            have q9 : x3_2 < (a0.size : Int) := of_decide_eq_true (by first | (with_reducible assumption) | assumption)
                            have hx9 := bt_at a0 x3_2
                            replace p9 := eq_true p9
                            replace q9 := eq_true q9
                            go_wp2
                            go_roundg k2
                            case measure => have := HJ1.out; have := HK2.out; omega
                            case rel => exact ⟨(wrap64 (x3_2 + 1)), (by first | rfl | (simp; done) | (simp [*]; done)), H', ⟨by have := HJ1.out; have := HK2.out; omega⟩, by repeat (first | exact Drawn0.refl _ | apply Drawn0.step)⟩
                          · rw [if_neg c26] at H
                            have c26b0 : ((bt a0 x3_2) == 46) = false := beq_eq_false_iff_ne.mpr c26
                            have c26b1 : ((bt a0 x3_2) != 46) = true := bne_iff_ne.mpr c26
                            by_cases c27 : (bt a0 x3_2) = 45
                            · rw [if_pos c27] at H
                              have c27b0 : ((bt a0 x3_2) == 45) = true := beq_iff_eq.mpr c27
                              have c27b1 : ((bt a0 x3_2) != 45) = false := bne_eq_false_iff_eq.mpr c27
                              clear c27
                              have H' := Aside0.mk H
                              clear H
                              have p9 : 0 ≤ (x3_2 : Int) := of_decide_eq_true (by first | (with_reducible assumption) | assumption)
                              have q9 : x3_2 < (a0.size : Int) := of_decide_eq_true (by first | (with_reducible assumption) | assumption)
                              have hx9 := bt_at a0 x3_2
                              replace p9 := eq_true p9
                              replace q9 := eq_true q9
                              go_wp2
                              go_roundg k2
                              case measure => have := HJ1.out; have := HK2.out; omega
                              case rel => exact ⟨(wrap64 (x3_2 + 1)), (by first | rfl | (simp; done) | (simp [*]; done)), H', ⟨by have := HJ1.out; have := HK2.out; omega⟩, by repeat (first | exact Drawn0.refl _ | apply Drawn0.step)⟩
                            · rw [if_neg c27] at H
                              have c27b0 : ((bt a0 x3_2) == 45) = false := beq_eq_false_iff_ne.mpr c27
                              have c27b1 : ((bt a0 x3_2) != 45) = true := bne_iff_ne.mpr c27
                              obtain rfl := Option.some.inj H
                              have p9 : 0 ≤ (x3_2 : Int) := of_decide_eq_true (by first | (with_reducible assumption) | assumption)
                              have q9 : x3_2 < (a0.size : Int) := of_decide_eq_true (by first | (with_reducible assumption) | assumption)
                              have hx9 := bt_at a0 x3_2
                              replace p9 := eq_true p9
                              replace q9 := eq_true q9
                              go_wp2
                              go_ret
                              exact ⟨by first | rfl | (simp; done) | (simp [*]; done), by repeat (first | exact Drawn0.refl _ | apply Drawn0.step)⟩
                      · rw [if_neg c24] at H
                        have c24b0 : decide (57 < (bt a0 x3_2)) = false := decide_eq_false c24
                        clear c24
                        have H' := Aside0.mk H
                        clear H
                        have p9 : 0 ≤ (x3_2 : Int) := of_decide_eq_true (by first | (with_reducible assumption) | assumption)
                        have q9 : x3_2 < (a0.size : Int) := of_decide_eq_true (by first | (with_reducible assumption) | assumption)
                        have hx9 := bt_at a0 x3_2
                        replace p9 := eq_true p9
                        replace q9 := eq_true q9
                        go_wp2
                        go_roundg k2
                        case measure => have := HJ1.out; have := HK2.out; omega
                        case rel => exact ⟨(wrap64 (x3_2 + 1)), (by first | rfl | (simp; done) | (simp [*]; done)), H', ⟨by have := HJ1.out; have := HK2.out; omega⟩, by repeat (first | exact Drawn0.refl _ | apply Drawn0.step)⟩
                  · rw [if_neg c19] at H
                    have c19b0 : decide (122 < (bt a0 x3_2)) = false := decide_eq_false c19
                    clear c19
                    have H' := Aside0.mk H
                    clear H
                    have p9 : 0 ≤ (x3_2 : Int) := of_decide_eq_true (by first | (with_reducible assumption) | assumption)
                    have q9 : x3_2 < (a0.size : Int) := of_decide_eq_true (by first | (with_reducible assumption) | assumption)
                    have hx9 := bt_at a0 x3_2
                    replace p9 := eq_true p9
                    replace q9 := eq_true q9
                    go_wp2
                    go_roundg k2
                    case measure => have := HJ1.out; have := HK2.out; omega
                    case rel => exact ⟨(wrap64 (x3_2 + 1)), (by first | rfl | (simp; done) | (simp [*]; done)), H', ⟨by have := HJ1.out; have := HK2.out; omega⟩, by repeat (first | exact Drawn0.refl _ | apply Drawn0.step)⟩
              · rw [if_neg c8] at H
                exact absurd H (by simp)
            · rw [if_neg c7] at H
              have c7b0 : decide (x3_2 < (a0.size : Int)) = false := decide_eq_false c7
              clear c7
              obtain rfl := Option.some.inj H
              go_wp2
              go_ret
              exact ⟨by first | rfl | (simp; done) | (simp [*]; done), by repeat (first | exact Drawn0.refl _ | apply Drawn0.step)⟩

end Go.Proofs.Ytahdgaaedilcmaa.P
/- The functions that the laws of this seat come to, as plain Lean functions, each with the proof that the machine's call comes to it. -/
namespace Go.Proofs.Ytahdgaaedilcmaa.P
open Go.RowKit Go.Proofs.YtahdgaaedilcmaaW.PrintWords Go.Proofs.YtahdgaaedilcmaaW.PrintLast Go.Proofs.YtahdgaaedilcmaaW.PrintMore
attribute [local go_sem] max2_int min2_int max_two min_two max_three min_three max_four min_four   -- for this text's walks alone
set_option linter.unusedVariables false
set_option linter.unusedSimpArgs false

/-! ### brickyardref09_Cut: function 43 -/
def brickyardref09_Cut.l0 : Nat → ByteArray → List ByteArray → Int → Int → Option (List ByteArray)
  | 0, _, _, _, _ => none
  | k + 1, x0, x3, x4, x5 => if x5 ≤ (x0.size : Int) then (if x5 = (x0.size : Int) then (if 0 ≤ x4 then (if x4 ≤ x5 then (if x3.length < 8796093022208 then (brickyardref09_Cut.l0 k x0 (x3 ++ [x0.extract (x4 : Int).toNat (x5 : Int).toNat]) (wrap64 (x5 + 1)) (wrap64 (x5 + 1))) else (none)) else (none)) else (none)) else (if 0 ≤ x5 then (if x5 < (x0.size : Int) then (if (bt x0 x5) = 47 then (if 0 ≤ x4 then (if x4 ≤ x5 then (if x3.length < 8796093022208 then (brickyardref09_Cut.l0 k x0 (x3 ++ [x0.extract (x4 : Int).toNat (x5 : Int).toNat]) (wrap64 (x5 + 1)) (wrap64 (x5 + 1))) else (none)) else (none)) else (none)) else (brickyardref09_Cut.l0 k x0 x3 x4 (wrap64 (x5 + 1)))) else (none)) else (none))) else (some x3)
def brickyardref09_Cut.f (k : Nat) (a0 : ByteArray) : Option (List ByteArray) := brickyardref09_Cut.l0 k a0 ([] : List ByteArray) 0 0
theorem brickyardref09_Cut.mono_l : ∀ k, (∀ y0 y1 y2 y3, LeO (brickyardref09_Cut.l0 k y0 y1 y2 y3) (brickyardref09_Cut.l0 (k + 1) y0 y1 y2 y3))
  | 0 => fun _ _ _ _ r h => by simp [brickyardref09_Cut.l0] at h
  | k + 1 => by
    have ih0 := brickyardref09_Cut.mono_l k
    · intro y0 y1 y2 y3
      unfold brickyardref09_Cut.l0
      repeat' first
      | (with_reducible exact ih0 _ _ _ _)
      | (with_reducible exact LeO.refl _)
      | (with_reducible exact LeO.none _)
      | (with_reducible refine LeO.ite ?_ ?_)
      | (with_reducible refine LeO.bind ?_ (fun _ => ?_))
      | exact ih0 _ _ _ _
      | exact LeO.none _
      | refine LeO.ite ?_ ?_
      | refine LeO.bind ?_ (fun _ => ?_)
theorem brickyardref09_Cut.mono : ∀ a0 k, LeO (brickyardref09_Cut.f k a0) (brickyardref09_Cut.f (k + 1) a0) := by
  intro a0 k
  have ih0 := brickyardref09_Cut.mono_l k
  unfold brickyardref09_Cut.f
  repeat' first
      | (with_reducible exact ih0 _ _ _ _)
      | (with_reducible exact LeO.refl _)
      | (with_reducible exact LeO.none _)
      | (with_reducible refine LeO.ite ?_ ?_)
      | (with_reducible refine LeO.bind ?_ (fun _ => ?_))
      | exact ih0 _ _ _ _
      | exact LeO.none _
      | refine LeO.ite ?_ ?_
      | refine LeO.bind ?_ (fun _ => ?_)
set_option maxHeartbeats 8000000 in
set_option maxRecDepth 100000 in
theorem brickyardref09_Cut.calls (k : Nat) (a0 : ByteArray) (r : List ByteArray) (w : World) (h : brickyardref09_Cut.f k a0 = some r) :
    Calls Try.prog 43 #[.string a0] w fun e w' => ∃ v0_ : Value, e = .returned (v0_) ∧ Kd.R Kd.string 9 w' w.heap.size (fun _ => True) v0_ r ∧ Below w.heap.size w w' := by
  have HB := Aside0.mk (Below.refl w.heap.size w)
  have H : (brickyardref09_Cut.l0 k a0 ([] : List ByteArray) 0 0) = some r := h
  clear h
  have H' := Aside0.mk H
  clear H
  go_enter Try.func43, Try.ntmps43
  go_wp2
  go_loopg [3, 4, 5] k (fun kq v3 v4 v5 w' => ∃ (x3_1 : List ByteArray) (x4_1 : Int) (x5_1 : Int), v4 = .int .i64 x4_1 ∧ v5 = .int .i64 x5_1 ∧ Aside0 (brickyardref09_Cut.l0 kq a0 x3_1 x4_1 x5_1 = some r) ∧ Aside0 (kq ≤ k) ∧ Aside0 (Kd.R Kd.string 9 w' w.heap.size (fun _ => True) v3 x3_1) ∧ Aside0 (Below w.heap.size w w'))
  case atStart => exact ⟨(([] : List ByteArray)), (0), (0), (by first | rfl | (simp; done) | (simp [*]; done)), (by first | rfl | (simp; done) | (simp [*]; done)), H', ⟨Nat.le_refl _⟩, ⟨by first | exact Kd.R_nil _ _ _ _ _ | exact Kd.N_nil _ _ _ _ _ | exact Kd.V_nil _ _ _ _ _ | exact Kd.Q_nil _ _ _ _ _ | exact Kd.S_nil _ _ _ _ _⟩, ⟨by repeat (first | (with_reducible first | exact HB.out | apply below_alloc | apply pw_below_drewN | apply below_drew1) | exact HB.out)⟩⟩
  case round =>
    clear H'
    obtain ⟨x3_1, x4_1, x5_1, rfl, rfl, HA, HK1, HO_3, HB⟩ := hrel
    cases gk with
    | zero => exact absurd HA.out (by simp [brickyardref09_Cut.l0])
    | succ k1 =>
      have H := HA.out
      clear HA
      simp only [brickyardref09_Cut.l0] at H
      by_cases c2 : x5_1 ≤ (a0.size : Int)
      · rw [if_pos c2] at H
        have c2b0 : decide (x5_1 ≤ (a0.size : Int)) = true := decide_eq_true c2
        clear c2
        by_cases c3 : x5_1 = (a0.size : Int)
        · rw [if_pos c3] at H
          have c3b0 : (x5_1 == (a0.size : Int)) = true := beq_iff_eq.mpr c3
          have c3b1 : (x5_1 != (a0.size : Int)) = false := bne_eq_false_iff_eq.mpr c3
          clear c3
          by_cases c4 : 0 ≤ x4_1
          · rw [if_pos c4] at H
            have c4b0 := eq_true c4
            have c4b1 : decide (0 ≤ x4_1) = true := decide_eq_true c4
            clear c4
            by_cases c5 : x4_1 ≤ x5_1
            · rw [if_pos c5] at H
              have c5b0 := eq_true c5
              have c5b1 : decide (x4_1 ≤ x5_1) = true := decide_eq_true c5
              clear c5
              have c6b0 := eq_true (of_decide_eq_true (by first | (with_reducible assumption) | assumption) : x5_1 ≤ (a0.size : Int))
              by_cases c7 : x3_1.length < 8796093022208
              · rw [if_pos c7] at H
                have LMc7 := Aside0.mk c7
                clear c7
                obtain ⟨y299, hy299⟩ : ∃ y_ : List ByteArray, y_ = (x3_1 ++ [a0.extract (x4_1 : Int).toNat (x5_1 : Int).toNat]) := ⟨_, rfl⟩
                replace H : (brickyardref09_Cut.l0 k1 a0 y299 (wrap64 (x5_1 + 1)) (wrap64 (x5_1 + 1))) = some r := by first | (rw [hy299]; with_reducible exact H) | (have H2_ := (Option.bind_some _ _).symm.trans H; rw [hy299]; with_reducible exact H2_) | (have H2_ := (Option.bind_some _ _).symm.trans H; with_reducible exact H2_) | with_reducible exact H | (rw [hy299]; exact H) | exact H
                have Ny299 := Aside0.mk hy299
                clear hy299
                have H' := Aside0.mk H
                clear H
                go_wp2_with (first | ((with_reducible refine gate_builtin (b := .append) (xs := #[.tmp 22, .tmp 27]) rfl ?_); at_builtin; refine Kd.R_append Kd.string (w0 := w) w.heap.size rfl (.tmp 22) (.tmp 27) 30 9 (.string ⟨#[]⟩) 16 rfl Try.underlying30 info9 rfl (by decide) (by omega) u3 x3_1 (a0.extract (x4_1 : Int).toNat (x5_1 : Int).toNat) [.string (a0.extract (x4_1 : Int).toNat (x5_1 : Int).toNat)] (fun _ => True) (fun _ => False) rfl rfl ?aP (fun _ hk => hk.elim) ?aF ?aO ?aB ?aS ?aL ?_; (case aP => exact rfl); (case aB => exact (by repeat (first | (with_reducible first | exact HB.out | apply below_alloc | apply pw_below_drewN | apply below_drew1) | exact HB.out))); (case aF => exact (fun _ _ => trivial)); (case aO => exact (by (with_reducible repeat (first | apply Kd.R_alloc | apply Kd.R_drewN | apply Kd.R_drew)); exact HO_3.out)); (case aS => exact (below_size (by repeat (first | (with_reducible first | exact HB.out | apply below_alloc | apply pw_below_drewN | apply below_drew1) | exact HB.out)))); (case aL => have := LMc7.out; omega); intro v300 w8 ho hb hg hat; rw [← Ny299.out] at ho; have n0_ := Aside0.mk (hb); have n1_ := Aside0.mk (ho); clear HB; clear HO_3; have HB := n0_; have HO301 := n1_; clear n0_ n1_; clear ho hb hg hat))
                go_roundg k1
                case measure => have := HK1.out; omega
                case rel => exact ⟨(y299), (wrap64 (x5_1 + 1)), (wrap64 (x5_1 + 1)), (by first | rfl | (simp; done) | (simp [*]; done)), (by first | rfl | (simp; done) | (simp [*]; done)), H', ⟨by have := HK1.out; omega⟩, ⟨by (with_reducible repeat (first | apply Kd.R_alloc | apply Kd.R_drewN | apply Kd.R_drew)); first | exact HO301.out | exact Kd.R_mono HO301.out (fun _ h_ => by simpa only [ob_len] using h_)⟩, ⟨by repeat (first | (with_reducible first | exact HB.out | apply below_alloc | apply pw_below_drewN | apply below_drew1) | exact HB.out)⟩⟩
              · rw [if_neg c7] at H
                exact absurd H (by simp)
            · rw [if_neg c5] at H
              exact absurd H (by simp)
          · rw [if_neg c4] at H
            exact absurd H (by simp)
        · rw [if_neg c3] at H
          have c3b0 : (x5_1 == (a0.size : Int)) = false := beq_eq_false_iff_ne.mpr c3
          have c3b1 : (x5_1 != (a0.size : Int)) = true := bne_iff_ne.mpr c3
          by_cases c9 : 0 ≤ x5_1
          · rw [if_pos c9] at H
            have c9b0 : decide (0 ≤ x5_1) = true := decide_eq_true c9
            clear c9
            by_cases c10 : x5_1 < (a0.size : Int)
            · rw [if_pos c10] at H
              have c10b0 : decide (x5_1 < (a0.size : Int)) = true := decide_eq_true c10
              clear c10
              by_cases c12 : (bt a0 x5_1) = 47
              · rw [if_pos c12] at H
                have c12b0 : ((bt a0 x5_1) == 47) = true := beq_iff_eq.mpr c12
                have c12b1 : ((bt a0 x5_1) != 47) = false := bne_eq_false_iff_eq.mpr c12
                clear c12
                by_cases c13 : 0 ≤ x4_1
                · rw [if_pos c13] at H
                  have c13b0 := eq_true c13
                  have c13b1 : decide (0 ≤ x4_1) = true := decide_eq_true c13
                  clear c13
                  by_cases c14 : x4_1 ≤ x5_1
                  · rw [if_pos c14] at H
                    have c14b0 := eq_true c14
                    have c14b1 : decide (x4_1 ≤ x5_1) = true := decide_eq_true c14
                    clear c14
                    have c15b0 := eq_true (of_decide_eq_true (by first | (with_reducible assumption) | assumption) : x5_1 ≤ (a0.size : Int))
                    by_cases c16 : x3_1.length < 8796093022208
                    · rw [if_pos c16] at H
                      have LMc16 := Aside0.mk c16
                      clear c16
                      obtain ⟨y302, hy302⟩ : ∃ y_ : List ByteArray, y_ = (x3_1 ++ [a0.extract (x4_1 : Int).toNat (x5_1 : Int).toNat]) := ⟨_, rfl⟩
                      replace H : (brickyardref09_Cut.l0 k1 a0 y302 (wrap64 (x5_1 + 1)) (wrap64 (x5_1 + 1))) = some r := by first | (rw [hy302]; with_reducible exact H) | (have H2_ := (Option.bind_some _ _).symm.trans H; rw [hy302]; with_reducible exact H2_) | (have H2_ := (Option.bind_some _ _).symm.trans H; with_reducible exact H2_) | with_reducible exact H | (rw [hy302]; exact H) | exact H
                      have Ny302 := Aside0.mk hy302
                      clear hy302
                      have H' := Aside0.mk H
                      clear H
                      have p11 : 0 ≤ (x5_1 : Int) := of_decide_eq_true (by first | (with_reducible assumption) | assumption)
                      have q11 : x5_1 < (a0.size : Int) := of_decide_eq_true (by first | (with_reducible assumption) | assumption)
                      have hx11 := bt_at a0 x5_1
                      replace p11 := eq_true p11
                      replace q11 := eq_true q11
                      go_wp2_with (first | ((with_reducible refine gate_builtin (b := .append) (xs := #[.tmp 22, .tmp 27]) rfl ?_); at_builtin; refine Kd.R_append Kd.string (w0 := w) w.heap.size rfl (.tmp 22) (.tmp 27) 30 9 (.string ⟨#[]⟩) 16 rfl Try.underlying30 info9 rfl (by decide) (by omega) u3 x3_1 (a0.extract (x4_1 : Int).toNat (x5_1 : Int).toNat) [.string (a0.extract (x4_1 : Int).toNat (x5_1 : Int).toNat)] (fun _ => True) (fun _ => False) rfl rfl ?aP (fun _ hk => hk.elim) ?aF ?aO ?aB ?aS ?aL ?_; (case aP => exact rfl); (case aB => exact (by repeat (first | (with_reducible first | exact HB.out | apply below_alloc | apply pw_below_drewN | apply below_drew1) | exact HB.out))); (case aF => exact (fun _ _ => trivial)); (case aO => exact (by (with_reducible repeat (first | apply Kd.R_alloc | apply Kd.R_drewN | apply Kd.R_drew)); exact HO_3.out)); (case aS => exact (below_size (by repeat (first | (with_reducible first | exact HB.out | apply below_alloc | apply pw_below_drewN | apply below_drew1) | exact HB.out)))); (case aL => have := LMc16.out; omega); intro v303 w17 ho hb hg hat; rw [← Ny302.out] at ho; have n0_ := Aside0.mk (hb); have n1_ := Aside0.mk (ho); clear HB; clear HO_3; have HB := n0_; have HO304 := n1_; clear n0_ n1_; clear ho hb hg hat))
                      go_roundg k1
                      case measure => have := HK1.out; omega
                      case rel => exact ⟨(y302), (wrap64 (x5_1 + 1)), (wrap64 (x5_1 + 1)), (by first | rfl | (simp; done) | (simp [*]; done)), (by first | rfl | (simp; done) | (simp [*]; done)), H', ⟨by have := HK1.out; omega⟩, ⟨by (with_reducible repeat (first | apply Kd.R_alloc | apply Kd.R_drewN | apply Kd.R_drew)); first | exact HO304.out | exact Kd.R_mono HO304.out (fun _ h_ => by simpa only [ob_len] using h_)⟩, ⟨by repeat (first | (with_reducible first | exact HB.out | apply below_alloc | apply pw_below_drewN | apply below_drew1) | exact HB.out)⟩⟩
                    · rw [if_neg c16] at H
                      exact absurd H (by simp)
                  · rw [if_neg c14] at H
                    exact absurd H (by simp)
                · rw [if_neg c13] at H
                  exact absurd H (by simp)
              · rw [if_neg c12] at H
                have c12b0 : ((bt a0 x5_1) == 47) = false := beq_eq_false_iff_ne.mpr c12
                have c12b1 : ((bt a0 x5_1) != 47) = true := bne_iff_ne.mpr c12
                have H' := Aside0.mk H
                clear H
                have p11 : 0 ≤ (x5_1 : Int) := of_decide_eq_true (by first | (with_reducible assumption) | assumption)
                have q11 : x5_1 < (a0.size : Int) := of_decide_eq_true (by first | (with_reducible assumption) | assumption)
                have hx11 := bt_at a0 x5_1
                replace p11 := eq_true p11
                replace q11 := eq_true q11
                go_wp2
                go_roundg k1
                case measure => have := HK1.out; omega
                case rel => exact ⟨(x3_1), (x4_1), (wrap64 (x5_1 + 1)), (by first | rfl | (simp; done) | (simp [*]; done)), (by first | rfl | (simp; done) | (simp [*]; done)), H', ⟨by have := HK1.out; omega⟩, ⟨by (with_reducible repeat (first | apply Kd.R_alloc | apply Kd.R_drewN | apply Kd.R_drew)); first | exact HO_3.out | exact Kd.R_mono HO_3.out (fun _ h_ => by simpa only [ob_len] using h_)⟩, ⟨by repeat (first | (with_reducible first | exact HB.out | apply below_alloc | apply pw_below_drewN | apply below_drew1) | exact HB.out)⟩⟩
            · rw [if_neg c10] at H
              exact absurd H (by simp)
          · rw [if_neg c9] at H
            exact absurd H (by simp)
      · rw [if_neg c2] at H
        have c2b0 : decide (x5_1 ≤ (a0.size : Int)) = false := decide_eq_false c2
        clear c2
        obtain rfl := Option.some.inj H
        go_wp2
        go_ret
        exact ⟨_, by first | rfl | (simp [errW_none, errW_some] <;> rfl) | (simp [*, errW_none, errW_some] <;> rfl), by (with_reducible repeat (first | apply Kd.R_alloc | apply Kd.R_drewN | apply Kd.R_drew)); exact HO_3.out, by repeat (first | (with_reducible first | exact HB.out | apply below_alloc | apply pw_below_drewN | apply below_drew1) | exact HB.out)⟩

end Go.Proofs.Ytahdgaaedilcmaa.P
/- The functions that the laws of this seat come to, as plain Lean functions, each with the proof that the machine's call comes to it. -/
namespace Go.Proofs.Ytahdgaaedilcmaa.P
open Go.RowKit Go.Proofs.YtahdgaaedilcmaaW.PrintWords Go.Proofs.YtahdgaaedilcmaaW.PrintLast Go.Proofs.YtahdgaaedilcmaaW.PrintMore
attribute [local go_sem] max2_int min2_int max_two min_two max_three min_three max_four min_four   -- for this text's walks alone
set_option linter.unusedVariables false
set_option linter.unusedSimpArgs false

/-! ### brickyardref09_Join: function 45 -/
mutual
def brickyardref09_Join.l0 : Nat → List ByteArray → Int → Int → Option (ByteArray)
  | 0, _, _, _ => none
  | k + 1, x0, x3, x4 => if x4 < (x0.length : Int) then (if 0 ≤ x4 then (brickyardref09_Join.l0 k x0 (wrap64 (x3 + (wrap64 (((rdOf ByteArray.empty x0 x4).size : Int) + 1)))) (wrap64 (x4 + 1))) else (none)) else (if 0 ≤ x3 then (if (x3 : Int).toNat ≤ 281474976710656 then (brickyardref09_Join.l1 k x0 (([] : List Int)) 0) else (none)) else (none))
def brickyardref09_Join.l1 : Nat → List ByteArray → List Int → Int → Option (ByteArray)
  | 0, _, _, _ => none
  | k + 1, x0, x5, x6 => if x6 < (x0.length : Int) then (if x6 > 0 then (if x5.length < 140737488355328 then ((some (x5 ++ [47] : List Int)).bind fun y314 => (if 0 ≤ x6 then (if y314.length + (rdOf ByteArray.empty x0 x6).size < 140737488355328 then (brickyardref09_Join.l1 k x0 (y314 ++ bytesOf (rdOf ByteArray.empty x0 x6)) (wrap64 (x6 + 1))) else (none)) else (none))) else (none)) else (if 0 ≤ x6 then (if x5.length + (rdOf ByteArray.empty x0 x6).size < 140737488355328 then (brickyardref09_Join.l1 k x0 (x5 ++ bytesOf (rdOf ByteArray.empty x0 x6)) (wrap64 (x6 + 1))) else (none)) else (none))) else (some (strOfNums x5))
end
def brickyardref09_Join.f (k : Nat) (l0 : List ByteArray) : Option (ByteArray) := brickyardref09_Join.l0 k l0 0 0
theorem brickyardref09_Join.mono_l : ∀ k, (∀ y0 y1 y2, LeO (brickyardref09_Join.l0 k y0 y1 y2) (brickyardref09_Join.l0 (k + 1) y0 y1 y2)) ∧ (∀ y0 y1 y2, LeO (brickyardref09_Join.l1 k y0 y1 y2) (brickyardref09_Join.l1 (k + 1) y0 y1 y2))
  | 0 => ⟨fun _ _ _ r h => by simp [brickyardref09_Join.l0] at h, fun _ _ _ r h => by simp [brickyardref09_Join.l1] at h⟩
  | k + 1 => by
    obtain ⟨ih0, ih1⟩ := brickyardref09_Join.mono_l k
    refine ⟨?_, ?_⟩
    · intro y0 y1 y2
      unfold brickyardref09_Join.l0
      repeat' first
      | (with_reducible exact ih0 _ _ _)
      | (with_reducible exact ih1 _ _ _)
      | (with_reducible exact LeO.refl _)
      | (with_reducible exact LeO.none _)
      | (with_reducible refine LeO.ite ?_ ?_)
      | (with_reducible refine LeO.bind ?_ (fun _ => ?_))
      | exact ih0 _ _ _
      | exact ih1 _ _ _
      | exact LeO.none _
      | refine LeO.ite ?_ ?_
      | refine LeO.bind ?_ (fun _ => ?_)
    · intro y0 y1 y2
      unfold brickyardref09_Join.l1
      repeat' first
      | (with_reducible exact ih0 _ _ _)
      | (with_reducible exact ih1 _ _ _)
      | (with_reducible exact LeO.refl _)
      | (with_reducible exact LeO.none _)
      | (with_reducible refine LeO.ite ?_ ?_)
      | (with_reducible refine LeO.bind ?_ (fun _ => ?_))
      | exact ih0 _ _ _
      | exact ih1 _ _ _
      | exact LeO.none _
      | refine LeO.ite ?_ ?_
      | refine LeO.bind ?_ (fun _ => ?_)
theorem brickyardref09_Join.mono : ∀ a0 k, LeO (brickyardref09_Join.f k a0) (brickyardref09_Join.f (k + 1) a0) := by
  intro a0 k
  obtain ⟨ih0, ih1⟩ := brickyardref09_Join.mono_l k
  unfold brickyardref09_Join.f
  repeat' first
      | (with_reducible exact ih0 _ _ _)
      | (with_reducible exact ih1 _ _ _)
      | (with_reducible exact LeO.refl _)
      | (with_reducible exact LeO.none _)
      | (with_reducible refine LeO.ite ?_ ?_)
      | (with_reducible refine LeO.bind ?_ (fun _ => ?_))
      | exact ih0 _ _ _
      | exact ih1 _ _ _
      | exact LeO.none _
      | refine LeO.ite ?_ ?_
      | refine LeO.bind ?_ (fun _ => ?_)
set_option maxHeartbeats 8000000 in
set_option maxRecDepth 100000 in
theorem brickyardref09_Join.calls (k : Nat) (A0 : Option Addr) (c0 : Nat) (l0 : List ByteArray) (r : ByteArray) (w : World) (hr0 : Kd.C Kd.string w A0 l0.length l0) (hc0 : l0.length ≤ c0) (h : brickyardref09_Join.f k l0 = some r) :
    Calls Try.prog 45 #[.slice A0 l0.length c0] w fun e w' => e = .returned (.string r) ∧ Below w.heap.size w w' := by
  have HR0 := Aside0.mk hr0
  have HC0 := Aside0.mk hc0
  clear hr0 hc0
  have HB := Aside0.mk (Below.refl w.heap.size w)
  have H : (brickyardref09_Join.l0 k l0 0 0) = some r := h
  clear h
  have H' := Aside0.mk H
  clear H
  go_enter Try.func45, Try.ntmps45
  go_wp2
  go_loopg [3, 4] k (fun kq v3 v4 w' => ∃ (x3_1 : Int) (x4_1 : Int), v3 = .int .i64 x3_1 ∧ v4 = .int .i64 x4_1 ∧ Aside0 (brickyardref09_Join.l0 kq l0 x3_1 x4_1 = some r) ∧ Aside0 (kq ≤ k) ∧ Aside0 (Below w.heap.size w w'))
  case atStart => exact ⟨(0), (0), (by first | rfl | (simp; done) | (simp [*]; done)), (by first | rfl | (simp; done) | (simp [*]; done)), H', ⟨Nat.le_refl _⟩, ⟨by repeat (first | (with_reducible first | exact HB.out | apply below_alloc | apply pw_below_drewN | apply below_drew1) | exact HB.out)⟩⟩
  case round =>
    clear H'
    obtain ⟨x3_1, x4_1, rfl, rfl, HA, HK1, HB⟩ := hrel
    cases gk with
    | zero => exact absurd HA.out (by simp [brickyardref09_Join.l0])
    | succ k1 =>
      have H := HA.out
      clear HA
      simp only [brickyardref09_Join.l0] at H
      by_cases c2 : x4_1 < (l0.length : Int)
      · rw [if_pos c2] at H
        have c2b0 : decide (x4_1 < (l0.length : Int)) = true := decide_eq_true c2
        clear c2
        by_cases c3 : 0 ≤ x4_1
        · rw [if_pos c3] at H
          have c3b0 : decide (0 ≤ x4_1) = true := decide_eq_true c3
          clear c3
          have H' := Aside0.mk H
          clear H
          have p310 : 0 ≤ (x4_1 : Int) := of_decide_eq_true (by first | (with_reducible assumption) | assumption)
          have q310 : x4_1 < (l0.length : Int) := of_decide_eq_true (by first | (with_reducible assumption) | assumption)
          obtain ⟨ad310, e310, hx310_0⟩ := Kd.at_string HR0.out x4_1 p310 q310
          cases e310
          replace hx310_0 := (HB.out.cell (World.block_lt_of_cell? w _ hx310_0)).trans hx310_0
          replace p310 := eq_true p310
          replace q310 := eq_true q310
          go_wp2
          go_roundg k1
          case measure => have := HK1.out; omega
          case rel => exact ⟨(wrap64 (x3_1 + (wrap64 (((rdOf ByteArray.empty l0 x4_1).size : Int) + 1)))), (wrap64 (x4_1 + 1)), (by first | rfl | (simp; done) | (simp [*]; done)), (by first | rfl | (simp; done) | (simp [*]; done)), H', ⟨by have := HK1.out; omega⟩, ⟨by repeat (first | (with_reducible first | exact HB.out | apply below_alloc | apply pw_below_drewN | apply below_drew1) | exact HB.out)⟩⟩
        · rw [if_neg c3] at H
          exact absurd H (by simp)
      · rw [if_neg c2] at H
        have c2b0 : decide (x4_1 < (l0.length : Int)) = false := decide_eq_false c2
        clear c2
        by_cases c4 : 0 ≤ x3_1
        · rw [if_pos c4] at H
          have c4b0 := eq_true c4
          have c4b1 : decide (0 ≤ x3_1) = true := decide_eq_true c4
          clear c4
          by_cases c5 : (x3_1 : Int).toNat ≤ 281474976710656
          · rw [if_pos c5] at H
            have c5b0 := eq_true c5
            have c5b1 : decide ((x3_1 : Int).toNat ≤ 281474976710656) = true := decide_eq_true c5
            clear c5
            obtain ⟨y311, hy311⟩ : ∃ y_ : List Int, y_ = (([] : List Int)) := ⟨_, rfl⟩
            replace H : (brickyardref09_Join.l1 k1 l0 y311 0) = some r := by first | (rw [hy311]; with_reducible exact H) | (have H2_ := (Option.bind_some _ _).symm.trans H; rw [hy311]; with_reducible exact H2_) | (have H2_ := (Option.bind_some _ _).symm.trans H; with_reducible exact H2_) | with_reducible exact H | (rw [hy311]; exact H) | exact H
            have Ny311 := Aside0.mk hy311
            clear hy311
            have H' := Aside0.mk H
            clear H
            go_wp2_with (first | ((with_reducible refine gate_dst (N := 22) rfl ?_); refine Kd.R_make0 (Kd.int .u8) _ 5 rfl (N := 22) rfl 35 _ _ rfl x3_1 rfl rfl Try.underlying35 (.int .u8 0) 1 info5 rfl (by decide) (by omega) 0 (ok := fun _ => True) (okp := fun _ => True) rfl (fun _ hk => hk) trivial (of_decide_eq_true (by first | (with_reducible assumption) | assumption)) (Nat.le_trans (Nat.mul_le_mul_right _ (of_decide_eq_true (by first | (with_reducible assumption) | assumption) : x3_1.toNat ≤ 281474976710656)) (by omega)) (Below.refl _ _) (Nat.le_refl _) ?_; intro v312 w6 ho7 hb hg_ hnew_; clear hg_ hnew_; (first | rw [← Ny311.out] at ho7 | (simp only [Int.reduceToNat] at ho7; rw [← Ny311.out] at ho7)); have n0_ := Aside0.mk (Kd.R_lower ho7 (below_size (by repeat (first | (with_reducible first | exact HB.out | apply below_alloc | apply pw_below_drewN | apply below_drew1) | exact HB.out)))); have n1_ := Aside0.mk (below_step (by repeat (first | (with_reducible first | exact HB.out | apply below_alloc | apply pw_below_drewN | apply below_drew1) | exact HB.out)) hb); clear HB; have HO313 := n0_; have HB := n1_; clear n0_ n1_; clear hb ho7))
            go_loopg [5, 6] k1 (fun kq v5 v6 w' => ∃ (x5_2 : List Int) (x6_2 : Int), v6 = .int .i64 x6_2 ∧ Aside0 (brickyardref09_Join.l1 kq l0 x5_2 x6_2 = some r) ∧ Aside0 (kq ≤ k1) ∧ Aside0 (Kd.R (Kd.int .u8) 5 w' w.heap.size (fun _ => True) v5 x5_2) ∧ Aside0 (Below w.heap.size w w'))
            case atStart => exact ⟨(y311), (0), (by first | rfl | (simp; done) | (simp [*]; done)), H', ⟨Nat.le_refl _⟩, ⟨by (with_reducible repeat (first | apply Kd.R_alloc | apply Kd.R_drewN | apply Kd.R_drew)); first | exact HO313.out | exact Kd.R_mono HO313.out (fun _ h_ => by simpa only [ob_len] using h_)⟩, ⟨by repeat (first | (with_reducible first | exact HB.out | apply below_alloc | apply pw_below_drewN | apply below_drew1) | exact HB.out)⟩⟩
            case round =>
              clear H'
              try clear c2
              try clear c2b0
              try clear p2
              try clear c3
              try clear c3b0
              try clear p3
              try clear q3
              try clear hx3
              try clear c4
              try clear c4b0
              try clear c4b1
              try clear c5
              try clear c5b0
              try clear c5b1
              try clear p6
              try clear hx310_0
              try clear p310
              try clear q310
              obtain ⟨x5_2, x6_2, rfl, HA, HK2, HO_5, HB⟩ := hrel
              cases gk with
              | zero => exact absurd HA.out (by simp [brickyardref09_Join.l1])
              | succ k2 =>
                have H := HA.out
                clear HA
                simp only [brickyardref09_Join.l1] at H
                by_cases c8 : x6_2 < (l0.length : Int)
                · rw [if_pos c8] at H
                  have c8b0 : decide (x6_2 < (l0.length : Int)) = true := decide_eq_true c8
                  clear c8
                  by_cases c9 : x6_2 > 0
                  · rw [if_pos c9] at H
                    have c9b0 : decide (0 < x6_2) = true := decide_eq_true c9
                    clear c9
                    by_cases c10 : x5_2.length < 140737488355328
                    · rw [if_pos c10] at H
                      have LMc10 := Aside0.mk c10
                      clear c10
                      obtain ⟨y314, hy314⟩ : ∃ y_ : List Int, y_ = (x5_2 ++ [47]) := ⟨_, rfl⟩
                      replace H : (if 0 ≤ x6_2 then (if y314.length + (rdOf ByteArray.empty l0 x6_2).size < 140737488355328 then (brickyardref09_Join.l1 k2 l0 (y314 ++ bytesOf (rdOf ByteArray.empty l0 x6_2)) (wrap64 (x6_2 + 1))) else (none)) else (none)) = some r := by first | (rw [hy314]; with_reducible exact H) | (have H2_ := (Option.bind_some _ _).symm.trans H; rw [hy314]; with_reducible exact H2_) | (have H2_ := (Option.bind_some _ _).symm.trans H; with_reducible exact H2_) | with_reducible exact H | (rw [hy314]; exact H) | exact H
                      have Ny314 := Aside0.mk hy314
                      clear hy314
                      by_cases c11 : 0 ≤ x6_2
                      · rw [if_pos c11] at H
                        have c11b0 : decide (0 ≤ x6_2) = true := decide_eq_true c11
                        clear c11
                        by_cases c12 : y314.length + (rdOf ByteArray.empty l0 x6_2).size < 140737488355328
                        · rw [if_pos c12] at H
                          have LMc12 := Aside0.mk c12
                          clear c12
                          obtain ⟨y318, hy318⟩ : ∃ y_ : List Int, y_ = (y314 ++ bytesOf (rdOf ByteArray.empty l0 x6_2)) := ⟨_, rfl⟩
                          replace H : (brickyardref09_Join.l1 k2 l0 y318 (wrap64 (x6_2 + 1))) = some r := by first | (rw [hy318]; with_reducible exact H) | (have H2_ := (Option.bind_some _ _).symm.trans H; rw [hy318]; with_reducible exact H2_) | (have H2_ := (Option.bind_some _ _).symm.trans H; with_reducible exact H2_) | with_reducible exact H | (rw [hy318]; exact H) | exact H
                          have Ny318 := Aside0.mk hy318
                          clear hy318
                          have H' := Aside0.mk H
                          clear H
                          go_wp2_with (first | ((with_reducible refine gate_builtin (b := .append) (xs := #[.tmp 31, .tmp 32]) rfl ?_); at_builtin; refine Kd.R_append (Kd.int .u8) (w0 := w) w.heap.size rfl (.tmp 31) (.tmp 32) 35 5 (.int .u8 0) 1 rfl Try.underlying35 info5 rfl (by decide) (by omega) u5 x5_2 47 [.int .u8 47] (fun _ => True) (fun _ => False) rfl rfl ?aP (fun _ hk => hk.elim) ?aF ?aO ?aB ?aS ?aL ?_; (case aP => exact rfl); (case aB => exact (by repeat (first | (with_reducible first | exact HB.out | apply below_alloc | apply pw_below_drewN | apply below_drew1) | exact HB.out))); (case aF => exact (fun _ _ => trivial)); (case aO => exact (by (with_reducible repeat (first | apply Kd.R_alloc | apply Kd.R_drewN | apply Kd.R_drew)); exact HO_5.out)); (case aS => exact (below_size (by repeat (first | (with_reducible first | exact HB.out | apply below_alloc | apply pw_below_drewN | apply below_drew1) | exact HB.out)))); (case aL => have := LMc10.out; omega); intro v315 w13 ho hb hg hat; rw [← Ny314.out] at ho; have n0_ := Aside0.mk (hb); have n1_ := Aside0.mk (ho); clear HB; clear HO_5; have HB := n0_; have HO316 := n1_; clear n0_ n1_; clear ho hb hg hat; have p317 : 0 ≤ (x6_2 : Int) := of_decide_eq_true (by first | (with_reducible assumption) | assumption); have q317 : x6_2 < (l0.length : Int) := of_decide_eq_true (by first | (with_reducible assumption) | assumption); obtain ⟨ad317, e317, hx317_0⟩ := Kd.at_string HR0.out x6_2 p317 q317; cases e317; replace hx317_0 := (HB.out.cell (World.block_lt_of_cell? w _ hx317_0)).trans hx317_0; replace p317 := eq_true p317; replace q317 := eq_true q317) | (at_builtin; refine print_append_str (w0 := w) w.heap.size rfl (.tmp 34) _ 35 9 5 rfl Try.underlying35 Try.underlying9 info5 v315 y314 (rdOf ByteArray.empty l0 x6_2) rfl rfl ?aO ?aB ?aS ?aL ?_; (case aB => exact (by repeat (first | (with_reducible first | exact HB.out | apply below_alloc | apply pw_below_drewN | apply below_drew1) | exact HB.out))); (case aO => exact (Kd.own_of_R (by (with_reducible repeat (first | apply Kd.R_alloc | apply Kd.R_drewN | apply Kd.R_drew)); exact HO316.out))); (case aS => exact (below_size (by repeat (first | (with_reducible first | exact HB.out | apply below_alloc | apply pw_below_drewN | apply below_drew1) | exact HB.out)))); (case aL => have := LMc12.out; omega); intro v319 w14 ho0 hb hg; have ho := Kd.R_of_own (h1 := fun _ => rfl) (ok := fun _ => True) ho0 (fun _ _ => trivial); clear ho0; have hat := True.intro; rw [← Ny318.out] at ho; change Kd.R (Kd.int .u8) 5 w14 w.heap.size (fun _ => True) v319 y318 at ho; have n0_ := Aside0.mk (hb); have n1_ := Aside0.mk (ho); clear HB; clear HO316; have HB := n0_; have HO320 := n1_; clear n0_ n1_; clear ho hb hg hat))
                          go_roundg k2
                          case measure => have := HK1.out; have := HK2.out; omega
                          case rel => exact ⟨(y318), (wrap64 (x6_2 + 1)), (by first | rfl | (simp; done) | (simp [*]; done)), H', ⟨by have := HK1.out; have := HK2.out; omega⟩, ⟨by (with_reducible repeat (first | apply Kd.R_alloc | apply Kd.R_drewN | apply Kd.R_drew)); first | exact HO320.out | exact Kd.R_mono HO320.out (fun _ h_ => by simpa only [ob_len] using h_)⟩, ⟨by repeat (first | (with_reducible first | exact HB.out | apply below_alloc | apply pw_below_drewN | apply below_drew1) | exact HB.out)⟩⟩
                        · rw [if_neg c12] at H
                          exact absurd H (by simp)
                      · rw [if_neg c11] at H
                        exact absurd H (by simp)
                    · rw [if_neg c10] at H
                      exact absurd H (by simp)
                  · rw [if_neg c9] at H
                    have c9b0 : decide (0 < x6_2) = false := decide_eq_false c9
                    clear c9
                    by_cases c15 : 0 ≤ x6_2
                    · rw [if_pos c15] at H
                      have c15b0 : decide (0 ≤ x6_2) = true := decide_eq_true c15
                      clear c15
                      by_cases c16 : x5_2.length + (rdOf ByteArray.empty l0 x6_2).size < 140737488355328
                      · rw [if_pos c16] at H
                        have LMc16 := Aside0.mk c16
                        clear c16
                        obtain ⟨y322, hy322⟩ : ∃ y_ : List Int, y_ = (x5_2 ++ bytesOf (rdOf ByteArray.empty l0 x6_2)) := ⟨_, rfl⟩
                        replace H : (brickyardref09_Join.l1 k2 l0 y322 (wrap64 (x6_2 + 1))) = some r := by first | (rw [hy322]; with_reducible exact H) | (have H2_ := (Option.bind_some _ _).symm.trans H; rw [hy322]; with_reducible exact H2_) | (have H2_ := (Option.bind_some _ _).symm.trans H; with_reducible exact H2_) | with_reducible exact H | (rw [hy322]; exact H) | exact H
                        have Ny322 := Aside0.mk hy322
                        clear hy322
                        have H' := Aside0.mk H
                        clear H
                        have p321 : 0 ≤ (x6_2 : Int) := of_decide_eq_true (by first | (with_reducible assumption) | assumption)
                        have q321 : x6_2 < (l0.length : Int) := of_decide_eq_true (by first | (with_reducible assumption) | assumption)
                        obtain ⟨ad321, e321, hx321_0⟩ := Kd.at_string HR0.out x6_2 p321 q321
                        cases e321
                        replace hx321_0 := (HB.out.cell (World.block_lt_of_cell? w _ hx321_0)).trans hx321_0
                        replace p321 := eq_true p321
                        replace q321 := eq_true q321
                        go_wp2_with (first | (at_builtin; refine print_append_str (w0 := w) w.heap.size rfl (.tmp 34) _ 35 9 5 rfl Try.underlying35 Try.underlying9 info5 u5 x5_2 (rdOf ByteArray.empty l0 x6_2) rfl rfl ?aO ?aB ?aS ?aL ?_; (case aB => exact (by repeat (first | (with_reducible first | exact HB.out | apply below_alloc | apply pw_below_drewN | apply below_drew1) | exact HB.out))); (case aO => exact (Kd.own_of_R (by (with_reducible repeat (first | apply Kd.R_alloc | apply Kd.R_drewN | apply Kd.R_drew)); exact HO_5.out))); (case aS => exact (below_size (by repeat (first | (with_reducible first | exact HB.out | apply below_alloc | apply pw_below_drewN | apply below_drew1) | exact HB.out)))); (case aL => have := LMc16.out; omega); intro v323 w17 ho0 hb hg; have ho := Kd.R_of_own (h1 := fun _ => rfl) (ok := fun _ => True) ho0 (fun _ _ => trivial); clear ho0; have hat := True.intro; rw [← Ny322.out] at ho; change Kd.R (Kd.int .u8) 5 w17 w.heap.size (fun _ => True) v323 y322 at ho; have n0_ := Aside0.mk (hb); have n1_ := Aside0.mk (ho); clear HB; clear HO_5; have HB := n0_; have HO324 := n1_; clear n0_ n1_; clear ho hb hg hat))
                        go_roundg k2
                        case measure => have := HK1.out; have := HK2.out; omega
                        case rel => exact ⟨(y322), (wrap64 (x6_2 + 1)), (by first | rfl | (simp; done) | (simp [*]; done)), H', ⟨by have := HK1.out; have := HK2.out; omega⟩, ⟨by (with_reducible repeat (first | apply Kd.R_alloc | apply Kd.R_drewN | apply Kd.R_drew)); first | exact HO324.out | exact Kd.R_mono HO324.out (fun _ h_ => by simpa only [ob_len] using h_)⟩, ⟨by repeat (first | (with_reducible first | exact HB.out | apply below_alloc | apply pw_below_drewN | apply below_drew1) | exact HB.out)⟩⟩
                      · rw [if_neg c16] at H
                        exact absurd H (by simp)
                    · rw [if_neg c15] at H
                      exact absurd H (by simp)
                · rw [if_neg c8] at H
                  have c8b0 : decide (x6_2 < (l0.length : Int)) = false := decide_eq_false c8
                  clear c8
                  obtain rfl := Option.some.inj H
                  have hcv18 := own_string (P := Try.prog) Try.underlying35 Try.underlying5 Try.underlying9 (Kd.own_of_R HO_5.out)
                  go_wp2
                  go_ret
                  exact ⟨by first | rfl | (simp [errW_none, errW_some] <;> rfl) | (simp [*, errW_none, errW_some] <;> rfl), by repeat (first | (with_reducible first | exact HB.out | apply below_alloc | apply pw_below_drewN | apply below_drew1) | exact HB.out)⟩
          · rw [if_neg c5] at H
            exact absurd H (by simp)
        · rw [if_neg c4] at H
          exact absurd H (by simp)

end Go.Proofs.Ytahdgaaedilcmaa.P
/- Paths, plainly: segments, the pieces between slashes, the one form. No program in sight. -/
namespace Go.Proofs.Ytahdgaaedilcmaa.Pl
open Go.RowKit Go.Proofs.YtahdgaaedilcmaaW.PrintWords

def mayB (u : UInt8) : Bool := decide ((97 ≤ u.toNat ∧ u.toNat ≤ 122) ∨ (48 ≤ u.toNat ∧ u.toNat ≤ 57) ∨ u.toNat = 95 ∨ u.toNat = 46 ∨ u.toNat = 45)
def segB (l : List UInt8) : Bool := decide (l ≠ []) && decide (l.length ≤ 32) && decide (l ≠ [46]) && decide (l ≠ [46, 46]) && l.all mayB
/-- the pieces between a text's slashes -/
def pieces : List UInt8 → List (List UInt8)
  | [] => [[]]
  | c :: l => if c = 47 then [] :: pieces l else (c :: (pieces l).headD []) :: (pieces l).tail
/-- a piece's begin, ahead of the pieces of what follows -/
def glue (cur : List UInt8) (ps : List (List UInt8)) : List (List UInt8) := (cur ++ ps.headD []) :: ps.tail
theorem pieces_ne (l : List UInt8) : pieces l ≠ [] := by
  cases l with
  | nil => simp [pieces]
  | cons c l => unfold pieces; split <;> simp
theorem glue_nil (l : List UInt8) : glue [] (pieces l) = pieces l := by
  have h := pieces_ne l
  cases hp : pieces l with
  | nil => exact absurd hp h
  | cons a r => rfl
theorem pieces_slash (l : List UInt8) : pieces (47 :: l) = [] :: pieces l := by simp [pieces]
theorem pieces_other {c : UInt8} (h : c ≠ 47) (l : List UInt8) : pieces (c :: l) = (c :: (pieces l).headD []) :: (pieces l).tail := by simp [pieces, h]
theorem glue_other {c : UInt8} (h : c ≠ 47) (cur l : List UInt8) : glue cur (pieces (c :: l)) = glue (cur ++ [c]) (pieces l) := by
  rw [pieces_other h]; simp [glue]
theorem glue_slash (cur l : List UInt8) : glue cur (pieces (47 :: l)) = cur :: pieces l := by
  rw [pieces_slash]; simp [glue]
theorem pieces_app {a : List UInt8} (h : (47 : UInt8) ∉ a) (l : List UInt8) : pieces (a ++ l) = glue a (pieces l) := by
  induction a with
  | nil => rw [List.nil_append, glue_nil]
  | cons c a ih =>
    have hc : c ≠ 47 := fun e => h (by rw [e]; exact List.mem_cons_self)
    have ha : (47 : UInt8) ∉ a := fun e => h (List.mem_cons_of_mem _ e)
    rw [List.cons_append, pieces_other hc, ih ha]
    simp [glue]
theorem pieces_one {a : List UInt8} (h : (47 : UInt8) ∉ a) : pieces a = [a] := by
  have := pieces_app h []
  rw [List.append_nil] at this
  rw [this]
  simp [pieces, glue]
theorem pieces_cut {a : List UInt8} (h : (47 : UInt8) ∉ a) (b : List UInt8) : pieces (a ++ 47 :: b) = a :: pieces b := by
  rw [pieces_app h, glue_slash]
theorem pieces_length (l : List UInt8) : (pieces l).length ≤ l.length + 1 := by
  induction l with
  | nil => simp [pieces]
  | cons c l ih =>
    unfold pieces
    split
    · simp; omega
    · simp [List.length_tail]; omega
theorem pieces_len_mem (l : List UInt8) : ∀ p ∈ pieces l, p.length ≤ l.length := by
  induction l with
  | nil => intro p hp; simp [pieces] at hp; subst hp; simp
  | cons c l ih =>
    intro p hp
    unfold pieces at hp
    have hn := pieces_ne l
    split at hp
    · rcases List.mem_cons.1 hp with rfl | hp
      · simp
      · have := ih p hp; simp; omega
    · cases hq : pieces l with
      | nil => exact absurd hq hn
      | cons a r =>
        rw [hq] at hp ih
        rcases List.mem_cons.1 hp with rfl | hp
        · have := ih a List.mem_cons_self; simp; omega
        · have := ih p (List.mem_cons_of_mem _ hp); simp; omega
/-- a byte's first place, or none -/
theorem ib_cases (l : List UInt8) (c : UInt8) : (Lib.indexByte l c = -1 ∧ c ∉ l) ∨ ∃ i : Nat, Lib.indexByte l c = (i : Int) ∧ i < l.length ∧ l = l.take i ++ c :: l.drop (i + 1) ∧ c ∉ l.take i := by
  induction l with
  | nil => exact .inl ⟨rfl, by simp⟩
  | cons b l ih =>
    by_cases hb : b = c
    · subst hb
      exact .inr ⟨0, by simp [Lib.indexByte], by simp, by simp, by simp⟩
    · have hb' : (b == c) = false := by simpa using hb
      rcases ih with ⟨h, hn⟩ | ⟨i, h, hl, he, hn⟩
      · refine .inl ⟨?_, ?_⟩
        · simp [Lib.indexByte, hb', h]
        · intro hm
          rcases List.mem_cons.1 hm with e | hm
          · exact hb e.symm
          · exact hn hm
      · refine .inr ⟨i + 1, ?_, by simpa using hl, ?_, ?_⟩
        · have h1 : ((i : Int) == -1) = false := by rw [beq_eq_false_iff_ne]; omega
          simp [Lib.indexByte, hb', h, h1]
        · simpa using he
        · intro hm
          rw [List.take_succ_cons] at hm
          rcases List.mem_cons.1 hm with e | hm
          · exact hb e.symm
          · exact hn hm
/-- going through pieces: what is kept -/
def walk : List (List UInt8) → List (List UInt8) → Option (List (List UInt8))
  | kept, [] => some kept
  | kept, p :: ps => if p = [] ∨ p = [46] then walk kept ps else if p = [46, 46] then (if kept = [] then none else walk kept.dropLast ps) else if segB p = true then walk (kept ++ [p]) ps else none
def fin (kept : List (List UInt8)) : List UInt8 × Int :=
  if kept = [] then ([], 2) else if (Lib.join kept [47]).length > 60 then ([], 3) else (Lib.join kept [47], 0)
def resOf : Option (List (List UInt8)) → List UInt8 × Int
  | none => ([], 2)
  | some kept => fin kept
def normL (l : List UInt8) : List UInt8 × Int := resOf (walk [] (pieces l))
def isL (l : List UInt8) : Bool := decide (l.length ≤ 60) && (pieces l).all segB
/-- a number's successor -/
theorem wsucc {i : Nat} (h : i < 9223372036854775807) : wrap64 ((i : Int) + 1) = ((i + 1 : Nat) : Int) := by
  rw [w64 (by omega) (by omega)]; omega
theorem map_B_L (l : List ByteArray) : (l.map L).map B = l := by
  rw [List.map_map]
  conv => rhs; rw [← List.map_id l]
  exact List.map_congr_left (fun x _ => B_L x)
theorem map_L_B (l : List (List UInt8)) : (l.map B).map L = l := by
  rw [List.map_map]
  conv => rhs; rw [← List.map_id l]
  exact List.map_congr_left (fun x _ => L_B x)
theorem L_nil : L (⟨#[]⟩ : ByteArray) = [] := rfl
theorem B_nil : B [] = (⟨#[]⟩ : ByteArray) := rfl
theorem join_len (l : List (List UInt8)) : l ≠ [] → ((Lib.join l [47]).length : Int) = -1 + (l.map (fun x => (x.length : Int) + 1)).sum := by
  cases l with
  | nil => intro h; exact absurd rfl h
  | cons x r =>
    intro _
    rw [Lib.join_length]
    have : ∀ r : List (List UInt8), ((Lib.lens r : Nat) : Int) + (r.length : Int) = (r.map (fun x => (x.length : Int) + 1)).sum := by
      intro r
      induction r with
      | nil => rfl
      | cons y r ih =>
        have e : Lib.lens (y :: r) = y.length + Lib.lens r := by simp [Lib.lens]
        rw [e, List.map_cons, List.sum_cons, List.length_cons, ← ih]
        omega
    have h1 := this (x :: r)
    rw [← h1, show ([47] : List UInt8).length * r.length = r.length from Nat.one_mul _, List.length_cons]
    omega
end Go.Proofs.Ytahdgaaedilcmaa.Pl
/- The printed functions on segments and pieces come to the plain ones. -/
namespace Go.Proofs.Ytahdgaaedilcmaa.Pl
open Go.RowKit Go.Proofs.YtahdgaaedilcmaaW.PrintWords Go.Proofs.Ytahdgaaedilcmaa.P
set_option linter.unusedSimpArgs false

theorem may_ev (u : UInt8) : Ev (fun k => path_may.f k (u.toNat : Int)) (mayB u) := by
  refine ⟨3, fun k hk => ?_⟩
  obtain ⟨k, rfl⟩ : ∃ m, k = m + 3 := ⟨k - 3, by omega⟩
  unfold mayB
  simp only [path_may.f, path_may.j0, path_may.j1]
  repeat' split
  all_goals simp_all
  all_goals omega
/-- A row of bytes, from the i-th on. -/
theorem segment_l0 (s : ByteArray) (hs : s.size ≤ 1000000) : ∀ d i : Nat, i + d = s.size → Ev (fun k => path_segment.l0 k s (s.size : Int) (i : Int)) (((L s).drop i).all mayB) := by
  intro d
  induction d with
  | zero =>
    intro i hi
    refine ev_succ ?_
    simp only [path_segment.l0]
    refine ev_ite_neg (by omega) (ev_const ?_)
    rw [List.drop_of_length_le (by rw [← size_L]; omega)]
    rfl
  | succ d ih =>
    intro i hi
    have hlt : i < (L s).length := by rw [← size_L]; omega
    refine ev_succ ?_
    simp only [path_segment.l0]
    refine ev_ite_pos (by omega) (ev_ite_pos (by omega) (ev_ite_pos (by omega) ?_))
    rw [drop_cons hlt, bt_L s i hlt, wsucc (by omega)]
    refine ev_bind (may_ev _) ?_
    rw [List.all_cons]
    cases hm : mayB (L s)[i] with
    | true => exact ev_ite_pos rfl (ev_eq (ih (i + 1) (by omega)) (by simp))
    | false => exact ev_ite_neg (by simp) (ev_const (by simp))
theorem segB_le {l : List UInt8} (h : ¬ l.length ≤ 32) : segB l = false := by unfold segB; simp [h]
theorem segment_ev (s : ByteArray) : Ev (fun k => path_segment.f k s) (segB (L s)) := by
  simp only [path_segment.f, toList_L]
  by_cases h0 : L s = []
  · refine ev_ite_pos h0 (ev_succ ?_)
    simp only [path_segment.j0]
    exact ev_ite_pos trivial (ev_const (by simp [segB, h0]))
  refine ev_ite_neg h0 ?_
  by_cases h1 : (s.size : Int) > 32
  · refine ev_ite_pos h1 (ev_succ ?_)
    simp only [path_segment.j0]
    exact ev_ite_pos trivial (ev_const (by rw [segB_le (by rw [← size_L]; omega)]))
  refine ev_ite_neg h1 ?_
  by_cases h2 : L s = [46]
  · refine ev_ite_pos h2 (ev_succ ?_)
    simp only [path_segment.j0]
    exact ev_ite_pos trivial (ev_const (by simp [segB, h2]))
  refine ev_ite_neg h2 (ev_succ ?_)
  simp only [path_segment.j0]
  by_cases h3 : L s = [46, 46]
  · exact ev_ite_pos (by simpa using h3) (ev_const (by simp [segB, h3]))
  refine ev_ite_neg (by simpa using h3) ?_
  refine ev_eq (segment_l0 s (by omega) s.size 0 (by omega)) ?_
  have h4 : (L s).length ≤ 32 := by rw [← size_L]; omega
  simp [segB, h0, h2, h3, h4]
theorem refseg_l0 (s : ByteArray) (hs : s.size ≤ 1000000) : ∀ d i : Nat, i + d = s.size → Ev (fun k => brickyardref09_Segment.l0 k s (i : Int)) (((L s).drop i).all mayB) := by
  intro d
  induction d with
  | zero =>
    intro i hi
    refine ev_succ ?_
    simp only [brickyardref09_Segment.l0]
    refine ev_ite_neg (by omega) (ev_const ?_)
    rw [List.drop_of_length_le (by rw [← size_L]; omega)]
    rfl
  | succ d ih =>
    intro i hi
    have hlt : i < (L s).length := by rw [← size_L]; omega
    refine ev_succ ?_
    simp only [brickyardref09_Segment.l0]
    refine ev_ite_pos (by omega) (ev_ite_pos (by omega) ?_)
    rw [drop_cons hlt, bt_L s i hlt, wsucc (by omega), List.all_cons]
    have hu := ih (i + 1) (by omega)
    cases hm : mayB (L s)[i] with
    | true =>
      unfold mayB at hm
      simp only [decide_eq_true_eq] at hm
      refine ev_eq (Ev.congr (fun k => ?_) hu) (by simp)
      repeat' split
      all_goals first | rfl | (exfalso; omega)
    | false =>
      unfold mayB at hm
      simp only [decide_eq_false_iff_not] at hm
      refine Ev.congr (f := fun _ => some false) (fun k => ?_) (ev_const (by simp))
      repeat' split
      all_goals first | rfl | (exfalso; omega)
theorem refseg_ev (s : ByteArray) : Ev (fun k => brickyardref09_Segment.f k s) (segB (L s)) := by
  simp only [brickyardref09_Segment.f, toList_L]
  have hsz := size_L s
  by_cases h0 : (s.size : Int) < 1
  · refine ev_ite_pos h0 (ev_succ ?_)
    simp only [brickyardref09_Segment.j0]
    have : L s = [] := List.eq_nil_of_length_eq_zero (by omega)
    exact ev_ite_pos trivial (ev_const (by simp [segB, this]))
  refine ev_ite_neg h0 ?_
  have h0' : L s ≠ [] := fun e => by rw [e, List.length_nil] at hsz; omega
  by_cases h1 : (s.size : Int) > 32
  · refine ev_ite_pos h1 (ev_succ ?_)
    simp only [brickyardref09_Segment.j0]
    exact ev_ite_pos trivial (ev_const (by rw [segB_le (by omega)]))
  refine ev_ite_neg h1 ?_
  by_cases h2 : L s = [46]
  · refine ev_ite_pos h2 (ev_succ ?_)
    simp only [brickyardref09_Segment.j0]
    exact ev_ite_pos trivial (ev_const (by simp [segB, h2]))
  refine ev_ite_neg h2 (ev_succ ?_)
  simp only [brickyardref09_Segment.j0]
  by_cases h3 : L s = [46, 46]
  · exact ev_ite_pos (by simpa using h3) (ev_const (by simp [segB, h3]))
  refine ev_ite_neg (by simpa using h3) ?_
  refine ev_eq (refseg_l0 s (by omega) s.size 0 (by omega)) ?_
  have h4 : (L s).length ≤ 32 := by omega
  simp [segB, h0', h2, h3, h4]
/-- strings.Cut at a slash. -/
theorem cut_none (s : ByteArray) (c : UInt8) (h : c ∉ L s) : strings_Cut.f s ⟨#[c]⟩ = some (s, ⟨#[]⟩, false) := by
  rcases ib_cases (L s) c with ⟨h1, _⟩ | ⟨i, _, hl, he, _⟩
  · unfold strings_Cut.f stringslite_Cut.f stringslite_Index.f
    have e : Lib.indexByte s.data.toList c = -1 := h1
    simp [show (⟨#[c]⟩ : ByteArray).size = 1 from rfl, e]
  · exact absurd (he ▸ List.mem_append_right _ List.mem_cons_self) h
theorem cut_some (s : ByteArray) (c : UInt8) (hs : s.size ≤ 4611686018427387904) (a b : List UInt8) (ha : c ∉ a) (he : L s = a ++ c :: b) : strings_Cut.f s ⟨#[c]⟩ = some (B a, B b, true) := by
  rcases ib_cases (L s) c with ⟨_, h1⟩ | ⟨i, h1, hl, he', hn⟩
  · exact absurd (he ▸ List.mem_append_right _ List.mem_cons_self) h1
  · have hi : i = a.length := by
      rcases Nat.lt_trichotomy i a.length with hlt | heq | hgt
      · exfalso
        have h2 : (L s)[i]? = some c := by rw [he']; rw [List.getElem?_append_right (by simp [List.length_take]; omega)]; simp [List.length_take]; rw [Nat.min_eq_left (by omega)]; simp
        rw [he, List.getElem?_append_left hlt] at h2
        exact ha (List.mem_of_getElem? h2)
      · exact heq
      · exfalso
        apply hn
        rw [he, List.take_append, List.take_of_length_le (by omega)]
        obtain ⟨m, hm⟩ : ∃ m, i - a.length = m + 1 := ⟨i - a.length - 1, by omega⟩
        rw [hm, List.take_succ_cons]
        exact List.mem_append_right _ List.mem_cons_self
    have hsz := size_L s
    have h3 : strings_Cut.f s ⟨#[c]⟩ = some (s.extract 0 i, s.extract (i + 1) s.size, true) := by
      have h1' : Lib.indexByte s.data.toList c = (i : Int) := h1
      unfold strings_Cut.f stringslite_Cut.f stringslite_Index.f
      rw [if_pos (show (⟨#[c]⟩ : ByteArray).size = 1 from rfl)]
      simp only [show (⟨#[c]⟩ : ByteArray).size = 1 from rfl, show (⟨#[c]⟩ : ByteArray).data.toList.headD 0 = c from rfl, h1', Option.bind_some]
      rw [if_pos (by omega), if_pos (by omega), if_pos (by omega), w64 (by omega) (by omega), if_pos (by omega), if_pos (by omega)]
      simp only [Option.bind_some]
      have e1 : ((i : Int)).toNat = i := by omega
      have e2 : ((i : Int) + ((1 : Nat) : Int)).toNat = i + 1 := by omega
      rw [e1, e2]
    rw [h3]
    congr 2
    · apply L_inj
      rw [L_extract, L_B, he, hi]
      simp
    · congr 1
      apply L_inj
      rw [L_extract, L_B, hsz, he, hi]
      simp only [List.length_append, List.length_cons]
      rw [show a.length + 1 = (a ++ [c]).length from by simp, show a ++ c :: b = (a ++ [c]) ++ b from by simp, List.drop_left]
      exact List.take_of_length_le (by simp; omega)
end Go.Proofs.Ytahdgaaedilcmaa.Pl
/- The functions that the laws of this seat come to, as plain Lean functions, each with the proof that the machine's call comes to it. -/
namespace Go.Proofs.Ytahdgaaedilcmaa.P
open Go.RowKit Go.Proofs.YtahdgaaedilcmaaW.PrintWords Go.Proofs.YtahdgaaedilcmaaW.PrintLast Go.Proofs.YtahdgaaedilcmaaW.PrintMore
attribute [local go_sem] max2_int min2_int max_two min_two max_three min_three max_four min_four   -- for this text's walks alone
set_option linter.unusedVariables false
set_option linter.unusedSimpArgs false

/-! ### path_Is: function 21 -/
def path_Is.l0 : Nat → ByteArray → Option (Bool)
  | 0, _ => none
  | k + 1, x0 => (strings_Cut.f x0 (⟨#[47]⟩ : ByteArray)).bind fun bt269 => ((path_segment.f k bt269.1).bind fun t272 => (if t272 = true then (if bt269.2.2 = true then (path_Is.l0 k bt269.2.1) else (some true)) else (some false)))
def path_Is.f (k : Nat) (a0 : ByteArray) : Option (Bool) := if (a0.size : Int) > 60 then (some false) else (path_Is.l0 k a0)
theorem path_Is.mono_l : ∀ k, (∀ y0, LeO (path_Is.l0 k y0) (path_Is.l0 (k + 1) y0))
  | 0 => fun _ r h => by simp [path_Is.l0] at h
  | k + 1 => by
    have ih0 := path_Is.mono_l k
    · intro y0
      unfold path_Is.l0
      repeat' first
      | (with_reducible exact ih0 _)
      | (with_reducible exact path_segment.mono _ _)
      | (with_reducible exact LeO.refl _)
      | (with_reducible exact LeO.none _)
      | (with_reducible refine LeO.ite ?_ ?_)
      | (with_reducible refine LeO.bind ?_ (fun _ => ?_))
      | exact ih0 _
      | exact path_segment.mono _ _
      | exact LeO.none _
      | refine LeO.ite ?_ ?_
      | refine LeO.bind ?_ (fun _ => ?_)
theorem path_Is.mono : ∀ a0 k, LeO (path_Is.f k a0) (path_Is.f (k + 1) a0) := by
  intro a0 k
  have ih0 := path_Is.mono_l k
  unfold path_Is.f
  repeat' first
      | (with_reducible exact ih0 _)
      | (with_reducible exact path_segment.mono _ _)
      | (with_reducible exact LeO.refl _)
      | (with_reducible exact LeO.none _)
      | (with_reducible refine LeO.ite ?_ ?_)
      | (with_reducible refine LeO.bind ?_ (fun _ => ?_))
      | exact ih0 _
      | exact path_segment.mono _ _
      | exact LeO.none _
      | refine LeO.ite ?_ ?_
      | refine LeO.bind ?_ (fun _ => ?_)
set_option maxHeartbeats 8000000 in
set_option maxRecDepth 100000 in
theorem path_Is.calls (k : Nat) (a0 : ByteArray) (r : Bool) (w : World) (h : path_Is.f k a0 = some r) :
    Calls Try.prog 21 #[.string a0] w fun e w' => e = .returned (.bool r) ∧ Drawn0 w w' := by
  have H : (if (a0.size : Int) > 60 then (some false) else (path_Is.l0 k a0)) = some r := h
  clear h
  by_cases c2 : (a0.size : Int) > 60
  · rw [if_pos c2] at H
    have c2b0 : decide (60 < (a0.size : Int)) = true := decide_eq_true c2
    have c2b1 : decide (60 < a0.size) = true := decide_eq_true (by omega)
    clear c2
    obtain rfl := Option.some.inj H
    go_enter Try.func21, Try.ntmps21
    go_wp2
    go_ret
    exact ⟨by first | rfl | (simp; done) | (simp [*]; done), by repeat (first | exact Drawn0.refl _ | apply Drawn0.step)⟩
  · rw [if_neg c2] at H
    have c2b0 : decide (60 < (a0.size : Int)) = false := decide_eq_false c2
    have c2b1 : decide (60 < a0.size) = false := decide_eq_false (by omega)
    clear c2
    have H' := Aside0.mk H
    clear H
    go_enter Try.func21, Try.ntmps21
    go_wp2
    go_loopg [0] k (fun kq v0 w' => ∃ (x0_1 : ByteArray), v0 = .string x0_1 ∧ Aside0 (path_Is.l0 kq x0_1 = some r) ∧ Aside0 (kq ≤ k) ∧ Drawn0 w w')
    case atStart => exact ⟨(a0), (by first | rfl | (simp; done) | (simp [*]; done)), H', ⟨Nat.le_refl _⟩, by repeat (first | exact Drawn0.refl _ | apply Drawn0.step)⟩
    case round =>
      clear H'
      try clear c2
      try clear c2b0
      try clear c2b1
      try clear p2
      obtain ⟨x0_1, rfl, HA, HK1, ⟨m1, rfl⟩⟩ := hrel
      cases gk with
      | zero => exact absurd HA.out (by simp [path_Is.l0])
      | succ k1 =>
        have H := HA.out
        clear HA
        simp only [path_Is.l0] at H
        replace H := Option.bind_eq_some_iff.mp H
        obtain ⟨⟨t269, t270, t271⟩, A30, H⟩ := H
        replace H : ((path_segment.f k1 t269).bind fun t272 => (if t272 = true then (if t271 = true then (path_Is.l0 k1 t270) else (some true)) else (some false))) = some r := H
        have A3 := Aside0.mk A30
        clear A30
        replace H := Option.bind_eq_some_iff.mp H
        obtain ⟨t272, A40, H⟩ := H
        replace H : (if t272 = true then (if t271 = true then (path_Is.l0 k1 t270) else (some true)) else (some false)) = some r := H
        have A4 := Aside0.mk A40
        clear A40
        by_cases c5 : t272 = true
        · subst c5
          have H1 : (if t271 = true then (path_Is.l0 k1 t270) else (some true)) = some r := by rw [if_pos rfl] at H; exact H
          clear H
          have H := H1
          clear H1
          by_cases c6 : t271 = true
          · subst c6
            have H1 : (path_Is.l0 k1 t270) = some r := by rw [if_pos rfl] at H; exact H
            clear H
            have H := H1
            clear H1
            have H' := Aside0.mk H
            clear H
            go_wp2_with (first | ((with_reducible refine gate_callee (f := 36) rfl ?_); refine goesL_ (some 11) rfl rfl Try.func36 (by kernel_rfl) rfl #[.string x0_1, .string (⟨#[47]⟩ : ByteArray)] rfl (by (try simp only [List.map_toArray, List.map_cons, List.map_nil]); first | done | rfl | (simp only [List.length_drop, List.length_take]; rfl)) ?_; (with_reducible refine (strings_Cut.calls x0_1 (⟨#[47]⟩ : ByteArray) t269 t270 true _ A3.out).mono ?_); rintro e w' ⟨rfl, ⟨nd, rfl⟩⟩; refine ⟨_, rfl, ?_⟩) | ((with_reducible refine gate_callee (f := 37) rfl ?_); refine goesL_ (some 16) rfl rfl Try.func37 (by kernel_rfl) rfl #[.string t269] rfl (by (try simp only [List.map_toArray, List.map_cons, List.map_nil]); first | done | rfl | (simp only [List.length_drop, List.length_take]; rfl)) ?_; (with_reducible refine (path_segment.calls k1 t269 true _ A4.out).mono ?_); rintro e w' ⟨rfl, ⟨nd, rfl⟩⟩; refine ⟨_, rfl, ?_⟩))
            go_roundg k1
            case measure => have := HK1.out; omega
            case rel => exact ⟨(t270), (by first | rfl | (simp; done) | (simp [*]; done)), H', ⟨by have := HK1.out; omega⟩, by repeat (first | exact Drawn0.refl _ | apply Drawn0.step)⟩
          · replace c6 := Bool.eq_false_iff.mpr c6
            subst c6
            have H1 : (some true) = some r := by rw [if_neg (show ¬ (false = true) by decide)] at H; exact H
            clear H
            have H := H1
            clear H1
            obtain rfl := Option.some.inj H
            go_wp2_with (first | ((with_reducible refine gate_callee (f := 36) rfl ?_); refine goesL_ (some 11) rfl rfl Try.func36 (by kernel_rfl) rfl #[.string x0_1, .string (⟨#[47]⟩ : ByteArray)] rfl (by (try simp only [List.map_toArray, List.map_cons, List.map_nil]); first | done | rfl | (simp only [List.length_drop, List.length_take]; rfl)) ?_; (with_reducible refine (strings_Cut.calls x0_1 (⟨#[47]⟩ : ByteArray) t269 t270 false _ A3.out).mono ?_); rintro e w' ⟨rfl, ⟨nd, rfl⟩⟩; refine ⟨_, rfl, ?_⟩) | ((with_reducible refine gate_callee (f := 37) rfl ?_); refine goesL_ (some 16) rfl rfl Try.func37 (by kernel_rfl) rfl #[.string t269] rfl (by (try simp only [List.map_toArray, List.map_cons, List.map_nil]); first | done | rfl | (simp only [List.length_drop, List.length_take]; rfl)) ?_; (with_reducible refine (path_segment.calls k1 t269 true _ A4.out).mono ?_); rintro e w' ⟨rfl, ⟨nd, rfl⟩⟩; refine ⟨_, rfl, ?_⟩))
            go_ret
            exact ⟨by first | rfl | (simp; done) | (simp [*]; done), by repeat (first | exact Drawn0.refl _ | apply Drawn0.step)⟩
        · replace c5 := Bool.eq_false_iff.mpr c5
          subst c5
          have H1 : (some false) = some r := by rw [if_neg (show ¬ (false = true) by decide)] at H; exact H
          clear H
          have H := H1
          clear H1
          obtain rfl := Option.some.inj H
          go_wp2_with (first | ((with_reducible refine gate_callee (f := 36) rfl ?_); refine goesL_ (some 11) rfl rfl Try.func36 (by kernel_rfl) rfl #[.string x0_1, .string (⟨#[47]⟩ : ByteArray)] rfl (by (try simp only [List.map_toArray, List.map_cons, List.map_nil]); first | done | rfl | (simp only [List.length_drop, List.length_take]; rfl)) ?_; (with_reducible refine (strings_Cut.calls x0_1 (⟨#[47]⟩ : ByteArray) t269 t270 t271 _ A3.out).mono ?_); rintro e w' ⟨rfl, ⟨nd, rfl⟩⟩; refine ⟨_, rfl, ?_⟩) | ((with_reducible refine gate_callee (f := 37) rfl ?_); refine goesL_ (some 16) rfl rfl Try.func37 (by kernel_rfl) rfl #[.string t269] rfl (by (try simp only [List.map_toArray, List.map_cons, List.map_nil]); first | done | rfl | (simp only [List.length_drop, List.length_take]; rfl)) ?_; (with_reducible refine (path_segment.calls k1 t269 false _ A4.out).mono ?_); rintro e w' ⟨rfl, ⟨nd, rfl⟩⟩; refine ⟨_, rfl, ?_⟩))
          go_ret
          exact ⟨by first | rfl | (simp; done) | (simp [*]; done), by repeat (first | exact Drawn0.refl _ | apply Drawn0.step)⟩

end Go.Proofs.Ytahdgaaedilcmaa.P
/- The functions that the laws of this seat come to, as plain Lean functions, each with the proof that the machine's call comes to it. -/
namespace Go.Proofs.Ytahdgaaedilcmaa.P
open Go.RowKit Go.Proofs.YtahdgaaedilcmaaW.PrintWords Go.Proofs.YtahdgaaedilcmaaW.PrintLast Go.Proofs.YtahdgaaedilcmaaW.PrintMore
attribute [local go_sem] max2_int min2_int max_two min_two max_three min_three max_four min_four   -- for this text's walks alone
set_option linter.unusedVariables false
set_option linter.unusedSimpArgs false

/-! ### path_Norm: function 33 -/
mutual
def path_Norm.l0 : Nat → ByteArray → List ByteArray → Bool → Option (ByteArray × Int)
  | 0, _, _, _ => none
  | k + 1, x0, x4, x5 => if x5 = true then ((strings_Cut.f x0 (⟨#[47]⟩ : ByteArray)).bind fun bt273 => (if bt273.1.toList = ([] : List UInt8) then (path_Norm.j1 k bt273.2.1 x4 bt273.2.2 bt273.1 bt273.1 (bt273.1.toList == ([] : List UInt8))) else (path_Norm.j1 k bt273.2.1 x4 bt273.2.2 bt273.1 bt273.1 (bt273.1.toList == ([46] : List UInt8))))) else (path_Norm.l1 k x4 (-1) x4 (x4.length : Int) 0)
def path_Norm.j1 : Nat → ByteArray → List ByteArray → Bool → ByteArray → ByteArray → Bool → Option (ByteArray × Int)
  | 0, _, _, _, _, _, _ => none
  | k + 1, x0, x4, x5, x6, x17, x25 => if x25 = true then (path_Norm.l0 k x0 x4 x5) else (if x17.toList = ([46, 46] : List UInt8) then (if (x4.length : Int) = 0 then (some ((⟨#[]⟩ : ByteArray), 2)) else (if 0 ≤ (wrap64 ((x4.length : Int) - 1)) then (if (wrap64 ((x4.length : Int) - 1)) ≤ (x4.length : Int) then (path_Norm.l0 k x0 (x4.take ((wrap64 ((x4.length : Int) - 1)) : Int).toNat) x5) else (none)) else (none))) else ((path_segment.f k x6).bind fun t279 => (if t279 = true then (if x4.length < 8796093022208 then (path_Norm.l0 k x0 (x4 ++ [x6]) x5) else (none)) else (some ((⟨#[]⟩ : ByteArray), 2)))))
def path_Norm.l1 : Nat → List ByteArray → Int → List ByteArray → Int → Int → Option (ByteArray × Int)
  | 0, _, _, _, _, _ => none
  | k + 1, x4, x7, x38, x39, x40 => if x40 < x39 then (if 0 ≤ x40 then (if x40 < (x38.length : Int) then (path_Norm.l1 k x4 (wrap64 (x7 + (wrap64 (((rdOf ByteArray.empty x38 x40).size : Int) + 1)))) x38 x39 (wrap64 (x40 + 1))) else (none)) else (none)) else (if x7 < 0 then (some ((⟨#[]⟩ : ByteArray), 2)) else (if x7 > 60 then (some ((⟨#[]⟩ : ByteArray), 3)) else ((strings_Join.f x4 (⟨#[47]⟩ : ByteArray)).bind fun t284 => (some (t284, 0)))))
end
def path_Norm.f (k : Nat) (a0 : ByteArray) : Option (ByteArray × Int) := path_Norm.l0 k a0 ([] : List ByteArray) true
theorem path_Norm.mono_l : ∀ k, (∀ y0 y1 y2, LeO (path_Norm.l0 k y0 y1 y2) (path_Norm.l0 (k + 1) y0 y1 y2)) ∧ (∀ y0 y1 y2 y3 y4 y5, LeO (path_Norm.j1 k y0 y1 y2 y3 y4 y5) (path_Norm.j1 (k + 1) y0 y1 y2 y3 y4 y5)) ∧ (∀ y0 y1 y2 y3 y4, LeO (path_Norm.l1 k y0 y1 y2 y3 y4) (path_Norm.l1 (k + 1) y0 y1 y2 y3 y4))
  | 0 => ⟨fun _ _ _ r h => by simp [path_Norm.l0] at h, fun _ _ _ _ _ _ r h => by simp [path_Norm.j1] at h, fun _ _ _ _ _ r h => by simp [path_Norm.l1] at h⟩
  | k + 1 => by
    obtain ⟨ih0, ih1, ih2⟩ := path_Norm.mono_l k
    refine ⟨?_, ?_, ?_⟩
    · intro y0 y1 y2
      unfold path_Norm.l0
      repeat' first
      | (with_reducible exact ih0 _ _ _)
      | (with_reducible exact ih1 _ _ _ _ _ _)
      | (with_reducible exact ih2 _ _ _ _ _)
      | (with_reducible exact path_segment.mono _ _)
      | (with_reducible exact LeO.refl _)
      | (with_reducible exact LeO.none _)
      | (with_reducible refine LeO.ite ?_ ?_)
      | (with_reducible refine LeO.bind ?_ (fun _ => ?_))
      | exact ih0 _ _ _
      | exact ih1 _ _ _ _ _ _
      | exact ih2 _ _ _ _ _
      | exact path_segment.mono _ _
      | exact LeO.none _
      | refine LeO.ite ?_ ?_
      | refine LeO.bind ?_ (fun _ => ?_)
    · intro y0 y1 y2 y3 y4 y5
      unfold path_Norm.j1
      repeat' first
      | (with_reducible exact ih0 _ _ _)
      | (with_reducible exact ih1 _ _ _ _ _ _)
      | (with_reducible exact ih2 _ _ _ _ _)
      | (with_reducible exact path_segment.mono _ _)
      | (with_reducible exact LeO.refl _)
      | (with_reducible exact LeO.none _)
      | (with_reducible refine LeO.ite ?_ ?_)
      | (with_reducible refine LeO.bind ?_ (fun _ => ?_))
      | exact ih0 _ _ _
      | exact ih1 _ _ _ _ _ _
      | exact ih2 _ _ _ _ _
      | exact path_segment.mono _ _
      | exact LeO.none _
      | refine LeO.ite ?_ ?_
      | refine LeO.bind ?_ (fun _ => ?_)
    · intro y0 y1 y2 y3 y4
      unfold path_Norm.l1
      repeat' first
      | (with_reducible exact ih0 _ _ _)
      | (with_reducible exact ih1 _ _ _ _ _ _)
      | (with_reducible exact ih2 _ _ _ _ _)
      | (with_reducible exact path_segment.mono _ _)
      | (with_reducible exact LeO.refl _)
      | (with_reducible exact LeO.none _)
      | (with_reducible refine LeO.ite ?_ ?_)
      | (with_reducible refine LeO.bind ?_ (fun _ => ?_))
      | exact ih0 _ _ _
      | exact ih1 _ _ _ _ _ _
      | exact ih2 _ _ _ _ _
      | exact path_segment.mono _ _
      | exact LeO.none _
      | refine LeO.ite ?_ ?_
      | refine LeO.bind ?_ (fun _ => ?_)
theorem path_Norm.mono : ∀ a0 k, LeO (path_Norm.f k a0) (path_Norm.f (k + 1) a0) := by
  intro a0 k
  obtain ⟨ih0, ih1, ih2⟩ := path_Norm.mono_l k
  unfold path_Norm.f
  repeat' first
      | (with_reducible exact ih0 _ _ _)
      | (with_reducible exact ih1 _ _ _ _ _ _)
      | (with_reducible exact ih2 _ _ _ _ _)
      | (with_reducible exact path_segment.mono _ _)
      | (with_reducible exact LeO.refl _)
      | (with_reducible exact LeO.none _)
      | (with_reducible refine LeO.ite ?_ ?_)
      | (with_reducible refine LeO.bind ?_ (fun _ => ?_))
      | exact ih0 _ _ _
      | exact ih1 _ _ _ _ _ _
      | exact ih2 _ _ _ _ _
      | exact path_segment.mono _ _
      | exact LeO.none _
      | refine LeO.ite ?_ ?_
      | refine LeO.bind ?_ (fun _ => ?_)
set_option maxHeartbeats 8000000 in
set_option maxRecDepth 100000 in
theorem path_Norm.calls (k : Nat) (a0 : ByteArray) (r1 : ByteArray) (r2 : Int) (w : World) (h : path_Norm.f k a0 = some (r1, r2)) :
    Calls Try.prog 33 #[.string a0] w fun e w' => e = .returned (.tuple #[.string r1, .int .i64 r2]) ∧ Below w.heap.size w w' := by
  have HB := Aside0.mk (Below.refl w.heap.size w)
  have H : (path_Norm.l0 k a0 ([] : List ByteArray) true) = some (r1, r2) := h
  clear h
  have H' := Aside0.mk H
  clear H
  go_enter Try.func33, Try.ntmps33
  go_wp2
  go_loopg [0, 4, 5] k (fun kq v0 v4 v5 w' => ∃ (x0_1 : ByteArray) (x4_1 : List ByteArray) (x5_1 : Bool), v0 = .string x0_1 ∧ v5 = .bool x5_1 ∧ Aside0 (path_Norm.l0 kq x0_1 x4_1 x5_1 = some (r1, r2)) ∧ Aside0 (kq ≤ k) ∧ Aside0 (Kd.R Kd.string 9 w' w.heap.size (fun _ => True) v4 x4_1) ∧ Aside0 (Below w.heap.size w w'))
  case atStart => exact ⟨(a0), (([] : List ByteArray)), (true), (by first | rfl | (simp; done) | (simp [*]; done)), (by first | rfl | (simp; done) | (simp [*]; done)), H', ⟨Nat.le_refl _⟩, ⟨by first | exact Kd.R_nil _ _ _ _ _ | exact Kd.N_nil _ _ _ _ _ | exact Kd.V_nil _ _ _ _ _ | exact Kd.Q_nil _ _ _ _ _ | exact Kd.S_nil _ _ _ _ _⟩, ⟨by repeat (first | (with_reducible first | exact HB.out | apply below_alloc | apply pw_below_drewN | apply below_drew1) | exact HB.out)⟩⟩
  case round =>
    clear H'
    obtain ⟨x0_1, x4_1, x5_1, rfl, rfl, HA, HK1, HO_4, HB⟩ := hrel
    cases gk with
    | zero => exact absurd HA.out (by simp [path_Norm.l0])
    | succ k1 =>
      have H := HA.out
      clear HA
      simp only [path_Norm.l0] at H
      by_cases c2 : x5_1 = true
      · subst c2
        have H1 : ((strings_Cut.f x0_1 (⟨#[47]⟩ : ByteArray)).bind fun bt273 => (if bt273.1.toList = ([] : List UInt8) then (path_Norm.j1 k1 bt273.2.1 x4_1 bt273.2.2 bt273.1 bt273.1 (bt273.1.toList == ([] : List UInt8))) else (path_Norm.j1 k1 bt273.2.1 x4_1 bt273.2.2 bt273.1 bt273.1 (bt273.1.toList == ([46] : List UInt8))))) = some (r1, r2) := by rw [if_pos rfl] at H; exact H
        clear H
        have H := H1
        clear H1
        replace H := Option.bind_eq_some_iff.mp H
        obtain ⟨⟨t273, t274, t275⟩, A30, H⟩ := H
        replace H : (if t273.toList = ([] : List UInt8) then (path_Norm.j1 k1 t274 x4_1 t275 t273 t273 (t273.toList == ([] : List UInt8))) else (path_Norm.j1 k1 t274 x4_1 t275 t273 t273 (t273.toList == ([46] : List UInt8)))) = some (r1, r2) := H
        have A3 := Aside0.mk A30
        clear A30
        have HC4 := Aside0.mk H
        clear H
        go_upto_if 25 with (first | ((with_reducible refine gate_callee (f := 36) rfl ?_); refine goesL_ (some 13) rfl rfl Try.func36 (by kernel_rfl) rfl #[.string x0_1, .string (⟨#[47]⟩ : ByteArray)] rfl (by (try simp only [List.map_toArray, List.map_cons, List.map_nil]); first | done | rfl | (simp only [List.length_drop, List.length_take]; rfl)) ?_; (with_reducible refine (strings_Cut.calls x0_1 (⟨#[47]⟩ : ByteArray) t273 t274 t275 _ A3.out).mono ?_); rintro e w' ⟨rfl, ⟨nd, rfl⟩⟩; refine ⟨_, rfl, ?_⟩))
        (try simp only [Act.put, List.setIfInBounds_toArray, List.set_cons_zero, List.set_cons_succ])
        go_cut [25] (fun v25 wc => ∃ (kq : Nat) (x25_3 : Bool), v25 = .bool x25_3 ∧ Aside0 (path_Norm.j1 kq t274 x4_1 t275 t273 t273 x25_3 = some (r1, r2)) ∧ Aside0 (kq ≤ k1) ∧ Aside0 (Kd.R Kd.string 9 wc w.heap.size (fun _ => True) u4 x4_1) ∧ Aside0 (Below w.heap.size w wc))
        case first =>
          have H := HC4.out
          clear HC4
          by_cases c5 : t273.toList = ([] : List UInt8)
          · rw [if_pos c5] at H
            have c5b0 : t273.toList.isEmpty = true := by simpa using c5
            have c5b1 : (t273.toList == ([] : List UInt8)) = true := beq_iff_eq.mpr c5
            have c5b2 : (t273.toList != ([] : List UInt8)) = false := bne_eq_false_iff_eq.mpr c5
            clear c5
            (first | rw [c5b0] | (simp only [i64_w, i32_w]; rw [c5b0]) | skip)
            have H' := Aside0.mk H
            clear H
            go_wp2
            go_meet
            case rel => exact ⟨_, ((t273.toList == ([] : List UInt8))), (by first | rfl | (simp; done) | (simp [*]; done)), H', ⟨by have := HK1.out; first | omega | exact Nat.le_refl _⟩, ⟨by (with_reducible repeat (first | apply Kd.R_alloc | apply Kd.R_drewN | apply Kd.R_drew)); first | exact HO_4.out | exact Kd.R_mono HO_4.out (fun _ h_ => by simpa only [ob_len] using h_)⟩, ⟨by repeat (first | (with_reducible first | exact HB.out | apply below_alloc | apply pw_below_drewN | apply below_drew1) | exact HB.out)⟩⟩
          · rw [if_neg c5] at H
            have c5b0 : t273.toList.isEmpty = false := by simpa using c5
            have c5b1 : (t273.toList == ([] : List UInt8)) = false := beq_eq_false_iff_ne.mpr c5
            have c5b2 : (t273.toList != ([] : List UInt8)) = true := bne_iff_ne.mpr c5
            (first | rw [c5b0] | (simp only [i64_w, i32_w]; rw [c5b0]) | skip)
            have H' := Aside0.mk H
            clear H
            go_wp2
            go_meet
            case rel => exact ⟨_, ((t273.toList == ([46] : List UInt8))), (by first | rfl | (simp; done) | (simp [*]; done)), H', ⟨by have := HK1.out; first | omega | exact Nat.le_refl _⟩, ⟨by (with_reducible repeat (first | apply Kd.R_alloc | apply Kd.R_drewN | apply Kd.R_drew)); first | exact HO_4.out | exact Kd.R_mono HO_4.out (fun _ h_ => by simpa only [ob_len] using h_)⟩, ⟨by repeat (first | (with_reducible first | exact HB.out | apply below_alloc | apply pw_below_drewN | apply below_drew1) | exact HB.out)⟩⟩
        case rest =>
          clear HC4
          try clear c2
          try clear p2
          try clear c3
          try clear c5
          try clear c5b0
          try clear c5b1
          try clear c5b2
          obtain ⟨kq, x25_3, rfl, HA, HJ3, HO_4, HB⟩ := hcut
          cases kq with
          | zero => exact absurd HA.out (by simp [path_Norm.j1])
          | succ kj3 =>
            have H := HA.out
            clear HA
            simp only [path_Norm.j1] at H
            by_cases c6 : x25_3 = true
            · subst c6
              have H1 : (path_Norm.l0 kj3 t274 x4_1 t275) = some (r1, r2) := by rw [if_pos rfl] at H; exact H
              clear H
              have H := H1
              clear H1
              have H' := Aside0.mk H
              clear H
              go_wp2
              go_roundg kj3
              case measure => have := HK1.out; have := HJ3.out; omega
              case rel => exact ⟨(t274), (x4_1), (t275), (by first | rfl | (simp; done) | (simp [*]; done)), (by first | rfl | (simp; done) | (simp [*]; done)), H', ⟨by have := HK1.out; have := HJ3.out; omega⟩, ⟨by (with_reducible repeat (first | apply Kd.R_alloc | apply Kd.R_drewN | apply Kd.R_drew)); first | exact HO_4.out | exact Kd.R_mono HO_4.out (fun _ h_ => by simpa only [ob_len] using h_)⟩, ⟨by repeat (first | (with_reducible first | exact HB.out | apply below_alloc | apply pw_below_drewN | apply below_drew1) | exact HB.out)⟩⟩
            · replace c6 := Bool.eq_false_iff.mpr c6
              subst c6
              have H1 : (if t273.toList = ([46, 46] : List UInt8) then (if (x4_1.length : Int) = 0 then (some ((⟨#[]⟩ : ByteArray), 2)) else (if 0 ≤ (wrap64 ((x4_1.length : Int) - 1)) then (if (wrap64 ((x4_1.length : Int) - 1)) ≤ (x4_1.length : Int) then (path_Norm.l0 kj3 t274 (x4_1.take ((wrap64 ((x4_1.length : Int) - 1)) : Int).toNat) t275) else (none)) else (none))) else ((path_segment.f kj3 t273).bind fun t279 => (if t279 = true then (if x4_1.length < 8796093022208 then (path_Norm.l0 kj3 t274 (x4_1 ++ [t273]) t275) else (none)) else (some ((⟨#[]⟩ : ByteArray), 2))))) = some (r1, r2) := by rw [if_neg (show ¬ (false = true) by decide)] at H; exact H
              clear H
              have H := H1
              clear H1
              by_cases c7 : t273.toList = ([46, 46] : List UInt8)
              · rw [if_pos c7] at H
                have c7b0 : (t273.toList == ([46, 46] : List UInt8)) = true := beq_iff_eq.mpr c7
                have c7b1 : (t273.toList != ([46, 46] : List UInt8)) = false := bne_eq_false_iff_eq.mpr c7
                clear c7
                by_cases c8 : (x4_1.length : Int) = 0
                · rw [if_pos c8] at H
                  have c8b0 : ((x4_1.length : Int) == 0) = true := beq_iff_eq.mpr c8
                  have c8b1 : ((x4_1.length : Int) != 0) = false := bne_eq_false_iff_eq.mpr c8
                  clear c8
                  simp only [Option.some.injEq, Prod.mk.injEq] at H
                  obtain ⟨rfl, rfl⟩ := H
                  obtain ⟨Ao9, co9, eo9⟩ := Kd.R_slice HO_4.out
                  subst eo9
                  go_wp2
                  go_ret2
                  exact ⟨by first | rfl | (simp [errW_none, errW_some] <;> rfl) | (simp [*, errW_none, errW_some] <;> rfl), by repeat (first | (with_reducible first | exact HB.out | apply below_alloc | apply pw_below_drewN | apply below_drew1) | exact HB.out)⟩
                · rw [if_neg c8] at H
                  have c8b0 : ((x4_1.length : Int) == 0) = false := beq_eq_false_iff_ne.mpr c8
                  have c8b1 : ((x4_1.length : Int) != 0) = true := bne_iff_ne.mpr c8
                  have c8b2 : ¬ (x4_1 = []) := fun h_ => c8 (by rw [h_]; rfl)
                  obtain ⟨ji10, hji10⟩ : ∃ j_ : Int, (wrap64 ((x4_1.length : Int) - 1)) = j_ := ⟨_, rfl⟩
                  replace H : (if 0 ≤ (ji10) then (if (ji10) ≤ (x4_1.length : Int) then (path_Norm.l0 kj3 t274 (x4_1.take ((ji10) : Int).toNat) t275) else (none)) else (none)) = some (r1, r2) := by first | (rw [hji10] at H; exact H) | (simp only [hji10] at H ⊢; exact H)
                  have hji10w : (IntKind.i64.wrap ((x4_1.length : Int) - 1)) = ji10 := (i64_w _).trans hji10
                  by_cases c11 : 0 ≤ (ji10)
                  · rw [if_pos c11] at H
                    have c11b0 := eq_true c11
                    have c11b1 : decide (0 ≤ (ji10)) = true := decide_eq_true c11
                    clear c11
                    by_cases c12 : (ji10) ≤ (x4_1.length : Int)
                    · rw [if_pos c12] at H
                      have c12b0 := eq_true c12
                      have c12b1 : decide ((ji10) ≤ (x4_1.length : Int)) = true := decide_eq_true c12
                      clear c12
                      obtain ⟨y276, hy276⟩ : ∃ y_ : List ByteArray, y_ = (x4_1.take ((ji10) : Int).toNat) := ⟨_, rfl⟩
                      replace H : (path_Norm.l0 kj3 t274 y276 t275) = some (r1, r2) := by first | (rw [hy276]; with_reducible exact H) | (have H2_ := (Option.bind_some _ _).symm.trans H; rw [hy276]; with_reducible exact H2_) | (have H2_ := (Option.bind_some _ _).symm.trans H; with_reducible exact H2_) | with_reducible exact H | (rw [hy276]; exact H) | exact H
                      have Ny276 := Aside0.mk hy276
                      clear hy276
                      have H' := Aside0.mk H
                      clear H
                      obtain ⟨Ao13, co13, eo13⟩ := Kd.R_slice HO_4.out
                      subst eo13
                      have q14 : ((ji10) : Int) ≤ ((x4_1.length : Int) : Int) := of_decide_eq_true (by first | (with_reducible assumption) | assumption)
                      obtain ⟨i014, hi014, _, hsz14, _⟩ := info_parts info9
                      have hcut14 := cut_to (P := Try.prog) 30 9 .i64 Try.underlying30 hi014 Ao13 x4_1.length co13 (ji10) (of_decide_eq_true (by first | (with_reducible assumption) | assumption)) q14 (Kd.R_reads' HO_4.out).2.1
                      have hr14 := Kd.R_take (m := ((ji10) : Int).toNat) HO_4.out (by omega)
                      have hy14 : y276.length = ((ji10) : Int).toNat := (by rw [Ny276.out, List.length_take]; omega)
                      rw [← Ny276.out] at hr14
                      rw [← hy14] at hr14 hcut14
                      clear hy14 hi014 hsz14 HO_4
                      have HO278 := Aside0.mk hr14
                      clear hr14
                      replace q14 := eq_true q14
                      go_wp2
                      go_roundg kj3
                      case measure => have := HK1.out; have := HJ3.out; omega
                      case rel => exact ⟨(t274), (y276), (t275), (by first | rfl | (simp; done) | (simp [*]; done)), (by first | rfl | (simp; done) | (simp [*]; done)), H', ⟨by have := HK1.out; have := HJ3.out; omega⟩, ⟨by (with_reducible repeat (first | apply Kd.R_alloc | apply Kd.R_drewN | apply Kd.R_drew)); first | exact HO278.out | exact Kd.R_mono HO278.out (fun _ h_ => by simpa only [ob_len] using h_)⟩, ⟨by repeat (first | (with_reducible first | exact HB.out | apply below_alloc | apply pw_below_drewN | apply below_drew1) | exact HB.out)⟩⟩
                    · rw [if_neg c12] at H
                      exact absurd H (by simp)
                  · rw [if_neg c11] at H
                    exact absurd H (by simp)
              · rw [if_neg c7] at H
                have c7b0 : (t273.toList == ([46, 46] : List UInt8)) = false := beq_eq_false_iff_ne.mpr c7
                have c7b1 : (t273.toList != ([46, 46] : List UInt8)) = true := bne_iff_ne.mpr c7
                replace H := Option.bind_eq_some_iff.mp H
                obtain ⟨t279, A150, H⟩ := H
                replace H : (if t279 = true then (if x4_1.length < 8796093022208 then (path_Norm.l0 kj3 t274 (x4_1 ++ [t273]) t275) else (none)) else (some ((⟨#[]⟩ : ByteArray), 2))) = some (r1, r2) := H
                have A15 := Aside0.mk A150
                clear A150
                by_cases c16 : t279 = true
                · subst c16
                  have H1 : (if x4_1.length < 8796093022208 then (path_Norm.l0 kj3 t274 (x4_1 ++ [t273]) t275) else (none)) = some (r1, r2) := by rw [if_pos rfl] at H; exact H
                  clear H
                  have H := H1
                  clear H1
                  by_cases c17 : x4_1.length < 8796093022208
                  · rw [if_pos c17] at H
                    have LMc17 := Aside0.mk c17
                    clear c17
                    obtain ⟨y280, hy280⟩ : ∃ y_ : List ByteArray, y_ = (x4_1 ++ [t273]) := ⟨_, rfl⟩
                    replace H : (path_Norm.l0 kj3 t274 y280 t275) = some (r1, r2) := by first | (rw [hy280]; with_reducible exact H) | (have H2_ := (Option.bind_some _ _).symm.trans H; rw [hy280]; with_reducible exact H2_) | (have H2_ := (Option.bind_some _ _).symm.trans H; with_reducible exact H2_) | with_reducible exact H | (rw [hy280]; exact H) | exact H
                    have Ny280 := Aside0.mk hy280
                    clear hy280
                    have H' := Aside0.mk H
                    clear H
                    go_wp2_with (first | ((with_reducible refine gate_callee (f := 37) rfl ?_); refine goesL_ (some 19) rfl rfl Try.func37 (by kernel_rfl) rfl #[.string t273] rfl (by (try simp only [List.map_toArray, List.map_cons, List.map_nil]); first | done | rfl | (simp only [List.length_drop, List.length_take]; rfl)) ?_; (with_reducible refine (path_segment.calls kj3 t273 true _ A15.out).mono ?_); rintro e w' ⟨rfl, ⟨nd, rfl⟩⟩; refine ⟨_, rfl, ?_⟩) | ((with_reducible refine gate_builtin (b := .append) (xs := #[.tmp 21, .tmp 23]) rfl ?_); at_builtin; refine Kd.R_append Kd.string (w0 := w) w.heap.size rfl (.tmp 21) (.tmp 23) 30 9 (.string ⟨#[]⟩) 16 rfl Try.underlying30 info9 rfl (by decide) (by omega) u4 x4_1 t273 [.string t273] (fun _ => True) (fun _ => False) rfl rfl ?aP (fun _ hk => hk.elim) ?aF ?aO ?aB ?aS ?aL ?_; (case aP => exact rfl); (case aB => exact (by repeat (first | (with_reducible first | exact HB.out | apply below_alloc | apply pw_below_drewN | apply below_drew1) | exact HB.out))); (case aF => exact (fun _ _ => trivial)); (case aO => exact (by (with_reducible repeat (first | apply Kd.R_alloc | apply Kd.R_drewN | apply Kd.R_drew)); exact HO_4.out)); (case aS => exact (below_size (by repeat (first | (with_reducible first | exact HB.out | apply below_alloc | apply pw_below_drewN | apply below_drew1) | exact HB.out)))); (case aL => have := LMc17.out; omega); intro v281 w18 ho hb hg hat; rw [← Ny280.out] at ho; have n0_ := Aside0.mk (hb); have n1_ := Aside0.mk (ho); clear HB; clear HO_4; have HB := n0_; have HO282 := n1_; clear n0_ n1_; clear ho hb hg hat))
                    go_roundg kj3
                    case measure => have := HK1.out; have := HJ3.out; omega
                    case rel => exact ⟨(t274), (y280), (t275), (by first | rfl | (simp; done) | (simp [*]; done)), (by first | rfl | (simp; done) | (simp [*]; done)), H', ⟨by have := HK1.out; have := HJ3.out; omega⟩, ⟨by (with_reducible repeat (first | apply Kd.R_alloc | apply Kd.R_drewN | apply Kd.R_drew)); first | exact HO282.out | exact Kd.R_mono HO282.out (fun _ h_ => by simpa only [ob_len] using h_)⟩, ⟨by repeat (first | (with_reducible first | exact HB.out | apply below_alloc | apply pw_below_drewN | apply below_drew1) | exact HB.out)⟩⟩
                  · rw [if_neg c17] at H
                    exact absurd H (by simp)
                · replace c16 := Bool.eq_false_iff.mpr c16
                  subst c16
                  have H1 : (some ((⟨#[]⟩ : ByteArray), 2)) = some (r1, r2) := by rw [if_neg (show ¬ (false = true) by decide)] at H; exact H
                  clear H
                  have H := H1
                  clear H1
                  simp only [Option.some.injEq, Prod.mk.injEq] at H
                  obtain ⟨rfl, rfl⟩ := H
                  go_wp2_with (first | ((with_reducible refine gate_callee (f := 37) rfl ?_); refine goesL_ (some 19) rfl rfl Try.func37 (by kernel_rfl) rfl #[.string t273] rfl (by (try simp only [List.map_toArray, List.map_cons, List.map_nil]); first | done | rfl | (simp only [List.length_drop, List.length_take]; rfl)) ?_; (with_reducible refine (path_segment.calls kj3 t273 false _ A15.out).mono ?_); rintro e w' ⟨rfl, ⟨nd, rfl⟩⟩; refine ⟨_, rfl, ?_⟩))
                  go_ret2
                  exact ⟨by first | rfl | (simp [errW_none, errW_some] <;> rfl) | (simp [*, errW_none, errW_some] <;> rfl), by repeat (first | (with_reducible first | exact HB.out | apply below_alloc | apply pw_below_drewN | apply below_drew1) | exact HB.out)⟩
      · replace c2 := Bool.eq_false_iff.mpr c2
        subst c2
        have H1 : (path_Norm.l1 k1 x4_1 (-1) x4_1 (x4_1.length : Int) 0) = some (r1, r2) := by rw [if_neg (show ¬ (false = true) by decide)] at H; exact H
        clear H
        have H := H1
        clear H1
        have H' := Aside0.mk H
        clear H
        obtain ⟨Ao19, co19, eo19⟩ := Kd.R_slice HO_4.out
        subst eo19
        go_wp2
        go_loopg [7, 40] k1 (fun kq v7 v40 w' => ∃ (x7_2 : Int) (x40_2 : Int), v7 = .int .i64 x7_2 ∧ v40 = .int .i64 x40_2 ∧ Aside0 (path_Norm.l1 kq x4_1 x7_2 x4_1 (x4_1.length : Int) x40_2 = some (r1, r2)) ∧ Aside0 (kq ≤ k1) ∧ Aside0 (Kd.R Kd.string 9 w' w.heap.size (fun _ => True) (.slice Ao19 x4_1.length co19) x4_1) ∧ Aside0 (Kd.R Kd.string 9 w' w.heap.size (fun _ => True) (.slice Ao19 x4_1.length co19) x4_1) ∧ Aside0 (Below w.heap.size w w'))
        case atStart => exact ⟨((-1)), (0), (by first | rfl | (simp; done) | (simp [*]; done)), (by first | rfl | (simp; done) | (simp [*]; done)), H', ⟨Nat.le_refl _⟩, ⟨by (with_reducible repeat (first | apply Kd.R_alloc | apply Kd.R_drewN | apply Kd.R_drew)); first | exact HO_4.out | exact Kd.R_mono HO_4.out (fun _ h_ => by simpa only [ob_len] using h_)⟩, ⟨by (with_reducible repeat (first | apply Kd.R_alloc | apply Kd.R_drewN | apply Kd.R_drew)); first | exact HO_4.out | exact Kd.R_mono HO_4.out (fun _ h_ => by simpa only [ob_len] using h_)⟩, ⟨by repeat (first | (with_reducible first | exact HB.out | apply below_alloc | apply pw_below_drewN | apply below_drew1) | exact HB.out)⟩⟩
        case round =>
          clear H'
          try clear c1
          try clear q1
          try clear c2
          try clear p2
          try clear c3
          try clear c5
          try clear c5b0
          try clear c5b1
          try clear c5b2
          try clear c6
          try clear p6
          try clear c7
          try clear c7b0
          try clear c7b1
          try clear c8
          try clear c8b0
          try clear c8b1
          try clear c8b2
          try clear c11
          try clear c11b0
          try clear c11b1
          try clear c12
          try clear c12b0
          try clear c12b1
          try clear q14
          try clear c16
          try clear c17
          try clear p2
          try clear q14
          obtain ⟨x7_2, x40_2, rfl, rfl, HA, HK2, HO_4, HO_38, HB⟩ := hrel
          cases gk with
          | zero => exact absurd HA.out (by simp [path_Norm.l1])
          | succ k2 =>
            have H := HA.out
            clear HA
            simp only [path_Norm.l1] at H
            by_cases c20 : x40_2 < (x4_1.length : Int)
            · rw [if_pos c20] at H
              have c20b0 : decide (x40_2 < (x4_1.length : Int)) = true := decide_eq_true c20
              clear c20
              by_cases c21 : 0 ≤ x40_2
              · rw [if_pos c21] at H
                have c21b0 : decide (0 ≤ x40_2) = true := decide_eq_true c21
                clear c21
                by_cases c22 : x40_2 < (x4_1.length : Int)
                · rw [if_pos c22] at H
                  have c22b0 : decide (x40_2 < (x4_1.length : Int)) = true := decide_eq_true c22
                  clear c22
                  have H' := Aside0.mk H
                  clear H
                  have p283 : 0 ≤ (x40_2 : Int) := of_decide_eq_true (by first | (with_reducible assumption) | assumption)
                  have q283 : x40_2 < (x4_1.length : Int) := of_decide_eq_true (by first | (with_reducible assumption) | assumption)
                  obtain ⟨ad283, e283, hx283_0⟩ := Kd.at_string (Kd.R_reads' HO_38.out).2.2 x40_2 p283 q283
                  cases e283
                  replace p283 := eq_true p283
                  replace q283 := eq_true q283
                  go_wp2
                  go_roundg k2
                  case measure => have := HK1.out; have := HK2.out; omega
                  case rel => exact ⟨(wrap64 (x7_2 + (wrap64 (((rdOf ByteArray.empty x4_1 x40_2).size : Int) + 1)))), (wrap64 (x40_2 + 1)), (by first | rfl | (simp; done) | (simp [*]; done)), (by first | rfl | (simp; done) | (simp [*]; done)), H', ⟨by have := HK1.out; have := HK2.out; omega⟩, ⟨by (with_reducible repeat (first | apply Kd.R_alloc | apply Kd.R_drewN | apply Kd.R_drew)); first | exact HO_4.out | exact Kd.R_mono HO_4.out (fun _ h_ => by simpa only [ob_len] using h_)⟩, ⟨by (with_reducible repeat (first | apply Kd.R_alloc | apply Kd.R_drewN | apply Kd.R_drew)); first | exact HO_38.out | exact Kd.R_mono HO_38.out (fun _ h_ => by simpa only [ob_len] using h_)⟩, ⟨by repeat (first | (with_reducible first | exact HB.out | apply below_alloc | apply pw_below_drewN | apply below_drew1) | exact HB.out)⟩⟩
                · rw [if_neg c22] at H
                  exact absurd H (by simp)
              · rw [if_neg c21] at H
                exact absurd H (by simp)
            · rw [if_neg c20] at H
              have c20b0 : decide (x40_2 < (x4_1.length : Int)) = false := decide_eq_false c20
              clear c20
              by_cases c23 : x7_2 < 0
              · rw [if_pos c23] at H
                have c23b0 : decide (x7_2 < 0) = true := decide_eq_true c23
                clear c23
                simp only [Option.some.injEq, Prod.mk.injEq] at H
                obtain ⟨rfl, rfl⟩ := H
                go_wp2
                go_ret2
                exact ⟨by first | rfl | (simp [errW_none, errW_some] <;> rfl) | (simp [*, errW_none, errW_some] <;> rfl), by repeat (first | (with_reducible first | exact HB.out | apply below_alloc | apply pw_below_drewN | apply below_drew1) | exact HB.out)⟩
              · rw [if_neg c23] at H
                have c23b0 : decide (x7_2 < 0) = false := decide_eq_false c23
                clear c23
                by_cases c24 : x7_2 > 60
                · rw [if_pos c24] at H
                  have c24b0 : decide (60 < x7_2) = true := decide_eq_true c24
                  clear c24
                  simp only [Option.some.injEq, Prod.mk.injEq] at H
                  obtain ⟨rfl, rfl⟩ := H
                  go_wp2
                  go_ret2
                  exact ⟨by first | rfl | (simp [errW_none, errW_some] <;> rfl) | (simp [*, errW_none, errW_some] <;> rfl), by repeat (first | (with_reducible first | exact HB.out | apply below_alloc | apply pw_below_drewN | apply below_drew1) | exact HB.out)⟩
                · rw [if_neg c24] at H
                  have c24b0 : decide (60 < x7_2) = false := decide_eq_false c24
                  clear c24
                  replace H := Option.bind_eq_some_iff.mp H
                  obtain ⟨t284, A250, H⟩ := H
                  replace H : (some (t284, 0)) = some (r1, r2) := H
                  have A25 := Aside0.mk A250
                  clear A250
                  simp only [Option.some.injEq, Prod.mk.injEq] at H
                  obtain ⟨rfl, rfl⟩ := H
                  go_wp2_with (first | ((with_reducible refine gate_callee (f := 42) rfl ?_); refine goesL_ (some 57) rfl rfl Try.func42 (by kernel_rfl) rfl #[.slice Ao19 x4_1.length co19, .string (⟨#[47]⟩ : ByteArray)] rfl (by (try simp only [List.map_toArray, List.map_cons, List.map_nil]); first | done | rfl | (simp only [List.length_drop, List.length_take]; rfl)) ?_; (with_reducible refine (strings_Join.calls _ _ x4_1 (⟨#[47]⟩ : ByteArray) t284 _ ?side1 ?side2 A25.out).mono ?_); (case side1 => repeat (first | exact (Kd.R_reads' HO_4.out).2.2 | (with_reducible refine Kd.C_alloc ?_ _) | (with_reducible refine Kd.C_drewN ?_ _) | (with_reducible refine Kd.C_drew ?_))); (case side2 => exact (Kd.R_reads' HO_4.out).2.1); rintro e w26 ⟨rfl, hb⟩; refine ⟨_, rfl, ?_⟩; have n0_ := Aside0.mk (Kd.R_below (by (with_reducible repeat (first | apply Kd.R_alloc | apply Kd.R_drewN | apply Kd.R_drew)); exact HO_4.out) hb); have n1_ := Aside0.mk (Kd.R_below (by (with_reducible repeat (first | apply Kd.R_alloc | apply Kd.R_drewN | apply Kd.R_drew)); exact HO_38.out) hb); have n2_ := Aside0.mk (below_step (by repeat (first | (with_reducible first | exact HB.out | apply below_alloc | apply pw_below_drewN | apply below_drew1) | exact HB.out)) hb); clear HO_4; clear HO_38; clear HB; have HO_4 := n0_; have HO_38 := n1_; have HB := n2_; clear n0_ n1_ n2_; (try clear hb); (try clear hb2); (try clear hk); (try clear hi)))
                  go_ret2
                  exact ⟨by first | rfl | (simp [errW_none, errW_some] <;> rfl) | (simp [*, errW_none, errW_some] <;> rfl), by repeat (first | (with_reducible first | exact HB.out | apply below_alloc | apply pw_below_drewN | apply below_drew1) | exact HB.out)⟩

end Go.Proofs.Ytahdgaaedilcmaa.P
/- The functions that the laws of this seat come to, as plain Lean functions, each with the proof that the machine's call comes to it. -/
namespace Go.Proofs.Ytahdgaaedilcmaa.P
open Go.RowKit Go.Proofs.YtahdgaaedilcmaaW.PrintWords Go.Proofs.YtahdgaaedilcmaaW.PrintLast Go.Proofs.YtahdgaaedilcmaaW.PrintMore
attribute [local go_sem] max2_int min2_int max_two min_two max_three min_three max_four min_four   -- for this text's walks alone
set_option linter.unusedVariables false
set_option linter.unusedSimpArgs false

/-! ### brickyardref09_Is: function 34 -/
def brickyardref09_Is.l0 : Nat → List ByteArray → Int → Option (Bool)
  | 0, _, _ => none
  | k + 1, x3, x4 => if x4 < (x3.length : Int) then (if 0 ≤ x4 then ((brickyardref09_Segment.f k (rdOf ByteArray.empty x3 x4)).bind fun t309 => (if t309 = true then (brickyardref09_Is.l0 k x3 (wrap64 (x4 + 1))) else (some false))) else (none)) else (some true)
def brickyardref09_Is.f (k : Nat) (a0 : ByteArray) : Option (Bool) := if (a0.size : Int) > 60 then (some false) else ((brickyardref09_Cut.f k a0).bind fun t305 => (brickyardref09_Is.l0 k t305 0))
theorem brickyardref09_Is.mono_l : ∀ k, (∀ y0 y1, LeO (brickyardref09_Is.l0 k y0 y1) (brickyardref09_Is.l0 (k + 1) y0 y1))
  | 0 => fun _ _ r h => by simp [brickyardref09_Is.l0] at h
  | k + 1 => by
    have ih0 := brickyardref09_Is.mono_l k
    · intro y0 y1
      unfold brickyardref09_Is.l0
      repeat' first
      | (with_reducible exact ih0 _ _)
      | (with_reducible exact brickyardref09_Cut.mono _ _)
      | (with_reducible exact brickyardref09_Segment.mono _ _)
      | (with_reducible exact LeO.refl _)
      | (with_reducible exact LeO.none _)
      | (with_reducible refine LeO.ite ?_ ?_)
      | (with_reducible refine LeO.bind ?_ (fun _ => ?_))
      | exact ih0 _ _
      | exact brickyardref09_Cut.mono _ _
      | exact brickyardref09_Segment.mono _ _
      | exact LeO.none _
      | refine LeO.ite ?_ ?_
      | refine LeO.bind ?_ (fun _ => ?_)
theorem brickyardref09_Is.mono : ∀ a0 k, LeO (brickyardref09_Is.f k a0) (brickyardref09_Is.f (k + 1) a0) := by
  intro a0 k
  have ih0 := brickyardref09_Is.mono_l k
  unfold brickyardref09_Is.f
  repeat' first
      | (with_reducible exact ih0 _ _)
      | (with_reducible exact brickyardref09_Cut.mono _ _)
      | (with_reducible exact brickyardref09_Segment.mono _ _)
      | (with_reducible exact LeO.refl _)
      | (with_reducible exact LeO.none _)
      | (with_reducible refine LeO.ite ?_ ?_)
      | (with_reducible refine LeO.bind ?_ (fun _ => ?_))
      | exact ih0 _ _
      | exact brickyardref09_Cut.mono _ _
      | exact brickyardref09_Segment.mono _ _
      | exact LeO.none _
      | refine LeO.ite ?_ ?_
      | refine LeO.bind ?_ (fun _ => ?_)
set_option maxHeartbeats 8000000 in
set_option maxRecDepth 100000 in
theorem brickyardref09_Is.calls (k : Nat) (a0 : ByteArray) (r : Bool) (w : World) (h : brickyardref09_Is.f k a0 = some r) :
    Calls Try.prog 34 #[.string a0] w fun e w' => e = .returned (.bool r) ∧ Below w.heap.size w w' := by
  have HB := Aside0.mk (Below.refl w.heap.size w)
  have H : (if (a0.size : Int) > 60 then (some false) else ((brickyardref09_Cut.f k a0).bind fun t305 => (brickyardref09_Is.l0 k t305 0))) = some r := h
  clear h
  by_cases c2 : (a0.size : Int) > 60
  · rw [if_pos c2] at H
    have c2b0 : decide (60 < (a0.size : Int)) = true := decide_eq_true c2
    have c2b1 : decide (60 < a0.size) = true := decide_eq_true (by omega)
    clear c2
    obtain rfl := Option.some.inj H
    go_enter Try.func34, Try.ntmps34
    go_wp2
    go_ret
    exact ⟨by first | rfl | (simp [errW_none, errW_some] <;> rfl) | (simp [*, errW_none, errW_some] <;> rfl), by repeat (first | (with_reducible first | exact HB.out | apply below_alloc | apply pw_below_drewN | apply below_drew1) | exact HB.out)⟩
  · rw [if_neg c2] at H
    have c2b0 : decide (60 < (a0.size : Int)) = false := decide_eq_false c2
    have c2b1 : decide (60 < a0.size) = false := decide_eq_false (by omega)
    clear c2
    replace H := Option.bind_eq_some_iff.mp H
    obtain ⟨t305, A30, H⟩ := H
    replace H : (brickyardref09_Is.l0 k t305 0) = some r := H
    have A3 := Aside0.mk A30
    clear A30
    have H' := Aside0.mk H
    clear H
    go_enter Try.func34, Try.ntmps34
    go_wp2_with (first | ((with_reducible refine gate_callee (f := 43) rfl ?_); refine goesL_ (some 9) rfl rfl Try.func43 (by kernel_rfl) rfl #[.string a0] rfl (by (try simp only [List.map_toArray, List.map_cons, List.map_nil]); first | done | rfl | (simp only [List.length_drop, List.length_take]; rfl)) ?_; (with_reducible refine (brickyardref09_Cut.calls k a0 t305 _ A3.out).mono ?_); rintro e w4 ⟨v306, rfl, ho0, hb⟩; refine ⟨_, rfl, ?_⟩; have n0_ := Aside0.mk (Kd.R_lower ho0 (below_size (by repeat (first | (with_reducible first | exact HB.out | apply below_alloc | apply pw_below_drewN | apply below_drew1) | exact HB.out)))); have n1_ := Aside0.mk (below_step (by repeat (first | (with_reducible first | exact HB.out | apply below_alloc | apply pw_below_drewN | apply below_drew1) | exact HB.out)) hb); clear HB; have HO307 := n0_; have HB := n1_; clear n0_ n1_; (try clear hb); (try clear hb2); (try clear hk); (try clear hi); (try clear ho0)))
    go_loopg [4] k (fun kq v4 w' => ∃ (x4_1 : Int), v4 = .int .i64 x4_1 ∧ Aside0 (brickyardref09_Is.l0 kq t305 x4_1 = some r) ∧ Aside0 (kq ≤ k) ∧ Aside0 (Kd.R Kd.string 9 w' w.heap.size (fun _ => True) v306 t305) ∧ Aside0 (Below w.heap.size w w'))
    case atStart => exact ⟨(0), (by first | rfl | (simp; done) | (simp [*]; done)), H', ⟨Nat.le_refl _⟩, ⟨by (with_reducible repeat (first | apply Kd.R_alloc | apply Kd.R_drewN | apply Kd.R_drew)); first | exact HO307.out | exact Kd.R_mono HO307.out (fun _ h_ => by simpa only [ob_len] using h_)⟩, ⟨by repeat (first | (with_reducible first | exact HB.out | apply below_alloc | apply pw_below_drewN | apply below_drew1) | exact HB.out)⟩⟩
    case round =>
      clear H'
      try clear c2
      try clear c2b0
      try clear c2b1
      try clear p2
      try clear c3
      try clear c4
      obtain ⟨x4_1, rfl, HA, HK1, HO_3, HB⟩ := hrel
      cases gk with
      | zero => exact absurd HA.out (by simp [brickyardref09_Is.l0])
      | succ k1 =>
        have H := HA.out
        clear HA
        simp only [brickyardref09_Is.l0] at H
        by_cases c5 : x4_1 < (t305.length : Int)
        · rw [if_pos c5] at H
          have c5b0 : decide (x4_1 < (t305.length : Int)) = true := decide_eq_true c5
          clear c5
          by_cases c6 : 0 ≤ x4_1
          · rw [if_pos c6] at H
            have c6b0 : decide (0 ≤ x4_1) = true := decide_eq_true c6
            clear c6
            replace H := Option.bind_eq_some_iff.mp H
            obtain ⟨t309, A70, H⟩ := H
            replace H : (if t309 = true then (brickyardref09_Is.l0 k1 t305 (wrap64 (x4_1 + 1))) else (some false)) = some r := H
            have A7 := Aside0.mk A70
            clear A70
            by_cases c8 : t309 = true
            · subst c8
              have H1 : (brickyardref09_Is.l0 k1 t305 (wrap64 (x4_1 + 1))) = some r := by rw [if_pos rfl] at H; exact H
              clear H
              have H := H1
              clear H1
              have H' := Aside0.mk H
              clear H
              obtain ⟨Ao9, co9, eo9⟩ := Kd.R_slice HO_3.out
              subst eo9
              have p308 : 0 ≤ (x4_1 : Int) := of_decide_eq_true (by first | (with_reducible assumption) | assumption)
              have q308 : x4_1 < (t305.length : Int) := of_decide_eq_true (by first | (with_reducible assumption) | assumption)
              obtain ⟨ad308, e308, hx308_0⟩ := Kd.at_string (Kd.R_reads' HO_3.out).2.2 x4_1 p308 q308
              cases e308
              replace p308 := eq_true p308
              replace q308 := eq_true q308
              go_wp2_with (first | ((with_reducible refine gate_callee (f := 44) rfl ?_); refine goesL_ (some 20) rfl rfl Try.func44 (by kernel_rfl) rfl #[.string (rdOf ByteArray.empty t305 x4_1)] rfl (by (try simp only [List.map_toArray, List.map_cons, List.map_nil]); first | done | rfl | (simp only [List.length_drop, List.length_take]; rfl)) ?_; (with_reducible refine (brickyardref09_Segment.calls k1 (rdOf ByteArray.empty t305 x4_1) true _ A7.out).mono ?_); rintro e w' ⟨rfl, ⟨nd, rfl⟩⟩; refine ⟨_, rfl, ?_⟩))
              go_roundg k1
              case measure => have := HK1.out; omega
              case rel => exact ⟨(wrap64 (x4_1 + 1)), (by first | rfl | (simp; done) | (simp [*]; done)), H', ⟨by have := HK1.out; omega⟩, ⟨by (with_reducible repeat (first | apply Kd.R_alloc | apply Kd.R_drewN | apply Kd.R_drew)); first | exact HO_3.out | exact Kd.R_mono HO_3.out (fun _ h_ => by simpa only [ob_len] using h_)⟩, ⟨by repeat (first | (with_reducible first | exact HB.out | apply below_alloc | apply pw_below_drewN | apply below_drew1) | exact HB.out)⟩⟩
            · replace c8 := Bool.eq_false_iff.mpr c8
              subst c8
              have H1 : (some false) = some r := by rw [if_neg (show ¬ (false = true) by decide)] at H; exact H
              clear H
              have H := H1
              clear H1
              obtain rfl := Option.some.inj H
              obtain ⟨Ao10, co10, eo10⟩ := Kd.R_slice HO_3.out
              subst eo10
              have p308 : 0 ≤ (x4_1 : Int) := of_decide_eq_true (by first | (with_reducible assumption) | assumption)
              have q308 : x4_1 < (t305.length : Int) := of_decide_eq_true (by first | (with_reducible assumption) | assumption)
              obtain ⟨ad308, e308, hx308_0⟩ := Kd.at_string (Kd.R_reads' HO_3.out).2.2 x4_1 p308 q308
              cases e308
              replace p308 := eq_true p308
              replace q308 := eq_true q308
              go_wp2_with (first | ((with_reducible refine gate_callee (f := 44) rfl ?_); refine goesL_ (some 20) rfl rfl Try.func44 (by kernel_rfl) rfl #[.string (rdOf ByteArray.empty t305 x4_1)] rfl (by (try simp only [List.map_toArray, List.map_cons, List.map_nil]); first | done | rfl | (simp only [List.length_drop, List.length_take]; rfl)) ?_; (with_reducible refine (brickyardref09_Segment.calls k1 (rdOf ByteArray.empty t305 x4_1) false _ A7.out).mono ?_); rintro e w' ⟨rfl, ⟨nd, rfl⟩⟩; refine ⟨_, rfl, ?_⟩))
              go_ret
              exact ⟨by first | rfl | (simp [errW_none, errW_some] <;> rfl) | (simp [*, errW_none, errW_some] <;> rfl), by repeat (first | (with_reducible first | exact HB.out | apply below_alloc | apply pw_below_drewN | apply below_drew1) | exact HB.out)⟩
          · rw [if_neg c6] at H
            exact absurd H (by simp)
        · rw [if_neg c5] at H
          have c5b0 : decide (x4_1 < (t305.length : Int)) = false := decide_eq_false c5
          clear c5
          obtain rfl := Option.some.inj H
          obtain ⟨Ao11, co11, eo11⟩ := Kd.R_slice HO_3.out
          subst eo11
          go_wp2
          go_ret
          exact ⟨by first | rfl | (simp [errW_none, errW_some] <;> rfl) | (simp [*, errW_none, errW_some] <;> rfl), by repeat (first | (with_reducible first | exact HB.out | apply below_alloc | apply pw_below_drewN | apply below_drew1) | exact HB.out)⟩

end Go.Proofs.Ytahdgaaedilcmaa.P
/- The functions that the laws of this seat come to, as plain Lean functions, each with the proof that the machine's call comes to it. -/
namespace Go.Proofs.Ytahdgaaedilcmaa.P
open Go.RowKit Go.Proofs.YtahdgaaedilcmaaW.PrintWords Go.Proofs.YtahdgaaedilcmaaW.PrintLast Go.Proofs.YtahdgaaedilcmaaW.PrintMore
attribute [local go_sem] max2_int min2_int max_two min_two max_three min_three max_four min_four   -- for this text's walks alone
set_option linter.unusedVariables false
set_option linter.unusedSimpArgs false

/-! ### brickyardref09_Norm: function 35 -/
mutual
def brickyardref09_Norm.l0 : Nat → List ByteArray → List ByteArray → Int → Option (ByteArray × Int)
  | 0, _, _, _ => none
  | k + 1, x4, x5, x6 => if x6 < (x4.length : Int) then (if 0 ≤ x6 then (if (rdOf ByteArray.empty x4 x6).toList = ([] : List UInt8) then (brickyardref09_Norm.j1 k x4 x5 x6 true) else (brickyardref09_Norm.j1 k x4 x5 x6 ((rdOf ByteArray.empty x4 x6).toList == ([46] : List UInt8)))) else (none)) else (if (x5.length : Int) = 0 then (some ((⟨#[]⟩ : ByteArray), 2)) else ((brickyardref09_Join.f k x5).bind fun t340 => (if (t340.size : Int) > 60 then (some ((⟨#[]⟩ : ByteArray), 3)) else (some (t340, 0)))))
def brickyardref09_Norm.j1 : Nat → List ByteArray → List ByteArray → Int → Bool → Option (ByteArray × Int)
  | 0, _, _, _, _ => none
  | k + 1, x4, x5, x6, x23 => if x23 = true then (brickyardref09_Norm.l0 k x4 x5 (wrap64 (x6 + 1))) else (if 0 ≤ x6 then (if x6 < (x4.length : Int) then (if (rdOf ByteArray.empty x4 x6).toList = ([46, 46] : List UInt8) then (if (x5.length : Int) = 0 then (some ((⟨#[]⟩ : ByteArray), 2)) else (if 0 ≤ (wrap64 ((x5.length : Int) - 1)) then (if (wrap64 ((x5.length : Int) - 1)) ≤ (x5.length : Int) then (brickyardref09_Norm.l0 k x4 (x5.take ((wrap64 ((x5.length : Int) - 1)) : Int).toNat) (wrap64 (x6 + 1))) else (none)) else (none))) else ((brickyardref09_Segment.f k (rdOf ByteArray.empty x4 x6)).bind fun t335 => (if t335 = true then (if x5.length < 8796093022208 then (brickyardref09_Norm.l0 k x4 (x5 ++ [rdOf ByteArray.empty x4 x6]) (wrap64 (x6 + 1))) else (none)) else (some ((⟨#[]⟩ : ByteArray), 2))))) else (none)) else (none))
end
def brickyardref09_Norm.f (k : Nat) (a0 : ByteArray) : Option (ByteArray × Int) := (brickyardref09_Cut.f k a0).bind fun t325 => (brickyardref09_Norm.l0 k t325 ([] : List ByteArray) 0)
theorem brickyardref09_Norm.mono_l : ∀ k, (∀ y0 y1 y2, LeO (brickyardref09_Norm.l0 k y0 y1 y2) (brickyardref09_Norm.l0 (k + 1) y0 y1 y2)) ∧ (∀ y0 y1 y2 y3, LeO (brickyardref09_Norm.j1 k y0 y1 y2 y3) (brickyardref09_Norm.j1 (k + 1) y0 y1 y2 y3))
  | 0 => ⟨fun _ _ _ r h => by simp [brickyardref09_Norm.l0] at h, fun _ _ _ _ r h => by simp [brickyardref09_Norm.j1] at h⟩
  | k + 1 => by
    obtain ⟨ih0, ih1⟩ := brickyardref09_Norm.mono_l k
    refine ⟨?_, ?_⟩
    · intro y0 y1 y2
      unfold brickyardref09_Norm.l0
      repeat' first
      | (with_reducible exact ih0 _ _ _)
      | (with_reducible exact ih1 _ _ _ _)
      | (with_reducible exact brickyardref09_Cut.mono _ _)
      | (with_reducible exact brickyardref09_Join.mono _ _)
      | (with_reducible exact brickyardref09_Segment.mono _ _)
      | (with_reducible exact LeO.refl _)
      | (with_reducible exact LeO.none _)
      | (with_reducible refine LeO.ite ?_ ?_)
      | (with_reducible refine LeO.bind ?_ (fun _ => ?_))
      | exact ih0 _ _ _
      | exact ih1 _ _ _ _
      | exact brickyardref09_Cut.mono _ _
      | exact brickyardref09_Join.mono _ _
      | exact brickyardref09_Segment.mono _ _
      | exact LeO.none _
      | refine LeO.ite ?_ ?_
      | refine LeO.bind ?_ (fun _ => ?_)
    · intro y0 y1 y2 y3
      unfold brickyardref09_Norm.j1
      repeat' first
      | (with_reducible exact ih0 _ _ _)
      | (with_reducible exact ih1 _ _ _ _)
      | (with_reducible exact brickyardref09_Cut.mono _ _)
      | (with_reducible exact brickyardref09_Join.mono _ _)
      | (with_reducible exact brickyardref09_Segment.mono _ _)
      | (with_reducible exact LeO.refl _)
      | (with_reducible exact LeO.none _)
      | (with_reducible refine LeO.ite ?_ ?_)
      | (with_reducible refine LeO.bind ?_ (fun _ => ?_))
      | exact ih0 _ _ _
      | exact ih1 _ _ _ _
      | exact brickyardref09_Cut.mono _ _
      | exact brickyardref09_Join.mono _ _
      | exact brickyardref09_Segment.mono _ _
      | exact LeO.none _
      | refine LeO.ite ?_ ?_
      | refine LeO.bind ?_ (fun _ => ?_)
theorem brickyardref09_Norm.mono : ∀ a0 k, LeO (brickyardref09_Norm.f k a0) (brickyardref09_Norm.f (k + 1) a0) := by
  intro a0 k
  obtain ⟨ih0, ih1⟩ := brickyardref09_Norm.mono_l k
  unfold brickyardref09_Norm.f
  repeat' first
      | (with_reducible exact ih0 _ _ _)
      | (with_reducible exact ih1 _ _ _ _)
      | (with_reducible exact brickyardref09_Cut.mono _ _)
      | (with_reducible exact brickyardref09_Join.mono _ _)
      | (with_reducible exact brickyardref09_Segment.mono _ _)
      | (with_reducible exact LeO.refl _)
      | (with_reducible exact LeO.none _)
      | (with_reducible refine LeO.ite ?_ ?_)
      | (with_reducible refine LeO.bind ?_ (fun _ => ?_))
      | exact ih0 _ _ _
      | exact ih1 _ _ _ _
      | exact brickyardref09_Cut.mono _ _
      | exact brickyardref09_Join.mono _ _
      | exact brickyardref09_Segment.mono _ _
      | exact LeO.none _
      | refine LeO.ite ?_ ?_
      | refine LeO.bind ?_ (fun _ => ?_)
set_option maxHeartbeats 8000000 in
set_option maxRecDepth 100000 in
theorem brickyardref09_Norm.calls (k : Nat) (a0 : ByteArray) (r1 : ByteArray) (r2 : Int) (w : World) (h : brickyardref09_Norm.f k a0 = some (r1, r2)) :
    Calls Try.prog 35 #[.string a0] w fun e w' => e = .returned (.tuple #[.string r1, .int .i64 r2]) ∧ Below w.heap.size w w' := by
  have HB := Aside0.mk (Below.refl w.heap.size w)
  have H : ((brickyardref09_Cut.f k a0).bind fun t325 => (brickyardref09_Norm.l0 k t325 ([] : List ByteArray) 0)) = some (r1, r2) := h
  clear h
  replace H := Option.bind_eq_some_iff.mp H
  obtain ⟨t325, A20, H⟩ := H
  replace H : (brickyardref09_Norm.l0 k t325 ([] : List ByteArray) 0) = some (r1, r2) := H
  have A2 := Aside0.mk A20
  clear A20
  have H' := Aside0.mk H
  clear H
  go_enter Try.func35, Try.ntmps35
  go_wp2_with (first | ((with_reducible refine gate_callee (f := 43) rfl ?_); refine goesL_ (some 9) rfl rfl Try.func43 (by kernel_rfl) rfl #[.string a0] rfl (by (try simp only [List.map_toArray, List.map_cons, List.map_nil]); first | done | rfl | (simp only [List.length_drop, List.length_take]; rfl)) ?_; (with_reducible refine (brickyardref09_Cut.calls k a0 t325 _ A2.out).mono ?_); rintro e w3 ⟨v326, rfl, ho0, hb⟩; refine ⟨_, rfl, ?_⟩; have n0_ := Aside0.mk (Kd.R_lower ho0 (below_size (by repeat (first | (with_reducible first | exact HB.out | apply below_alloc | apply pw_below_drewN | apply below_drew1) | exact HB.out)))); have n1_ := Aside0.mk (below_step (by repeat (first | (with_reducible first | exact HB.out | apply below_alloc | apply pw_below_drewN | apply below_drew1) | exact HB.out)) hb); clear HB; have HO327 := n0_; have HB := n1_; clear n0_ n1_; (try clear hb); (try clear hb2); (try clear hk); (try clear hi); (try clear ho0)))
  go_loopg [5, 6] k (fun kq v5 v6 w' => ∃ (x5_1 : List ByteArray) (x6_1 : Int), v6 = .int .i64 x6_1 ∧ Aside0 (brickyardref09_Norm.l0 kq t325 x5_1 x6_1 = some (r1, r2)) ∧ Aside0 (kq ≤ k) ∧ Aside0 (Kd.R Kd.string 9 w' w.heap.size (fun k_ => some k_ ≠ (v5 : Value).ownBlock) v326 t325) ∧ Aside0 (Kd.R Kd.string 9 w' w.heap.size (fun k_ => some k_ ≠ (v326 : Value).ownBlock) v5 x5_1) ∧ Aside0 (Below w.heap.size w w'))
  case atStart => exact ⟨(([] : List ByteArray)), (0), (by first | rfl | (simp; done) | (simp [*]; done)), H', ⟨Nat.le_refl _⟩, ⟨by (with_reducible repeat (first | apply Kd.R_alloc | apply Kd.R_drewN | apply Kd.R_drew)); exact Kd.R_mono HO327.out (fun _ hk => (by simp [Value.ownBlock]))⟩, ⟨by first | exact Kd.R_nil _ _ _ _ _ | exact Kd.N_nil _ _ _ _ _ | exact Kd.V_nil _ _ _ _ _ | exact Kd.Q_nil _ _ _ _ _ | exact Kd.S_nil _ _ _ _ _⟩, ⟨by repeat (first | (with_reducible first | exact HB.out | apply below_alloc | apply pw_below_drewN | apply below_drew1) | exact HB.out)⟩⟩
  case round =>
    clear H'
    try clear p2
    try clear c3
    obtain ⟨x5_1, x6_1, rfl, HA, HK1, HO_4, HO_5, HB⟩ := hrel
    cases gk with
    | zero => exact absurd HA.out (by simp [brickyardref09_Norm.l0])
    | succ k1 =>
      have H := HA.out
      clear HA
      simp only [brickyardref09_Norm.l0] at H
      by_cases c4 : x6_1 < (t325.length : Int)
      · rw [if_pos c4] at H
        have c4b0 : decide (x6_1 < (t325.length : Int)) = true := decide_eq_true c4
        clear c4
        have HC5 := Aside0.mk H
        clear H
        obtain ⟨Ao6, co6, eo6⟩ := Kd.R_slice HO_4.out
        subst eo6
        go_upto_region 7 with (fail)
        go_cut [23] (fun v23 wc => ∃ (kq : Nat) (x23_4 : Bool), v23 = .bool x23_4 ∧ Aside0 (brickyardref09_Norm.j1 kq t325 x5_1 x6_1 x23_4 = some (r1, r2)) ∧ Aside0 (kq ≤ k1) ∧ Aside0 (Kd.R Kd.string 9 wc w.heap.size (fun k_ => some k_ ≠ (u5 : Value).ownBlock) (.slice Ao6 t325.length co6) t325) ∧ Aside0 (Kd.R Kd.string 9 wc w.heap.size (fun k_ => some k_ ≠ ((.slice Ao6 t325.length co6) : Value).ownBlock) u5 x5_1) ∧ Aside0 (Below w.heap.size w wc))
        case first =>
          have H := HC5.out
          clear HC5
          by_cases c7 : 0 ≤ x6_1
          · rw [if_pos c7] at H
            have c7b0 : decide (0 ≤ x6_1) = true := decide_eq_true c7
            clear c7
            (first | rw [c7b0] | (simp only [i64_w, i32_w]; rw [c7b0]) | skip)
            by_cases c8 : (rdOf ByteArray.empty t325 x6_1).toList = ([] : List UInt8)
            · rw [if_pos c8] at H
              have c8b0 : ((rdOf ByteArray.empty t325 x6_1).toList).isEmpty = true := by simpa using c8
              have c8b1 : ((rdOf ByteArray.empty t325 x6_1).toList == ([] : List UInt8)) = true := beq_iff_eq.mpr c8
              have c8b2 : ((rdOf ByteArray.empty t325 x6_1).toList != ([] : List UInt8)) = false := bne_eq_false_iff_eq.mpr c8
              clear c8
              have H' := Aside0.mk H
              clear H
              have p328 : 0 ≤ (x6_1 : Int) := of_decide_eq_true (by first | (with_reducible assumption) | assumption)
              have q328 : x6_1 < (t325.length : Int) := of_decide_eq_true (by first | (with_reducible assumption) | assumption)
              obtain ⟨ad328, e328, hx328_0⟩ := Kd.at_string (Kd.R_reads' HO_4.out).2.2 x6_1 p328 q328
              cases e328
              replace p328 := eq_true p328
              replace q328 := eq_true q328
              go_wp2
              go_meet
              case rel => exact ⟨_, (true), (by first | rfl | (simp; done) | (simp [*]; done)), H', ⟨by have := HK1.out; first | omega | exact Nat.le_refl _⟩, ⟨by (with_reducible repeat (first | apply Kd.R_alloc | apply Kd.R_drewN | apply Kd.R_drew)); first | exact HO_4.out | exact Kd.R_mono HO_4.out (fun _ h_ => by simpa only [ob_len] using h_)⟩, ⟨by (with_reducible repeat (first | apply Kd.R_alloc | apply Kd.R_drewN | apply Kd.R_drew)); first | exact HO_5.out | exact Kd.R_mono HO_5.out (fun _ h_ => by simpa only [ob_len] using h_)⟩, ⟨by repeat (first | (with_reducible first | exact HB.out | apply below_alloc | apply pw_below_drewN | apply below_drew1) | exact HB.out)⟩⟩
            · rw [if_neg c8] at H
              have c8b0 : ((rdOf ByteArray.empty t325 x6_1).toList).isEmpty = false := by simpa using c8
              have c8b1 : ((rdOf ByteArray.empty t325 x6_1).toList == ([] : List UInt8)) = false := beq_eq_false_iff_ne.mpr c8
              have c8b2 : ((rdOf ByteArray.empty t325 x6_1).toList != ([] : List UInt8)) = true := bne_iff_ne.mpr c8
              have H' := Aside0.mk H
              clear H
              have p328 : 0 ≤ (x6_1 : Int) := of_decide_eq_true (by first | (with_reducible assumption) | assumption)
              have q328 : x6_1 < (t325.length : Int) := of_decide_eq_true (by first | (with_reducible assumption) | assumption)
              obtain ⟨ad328, e328, hx328_0⟩ := Kd.at_string (Kd.R_reads' HO_4.out).2.2 x6_1 p328 q328
              cases e328
              replace p328 := eq_true p328
              replace q328 := eq_true q328
              have p329 : 0 ≤ (x6_1 : Int) := of_decide_eq_true (by first | (with_reducible assumption) | assumption)
              have q329 : x6_1 < (t325.length : Int) := of_decide_eq_true (by first | (with_reducible assumption) | assumption)
              obtain ⟨ad329, e329, hx329_0⟩ := Kd.at_string (Kd.R_reads' HO_4.out).2.2 x6_1 p329 q329
              obtain rfl : ad328 = ad329 := (by injection e329)
              replace p329 := eq_true p329
              replace q329 := eq_true q329
              go_wp2
              go_meet
              case rel => exact ⟨_, (((rdOf ByteArray.empty t325 x6_1).toList == ([46] : List UInt8))), (by first | rfl | (simp; done) | (simp [*]; done)), H', ⟨by have := HK1.out; first | omega | exact Nat.le_refl _⟩, ⟨by (with_reducible repeat (first | apply Kd.R_alloc | apply Kd.R_drewN | apply Kd.R_drew)); first | exact HO_4.out | exact Kd.R_mono HO_4.out (fun _ h_ => by simpa only [ob_len] using h_)⟩, ⟨by (with_reducible repeat (first | apply Kd.R_alloc | apply Kd.R_drewN | apply Kd.R_drew)); first | exact HO_5.out | exact Kd.R_mono HO_5.out (fun _ h_ => by simpa only [ob_len] using h_)⟩, ⟨by repeat (first | (with_reducible first | exact HB.out | apply below_alloc | apply pw_below_drewN | apply below_drew1) | exact HB.out)⟩⟩
          · rw [if_neg c7] at H
            exact absurd H (by simp)
        case rest =>
          clear HC5
          try clear p2
          try clear c3
          try clear p3
          try clear q3
          try clear hx3
          try clear c4
          try clear c4b0
          try clear c7
          try clear c7b0
          try clear c8
          try clear c8b0
          try clear c8b1
          try clear c8b2
          try clear hx328_0
          try clear hx329_0
          try clear p2
          try clear p328
          try clear p329
          try clear q328
          try clear q329
          obtain ⟨kq, x23_4, rfl, HA, HJ4, HO_4, HO_5, HB⟩ := hcut
          cases kq with
          | zero => exact absurd HA.out (by simp [brickyardref09_Norm.j1])
          | succ kj4 =>
            have H := HA.out
            clear HA
            simp only [brickyardref09_Norm.j1] at H
            by_cases c9 : x23_4 = true
            · subst c9
              have H1 : (brickyardref09_Norm.l0 kj4 t325 x5_1 (wrap64 (x6_1 + 1))) = some (r1, r2) := by rw [if_pos rfl] at H; exact H
              clear H
              have H := H1
              clear H1
              have H' := Aside0.mk H
              clear H
              go_wp2
              go_roundg kj4
              case measure => have := HK1.out; have := HJ4.out; omega
              case rel => exact ⟨(x5_1), (wrap64 (x6_1 + 1)), (by first | rfl | (simp; done) | (simp [*]; done)), H', ⟨by have := HK1.out; have := HJ4.out; omega⟩, ⟨by (with_reducible repeat (first | apply Kd.R_alloc | apply Kd.R_drewN | apply Kd.R_drew)); first | exact HO_4.out | exact Kd.R_mono HO_4.out (fun _ h_ => by simpa only [ob_len] using h_)⟩, ⟨by (with_reducible repeat (first | apply Kd.R_alloc | apply Kd.R_drewN | apply Kd.R_drew)); first | exact HO_5.out | exact Kd.R_mono HO_5.out (fun _ h_ => by simpa only [ob_len] using h_)⟩, ⟨by repeat (first | (with_reducible first | exact HB.out | apply below_alloc | apply pw_below_drewN | apply below_drew1) | exact HB.out)⟩⟩
            · replace c9 := Bool.eq_false_iff.mpr c9
              subst c9
              have H1 : (if 0 ≤ x6_1 then (if x6_1 < (t325.length : Int) then (if (rdOf ByteArray.empty t325 x6_1).toList = ([46, 46] : List UInt8) then (if (x5_1.length : Int) = 0 then (some ((⟨#[]⟩ : ByteArray), 2)) else (if 0 ≤ (wrap64 ((x5_1.length : Int) - 1)) then (if (wrap64 ((x5_1.length : Int) - 1)) ≤ (x5_1.length : Int) then (brickyardref09_Norm.l0 kj4 t325 (x5_1.take ((wrap64 ((x5_1.length : Int) - 1)) : Int).toNat) (wrap64 (x6_1 + 1))) else (none)) else (none))) else ((brickyardref09_Segment.f kj4 (rdOf ByteArray.empty t325 x6_1)).bind fun t335 => (if t335 = true then (if x5_1.length < 8796093022208 then (brickyardref09_Norm.l0 kj4 t325 (x5_1 ++ [rdOf ByteArray.empty t325 x6_1]) (wrap64 (x6_1 + 1))) else (none)) else (some ((⟨#[]⟩ : ByteArray), 2))))) else (none)) else (none)) = some (r1, r2) := by rw [if_neg (show ¬ (false = true) by decide)] at H; exact H
              clear H
              have H := H1
              clear H1
              by_cases c10 : 0 ≤ x6_1
              · rw [if_pos c10] at H
                have c10b0 : decide (0 ≤ x6_1) = true := decide_eq_true c10
                clear c10
                by_cases c11 : x6_1 < (t325.length : Int)
                · rw [if_pos c11] at H
                  have c11b0 : decide (x6_1 < (t325.length : Int)) = true := decide_eq_true c11
                  clear c11
                  by_cases c12 : (rdOf ByteArray.empty t325 x6_1).toList = ([46, 46] : List UInt8)
                  · rw [if_pos c12] at H
                    have c12b0 : ((rdOf ByteArray.empty t325 x6_1).toList == ([46, 46] : List UInt8)) = true := beq_iff_eq.mpr c12
                    have c12b1 : ((rdOf ByteArray.empty t325 x6_1).toList != ([46, 46] : List UInt8)) = false := bne_eq_false_iff_eq.mpr c12
                    clear c12
                    by_cases c13 : (x5_1.length : Int) = 0
                    · rw [if_pos c13] at H
                      have c13b0 : ((x5_1.length : Int) == 0) = true := beq_iff_eq.mpr c13
                      have c13b1 : ((x5_1.length : Int) != 0) = false := bne_eq_false_iff_eq.mpr c13
                      clear c13
                      simp only [Option.some.injEq, Prod.mk.injEq] at H
                      obtain ⟨rfl, rfl⟩ := H
                      have p330 : 0 ≤ (x6_1 : Int) := of_decide_eq_true (by first | (with_reducible assumption) | assumption)
                      have q330 : x6_1 < (t325.length : Int) := of_decide_eq_true (by first | (with_reducible assumption) | assumption)
                      obtain ⟨ad330, e330, hx330_0⟩ := Kd.at_string (Kd.R_reads' HO_4.out).2.2 x6_1 p330 q330
                      cases e330
                      replace p330 := eq_true p330
                      replace q330 := eq_true q330
                      obtain ⟨Ao14, co14, eo14⟩ := Kd.R_slice HO_5.out
                      subst eo14
                      go_wp2
                      go_ret2
                      exact ⟨by first | rfl | (simp [errW_none, errW_some] <;> rfl) | (simp [*, errW_none, errW_some] <;> rfl), by repeat (first | (with_reducible first | exact HB.out | apply below_alloc | apply pw_below_drewN | apply below_drew1) | exact HB.out)⟩
                    · rw [if_neg c13] at H
                      have c13b0 : ((x5_1.length : Int) == 0) = false := beq_eq_false_iff_ne.mpr c13
                      have c13b1 : ((x5_1.length : Int) != 0) = true := bne_iff_ne.mpr c13
                      have c13b2 : ¬ (x5_1 = []) := fun h_ => c13 (by rw [h_]; rfl)
                      obtain ⟨ji15, hji15⟩ : ∃ j_ : Int, (wrap64 ((x5_1.length : Int) - 1)) = j_ := ⟨_, rfl⟩
                      replace H : (if 0 ≤ (ji15) then (if (ji15) ≤ (x5_1.length : Int) then (brickyardref09_Norm.l0 kj4 t325 (x5_1.take ((ji15) : Int).toNat) (wrap64 (x6_1 + 1))) else (none)) else (none)) = some (r1, r2) := by first | (rw [hji15] at H; exact H) | (simp only [hji15] at H ⊢; exact H)
                      have hji15w : (IntKind.i64.wrap ((x5_1.length : Int) - 1)) = ji15 := (i64_w _).trans hji15
                      by_cases c16 : 0 ≤ (ji15)
                      · rw [if_pos c16] at H
                        have c16b0 := eq_true c16
                        have c16b1 : decide (0 ≤ (ji15)) = true := decide_eq_true c16
                        clear c16
                        by_cases c17 : (ji15) ≤ (x5_1.length : Int)
                        · rw [if_pos c17] at H
                          have c17b0 := eq_true c17
                          have c17b1 : decide ((ji15) ≤ (x5_1.length : Int)) = true := decide_eq_true c17
                          clear c17
                          obtain ⟨y331, hy331⟩ : ∃ y_ : List ByteArray, y_ = (x5_1.take ((ji15) : Int).toNat) := ⟨_, rfl⟩
                          replace H : (brickyardref09_Norm.l0 kj4 t325 y331 (wrap64 (x6_1 + 1))) = some (r1, r2) := by first | (rw [hy331]; with_reducible exact H) | (have H2_ := (Option.bind_some _ _).symm.trans H; rw [hy331]; with_reducible exact H2_) | (have H2_ := (Option.bind_some _ _).symm.trans H; with_reducible exact H2_) | with_reducible exact H | (rw [hy331]; exact H) | exact H
                          have Ny331 := Aside0.mk hy331
                          clear hy331
                          have H' := Aside0.mk H
                          clear H
                          have p330 : 0 ≤ (x6_1 : Int) := of_decide_eq_true (by first | (with_reducible assumption) | assumption)
                          have q330 : x6_1 < (t325.length : Int) := of_decide_eq_true (by first | (with_reducible assumption) | assumption)
                          obtain ⟨ad330, e330, hx330_0⟩ := Kd.at_string (Kd.R_reads' HO_4.out).2.2 x6_1 p330 q330
                          cases e330
                          replace p330 := eq_true p330
                          replace q330 := eq_true q330
                          obtain ⟨Ao18, co18, eo18⟩ := Kd.R_slice HO_5.out
                          subst eo18
                          have q19 : ((ji15) : Int) ≤ ((x5_1.length : Int) : Int) := of_decide_eq_true (by first | (with_reducible assumption) | assumption)
                          obtain ⟨i019, hi019, _, hsz19, _⟩ := info_parts info9
                          have hcut19 := cut_to (P := Try.prog) 30 9 .i64 Try.underlying30 hi019 Ao18 x5_1.length co18 (ji15) (of_decide_eq_true (by first | (with_reducible assumption) | assumption)) q19 (Kd.R_reads' HO_5.out).2.1
                          have hr19 := Kd.R_take (m := ((ji15) : Int).toNat) HO_5.out (by omega)
                          have hy19 : y331.length = ((ji15) : Int).toNat := (by rw [Ny331.out, List.length_take]; omega)
                          rw [← Ny331.out] at hr19
                          rw [← hy19] at hr19 hcut19
                          clear hy19 hi019 hsz19 HO_5
                          have HO333 := Aside0.mk hr19
                          clear hr19
                          replace q19 := eq_true q19
                          go_wp2
                          go_roundg kj4
                          case measure => have := HK1.out; have := HJ4.out; omega
                          case rel => exact ⟨(y331), (wrap64 (x6_1 + 1)), (by first | rfl | (simp; done) | (simp [*]; done)), H', ⟨by have := HK1.out; have := HJ4.out; omega⟩, ⟨by (with_reducible repeat (first | apply Kd.R_alloc | apply Kd.R_drewN | apply Kd.R_drew)); first | exact HO_4.out | exact Kd.R_mono HO_4.out (fun _ h_ => by simpa only [ob_len] using h_)⟩, ⟨by (with_reducible repeat (first | apply Kd.R_alloc | apply Kd.R_drewN | apply Kd.R_drew)); first | exact HO333.out | exact Kd.R_mono HO333.out (fun _ h_ => by simpa only [ob_len] using h_)⟩, ⟨by repeat (first | (with_reducible first | exact HB.out | apply below_alloc | apply pw_below_drewN | apply below_drew1) | exact HB.out)⟩⟩
                        · rw [if_neg c17] at H
                          exact absurd H (by simp)
                      · rw [if_neg c16] at H
                        exact absurd H (by simp)
                  · rw [if_neg c12] at H
                    have c12b0 : ((rdOf ByteArray.empty t325 x6_1).toList == ([46, 46] : List UInt8)) = false := beq_eq_false_iff_ne.mpr c12
                    have c12b1 : ((rdOf ByteArray.empty t325 x6_1).toList != ([46, 46] : List UInt8)) = true := bne_iff_ne.mpr c12
                    replace H := Option.bind_eq_some_iff.mp H
                    obtain ⟨t335, A200, H⟩ := H
                    replace H : (if t335 = true then (if x5_1.length < 8796093022208 then (brickyardref09_Norm.l0 kj4 t325 (x5_1 ++ [rdOf ByteArray.empty t325 x6_1]) (wrap64 (x6_1 + 1))) else (none)) else (some ((⟨#[]⟩ : ByteArray), 2))) = some (r1, r2) := H
                    have A20 := Aside0.mk A200
                    clear A200
                    by_cases c21 : t335 = true
                    · subst c21
                      have H1 : (if x5_1.length < 8796093022208 then (brickyardref09_Norm.l0 kj4 t325 (x5_1 ++ [rdOf ByteArray.empty t325 x6_1]) (wrap64 (x6_1 + 1))) else (none)) = some (r1, r2) := by rw [if_pos rfl] at H; exact H
                      clear H
                      have H := H1
                      clear H1
                      by_cases c22 : x5_1.length < 8796093022208
                      · rw [if_pos c22] at H
                        have LMc22 := Aside0.mk c22
                        clear c22
                        obtain ⟨y337, hy337⟩ : ∃ y_ : List ByteArray, y_ = (x5_1 ++ [rdOf ByteArray.empty t325 x6_1]) := ⟨_, rfl⟩
                        replace H : (brickyardref09_Norm.l0 kj4 t325 y337 (wrap64 (x6_1 + 1))) = some (r1, r2) := by first | (rw [hy337]; with_reducible exact H) | (have H2_ := (Option.bind_some _ _).symm.trans H; rw [hy337]; with_reducible exact H2_) | (have H2_ := (Option.bind_some _ _).symm.trans H; with_reducible exact H2_) | with_reducible exact H | (rw [hy337]; exact H) | exact H
                        have Ny337 := Aside0.mk hy337
                        clear hy337
                        have H' := Aside0.mk H
                        clear H
                        have p330 : 0 ≤ (x6_1 : Int) := of_decide_eq_true (by first | (with_reducible assumption) | assumption)
                        have q330 : x6_1 < (t325.length : Int) := of_decide_eq_true (by first | (with_reducible assumption) | assumption)
                        obtain ⟨ad330, e330, hx330_0⟩ := Kd.at_string (Kd.R_reads' HO_4.out).2.2 x6_1 p330 q330
                        cases e330
                        replace p330 := eq_true p330
                        replace q330 := eq_true q330
                        have p334 : 0 ≤ (x6_1 : Int) := of_decide_eq_true (by first | (with_reducible assumption) | assumption)
                        have q334 : x6_1 < (t325.length : Int) := of_decide_eq_true (by first | (with_reducible assumption) | assumption)
                        obtain ⟨ad334, e334, hx334_0⟩ := Kd.at_string (Kd.R_reads' HO_4.out).2.2 x6_1 p334 q334
                        obtain rfl : ad330 = ad334 := (by injection e334)
                        replace p334 := eq_true p334
                        replace q334 := eq_true q334
                        go_wp2_with (first | ((with_reducible refine gate_callee (f := 44) rfl ?_); refine goesL_ (some 55) rfl rfl Try.func44 (by kernel_rfl) rfl #[.string (rdOf ByteArray.empty t325 x6_1)] rfl (by (try simp only [List.map_toArray, List.map_cons, List.map_nil]); first | done | rfl | (simp only [List.length_drop, List.length_take]; rfl)) ?_; (with_reducible refine (brickyardref09_Segment.calls kj4 (rdOf ByteArray.empty t325 x6_1) true _ A20.out).mono ?_); rintro e w' ⟨rfl, ⟨nd, rfl⟩⟩; refine ⟨_, rfl, ?_⟩; have p336 : 0 ≤ (x6_1 : Int) := of_decide_eq_true (by first | (with_reducible assumption) | assumption); have q336 : x6_1 < (t325.length : Int) := of_decide_eq_true (by first | (with_reducible assumption) | assumption); obtain ⟨ad336, e336, hx336_0⟩ := Kd.at_string (Kd.R_reads' HO_4.out).2.2 x6_1 p336 q336; obtain rfl : ad330 = ad336 := (by injection e336); replace p336 := eq_true p336; replace q336 := eq_true q336) | ((with_reducible refine gate_builtin (b := .append) (xs := #[.tmp 16, .tmp 21]) rfl ?_); at_builtin; refine Kd.R_append Kd.string (w0 := w) w.heap.size rfl (.tmp 16) (.tmp 21) 30 9 (.string ⟨#[]⟩) 16 rfl Try.underlying30 info9 rfl (by decide) (by omega) u5 x5_1 (rdOf ByteArray.empty t325 x6_1) [.string (rdOf ByteArray.empty t325 x6_1)] (fun k_ => some k_ ≠ (.slice (some ad330) t325.length co6 : Value).ownBlock) (fun _ => False) rfl rfl ?aP (fun _ hk => hk.elim) ?aF ?aO ?aB ?aS ?aL ?_; (case aP => exact rfl); (case aB => exact (by repeat (first | (with_reducible first | exact HB.out | apply below_alloc | apply pw_below_drewN | apply below_drew1) | exact HB.out))); (case aF => exact (fun k_ hk => Kd.fresh' (Kd.R_lt (by (with_reducible repeat (first | apply Kd.R_alloc | apply Kd.R_drewN | apply Kd.R_drew)); exact HO_4.out)) k_ hk)); (case aO => exact (by (with_reducible repeat (first | apply Kd.R_alloc | apply Kd.R_drewN | apply Kd.R_drew)); exact HO_5.out)); (case aS => exact (below_size (by repeat (first | (with_reducible first | exact HB.out | apply below_alloc | apply pw_below_drewN | apply below_drew1) | exact HB.out)))); (case aL => have := LMc22.out; omega); intro v338 w23 ho hb hg hat; rw [← Ny337.out] at ho; have n0_ := Aside0.mk (Kd.R_after (ok := (fun _ => True)) (by (with_reducible repeat (first | apply Kd.R_alloc | apply Kd.R_drewN | apply Kd.R_drew)); exact Kd.R_mono HO_4.out (fun _ hk => ⟨trivial, hk⟩)) hg hat); have n1_ := Aside0.mk (hb); have n2_ := Aside0.mk (ho); clear HO_4; clear HB; clear HO_5; have HO_4 := n0_; have HB := n1_; have HO339 := n2_; clear n0_ n1_ n2_; clear ho hb hg hat))
                        go_roundg kj4
                        case measure => have := HK1.out; have := HJ4.out; omega
                        case rel => exact ⟨(y337), (wrap64 (x6_1 + 1)), (by first | rfl | (simp; done) | (simp [*]; done)), H', ⟨by have := HK1.out; have := HJ4.out; omega⟩, ⟨by (with_reducible repeat (first | apply Kd.R_alloc | apply Kd.R_drewN | apply Kd.R_drew)); exact Kd.R_mono HO_4.out (fun _ hk => hk.2)⟩, ⟨by (with_reducible repeat (first | apply Kd.R_alloc | apply Kd.R_drewN | apply Kd.R_drew)); first | exact HO339.out | exact Kd.R_mono HO339.out (fun _ h_ => by simpa only [ob_len] using h_)⟩, ⟨by repeat (first | (with_reducible first | exact HB.out | apply below_alloc | apply pw_below_drewN | apply below_drew1) | exact HB.out)⟩⟩
                      · rw [if_neg c22] at H
                        exact absurd H (by simp)
                    · replace c21 := Bool.eq_false_iff.mpr c21
                      subst c21
                      have H1 : (some ((⟨#[]⟩ : ByteArray), 2)) = some (r1, r2) := by rw [if_neg (show ¬ (false = true) by decide)] at H; exact H
                      clear H
                      have H := H1
                      clear H1
                      simp only [Option.some.injEq, Prod.mk.injEq] at H
                      obtain ⟨rfl, rfl⟩ := H
                      have p330 : 0 ≤ (x6_1 : Int) := of_decide_eq_true (by first | (with_reducible assumption) | assumption)
                      have q330 : x6_1 < (t325.length : Int) := of_decide_eq_true (by first | (with_reducible assumption) | assumption)
                      obtain ⟨ad330, e330, hx330_0⟩ := Kd.at_string (Kd.R_reads' HO_4.out).2.2 x6_1 p330 q330
                      cases e330
                      replace p330 := eq_true p330
                      replace q330 := eq_true q330
                      have p334 : 0 ≤ (x6_1 : Int) := of_decide_eq_true (by first | (with_reducible assumption) | assumption)
                      have q334 : x6_1 < (t325.length : Int) := of_decide_eq_true (by first | (with_reducible assumption) | assumption)
                      obtain ⟨ad334, e334, hx334_0⟩ := Kd.at_string (Kd.R_reads' HO_4.out).2.2 x6_1 p334 q334
                      obtain rfl : ad330 = ad334 := (by injection e334)
                      replace p334 := eq_true p334
                      replace q334 := eq_true q334
                      go_wp2_with (first | ((with_reducible refine gate_callee (f := 44) rfl ?_); refine goesL_ (some 55) rfl rfl Try.func44 (by kernel_rfl) rfl #[.string (rdOf ByteArray.empty t325 x6_1)] rfl (by (try simp only [List.map_toArray, List.map_cons, List.map_nil]); first | done | rfl | (simp only [List.length_drop, List.length_take]; rfl)) ?_; (with_reducible refine (brickyardref09_Segment.calls kj4 (rdOf ByteArray.empty t325 x6_1) false _ A20.out).mono ?_); rintro e w' ⟨rfl, ⟨nd, rfl⟩⟩; refine ⟨_, rfl, ?_⟩))
                      go_ret2
                      exact ⟨by first | rfl | (simp [errW_none, errW_some] <;> rfl) | (simp [*, errW_none, errW_some] <;> rfl), by repeat (first | (with_reducible first | exact HB.out | apply below_alloc | apply pw_below_drewN | apply below_drew1) | exact HB.out)⟩
                · rw [if_neg c11] at H
                  exact absurd H (by simp)
              · rw [if_neg c10] at H
                exact absurd H (by simp)
      · rw [if_neg c4] at H
        have c4b0 : decide (x6_1 < (t325.length : Int)) = false := decide_eq_false c4
        clear c4
        by_cases c24 : (x5_1.length : Int) = 0
        · rw [if_pos c24] at H
          have c24b0 : ((x5_1.length : Int) == 0) = true := beq_iff_eq.mpr c24
          have c24b1 : ((x5_1.length : Int) != 0) = false := bne_eq_false_iff_eq.mpr c24
          clear c24
          simp only [Option.some.injEq, Prod.mk.injEq] at H
          obtain ⟨rfl, rfl⟩ := H
          obtain ⟨Ao25, co25, eo25⟩ := Kd.R_slice HO_4.out
          subst eo25
          obtain ⟨Ao26, co26, eo26⟩ := Kd.R_slice HO_5.out
          subst eo26
          go_wp2
          go_ret2
          exact ⟨by first | rfl | (simp [errW_none, errW_some] <;> rfl) | (simp [*, errW_none, errW_some] <;> rfl), by repeat (first | (with_reducible first | exact HB.out | apply below_alloc | apply pw_below_drewN | apply below_drew1) | exact HB.out)⟩
        · rw [if_neg c24] at H
          have c24b0 : ((x5_1.length : Int) == 0) = false := beq_eq_false_iff_ne.mpr c24
          have c24b1 : ((x5_1.length : Int) != 0) = true := bne_iff_ne.mpr c24
          have c24b2 : ¬ (x5_1 = []) := fun h_ => c24 (by rw [h_]; rfl)
          replace H := Option.bind_eq_some_iff.mp H
          obtain ⟨t340, A270, H⟩ := H
          replace H : (if (t340.size : Int) > 60 then (some ((⟨#[]⟩ : ByteArray), 3)) else (some (t340, 0))) = some (r1, r2) := H
          have A27 := Aside0.mk A270
          clear A270
          by_cases c28 : (t340.size : Int) > 60
          · rw [if_pos c28] at H
            have c28b0 : decide (60 < (t340.size : Int)) = true := decide_eq_true c28
            have c28b1 : decide (60 < t340.size) = true := decide_eq_true (by omega)
            clear c28
            simp only [Option.some.injEq, Prod.mk.injEq] at H
            obtain ⟨rfl, rfl⟩ := H
            obtain ⟨Ao29, co29, eo29⟩ := Kd.R_slice HO_4.out
            subst eo29
            obtain ⟨Ao30, co30, eo30⟩ := Kd.R_slice HO_5.out
            subst eo30
            go_wp2_with (first | ((with_reducible refine gate_callee (f := 45) rfl ?_); refine goesL_ (some 61) rfl rfl Try.func45 (by kernel_rfl) rfl #[.slice Ao30 x5_1.length co30] rfl (by (try simp only [List.map_toArray, List.map_cons, List.map_nil]); first | done | rfl | (simp only [List.length_drop, List.length_take]; rfl)) ?_; (with_reducible refine (brickyardref09_Join.calls k1 _ _ x5_1 t340 _ ?side1 ?side2 A27.out).mono ?_); (case side1 => repeat (first | exact (Kd.R_reads' HO_5.out).2.2 | (with_reducible refine Kd.C_alloc ?_ _) | (with_reducible refine Kd.C_drewN ?_ _) | (with_reducible refine Kd.C_drew ?_))); (case side2 => exact (Kd.R_reads' HO_5.out).2.1); rintro e w31 ⟨rfl, hb⟩; refine ⟨_, rfl, ?_⟩; have n0_ := Aside0.mk (Kd.R_below (by (with_reducible repeat (first | apply Kd.R_alloc | apply Kd.R_drewN | apply Kd.R_drew)); exact HO_4.out) hb); have n1_ := Aside0.mk (Kd.R_below (by (with_reducible repeat (first | apply Kd.R_alloc | apply Kd.R_drewN | apply Kd.R_drew)); exact HO_5.out) hb); have n2_ := Aside0.mk (below_step (by repeat (first | (with_reducible first | exact HB.out | apply below_alloc | apply pw_below_drewN | apply below_drew1) | exact HB.out)) hb); clear HO_4; clear HO_5; clear HB; have HO_4 := n0_; have HO_5 := n1_; have HB := n2_; clear n0_ n1_ n2_; (try clear hb); (try clear hb2); (try clear hk); (try clear hi)))
            go_ret2
            exact ⟨by first | rfl | (simp [errW_none, errW_some] <;> rfl) | (simp [*, errW_none, errW_some] <;> rfl), by repeat (first | (with_reducible first | exact HB.out | apply below_alloc | apply pw_below_drewN | apply below_drew1) | exact HB.out)⟩
          · rw [if_neg c28] at H
            have c28b0 : decide (60 < (t340.size : Int)) = false := decide_eq_false c28
            have c28b1 : decide (60 < t340.size) = false := decide_eq_false (by omega)
            clear c28
            simp only [Option.some.injEq, Prod.mk.injEq] at H
            obtain ⟨rfl, rfl⟩ := H
            obtain ⟨Ao32, co32, eo32⟩ := Kd.R_slice HO_4.out
            subst eo32
            obtain ⟨Ao33, co33, eo33⟩ := Kd.R_slice HO_5.out
            subst eo33
            go_wp2_with (first | ((with_reducible refine gate_callee (f := 45) rfl ?_); refine goesL_ (some 61) rfl rfl Try.func45 (by kernel_rfl) rfl #[.slice Ao33 x5_1.length co33] rfl (by (try simp only [List.map_toArray, List.map_cons, List.map_nil]); first | done | rfl | (simp only [List.length_drop, List.length_take]; rfl)) ?_; (with_reducible refine (brickyardref09_Join.calls k1 _ _ x5_1 t340 _ ?side1 ?side2 A27.out).mono ?_); (case side1 => repeat (first | exact (Kd.R_reads' HO_5.out).2.2 | (with_reducible refine Kd.C_alloc ?_ _) | (with_reducible refine Kd.C_drewN ?_ _) | (with_reducible refine Kd.C_drew ?_))); (case side2 => exact (Kd.R_reads' HO_5.out).2.1); rintro e w34 ⟨rfl, hb⟩; refine ⟨_, rfl, ?_⟩; have n0_ := Aside0.mk (Kd.R_below (by (with_reducible repeat (first | apply Kd.R_alloc | apply Kd.R_drewN | apply Kd.R_drew)); exact HO_4.out) hb); have n1_ := Aside0.mk (Kd.R_below (by (with_reducible repeat (first | apply Kd.R_alloc | apply Kd.R_drewN | apply Kd.R_drew)); exact HO_5.out) hb); have n2_ := Aside0.mk (below_step (by repeat (first | (with_reducible first | exact HB.out | apply below_alloc | apply pw_below_drewN | apply below_drew1) | exact HB.out)) hb); clear HO_4; clear HO_5; clear HB; have HO_4 := n0_; have HO_5 := n1_; have HB := n2_; clear n0_ n1_ n2_; (try clear hb); (try clear hb2); (try clear hk); (try clear hi)))
            go_ret2
            exact ⟨by first | rfl | (simp [errW_none, errW_some] <;> rfl) | (simp [*, errW_none, errW_some] <;> rfl), by repeat (first | (with_reducible first | exact HB.out | apply below_alloc | apply pw_below_drewN | apply below_drew1) | exact HB.out)⟩

end Go.Proofs.Ytahdgaaedilcmaa.P
/- The printed functions on paths come to the plain ones: is a text a path; its one form. -/
namespace Go.Proofs.Ytahdgaaedilcmaa.Pl
open Go.RowKit Go.Proofs.YtahdgaaedilcmaaW.PrintWords Go.Proofs.Ytahdgaaedilcmaa.P
set_option linter.unusedSimpArgs false

theorem first_split {l : List UInt8} {c : UInt8} (h : c ∈ l) : ∃ a b, l = a ++ c :: b ∧ c ∉ a := by
  rcases ib_cases l c with ⟨_, h1⟩ | ⟨i, _, _, he, hn⟩
  · exact absurd h h1
  · exact ⟨_, _, he, hn⟩
theorem is_l0 : ∀ d (s : ByteArray), s.size ≤ d → s.size ≤ 4611686018427387904 → Ev (fun k => path_Is.l0 k s) ((pieces (L s)).all segB) := by
  intro d
  induction d with
  | zero =>
    intro s h0 hs
    have hl : L s = [] := List.eq_nil_of_length_eq_zero (by rw [← size_L]; omega)
    refine ev_succ ?_
    simp only [path_Is.l0]
    rw [cut_none s 47 (by rw [hl]; simp)]
    simp only [Option.bind_some]
    refine ev_bind (segment_ev s) ?_
    rw [hl, show pieces [] = [[]] from rfl]
    refine ev_ite_neg (by simp [segB]) (ev_const (by simp [segB]))
  | succ d ih =>
    intro s h0 hs
    refine ev_succ ?_
    simp only [path_Is.l0]
    by_cases h : (47 : UInt8) ∈ L s
    · obtain ⟨a, b, he, hn⟩ := first_split h
      have hsz : s.size = a.length + 1 + b.length := by rw [size_L, he]; simp; omega
      rw [cut_some s 47 hs a b hn he]
      simp only [Option.bind_some]
      refine ev_bind (segment_ev (B a)) ?_
      rw [he, pieces_cut hn, L_B, List.all_cons]
      cases hq : segB a with
      | true =>
        refine ev_ite_pos rfl (ev_ite_pos trivial ?_)
        have := ih (B b) (by rw [size_B]; omega) (by rw [size_B]; omega)
        rw [L_B] at this
        exact ev_eq this (by simp)
      | false => exact ev_ite_neg (by simp) (ev_const (by simp))
    · rw [cut_none s 47 h]
      simp only [Option.bind_some]
      refine ev_bind (segment_ev s) ?_
      rw [pieces_one h]
      cases hq : segB (L s) with
      | true => exact ev_ite_pos rfl (ev_ite_neg (by simp) (ev_const (by simp [hq])))
      | false => exact ev_ite_neg (by simp) (ev_const (by simp [hq]))
theorem is_ev (s : ByteArray) : Ev (fun k => path_Is.f k s) (isL (L s)) := by
  simp only [path_Is.f]
  have hsz := size_L s
  by_cases h : (s.size : Int) > 60
  · refine ev_ite_pos h (ev_const ?_)
    have : ¬ (L s).length ≤ 60 := by omega
    simp [isL, this]
  · refine ev_ite_neg h (ev_eq (is_l0 s.size s (Nat.le_refl _) (by omega)) ?_)
    have : (L s).length ≤ 60 := by omega
    simp [isL, this]
/-! #### the reference's pieces -/
theorem refcut_l0 (s : ByteArray) (hs : s.size ≤ 1000000000000) : ∀ d (out : List ByteArray) (p i : Nat), i + d = s.size → p ≤ i → out.length ≤ i →
    Ev (fun k => brickyardref09_Cut.l0 k s out (p : Int) (i : Int)) (out ++ (glue (((L s).drop p).take (i - p)) (pieces ((L s).drop i))).map B) := by
  intro d
  have hsz := size_L s
  induction d with
  | zero =>
    intro out p i hi hp ho
    refine ev_succ ?_
    simp only [brickyardref09_Cut.l0]
    refine ev_ite_pos (by omega) (ev_ite_pos (by omega) (ev_ite_pos (by omega) (ev_ite_pos (by omega) (ev_ite_pos (by omega) ?_))))
    rw [wsucc (by omega)]
    refine ev_succ ?_
    simp only [brickyardref09_Cut.l0]
    refine ev_ite_neg (by omega) (ev_const ?_)
    rw [List.drop_of_length_le (i := i) (by omega)]
    congr 2
    simp only [pieces, glue, List.headD_cons, List.append_nil, List.tail_cons, List.map_cons, List.map_nil]
    congr 1
    apply L_inj
    rw [L_extract, L_B]
    simp
  | succ d ih =>
    intro out p i hi hp ho
    have hlt : i < (L s).length := by omega
    refine ev_succ ?_
    simp only [brickyardref09_Cut.l0]
    refine ev_ite_pos (by omega) (ev_ite_neg (by omega) (ev_ite_pos (by omega) (ev_ite_pos (by omega) ?_)))
    rw [bt_L s i hlt, wsucc (by omega), drop_cons hlt]
    by_cases h : (L s)[i] = 47
    · refine ev_ite_pos (by rw [h]; rfl) (ev_ite_pos (by omega) (ev_ite_pos (by omega) (ev_ite_pos (by omega) ?_)))
      have := ih (out ++ [s.extract ((p : Int)).toNat ((i : Int)).toNat]) (i + 1) (i + 1) (by omega) (Nat.le_refl _) (by simp; omega)
      refine ev_eq this ?_
      rw [h, glue_slash, Nat.sub_self, List.take_zero, glue_nil]
      rw [List.append_assoc]
      congr 1
      rw [List.map_cons, List.singleton_append]
      congr 1
      apply L_inj
      rw [L_extract, L_B]
      simp
    · refine ev_ite_neg (fun e => h ?_) ?_
      · have : (L s)[i].toNat = 47 := by omega
        exact UInt8.toNat.inj this
      · have := ih out p (i + 1) (by omega) (by omega) (by omega)
        refine ev_eq this ?_
        congr 2
        rw [glue_other h]
        congr 1
        rw [show i + 1 - p = (i - p) + 1 by omega, List.take_add_one, List.getElem?_drop, show p + (i - p) = i by omega, List.getElem?_eq_getElem hlt]
        rfl
theorem refcut_ev (s : ByteArray) (hs : s.size ≤ 1000000000000) : Ev (fun k => brickyardref09_Cut.f k s) ((pieces (L s)).map B) := by
  simp only [brickyardref09_Cut.f]
  refine ev_eq (refcut_l0 s hs s.size [] 0 0 (by omega) (Nat.le_refl _) (by simp)) ?_
  simp [glue_nil]
/-! #### the reference's join -/
theorem rd_B (l : List (List UInt8)) (i : Nat) (h : i < l.length) : rdOf ByteArray.empty (l.map B) (i : Int) = B (l[i]'h) := by
  unfold rdOf
  rw [List.getD_eq_getElem?_getD]
  simp [h]
theorem nums_app (a b : List UInt8) : (a ++ b).map (fun b => (b.toNat : Int)) = a.map (fun b => (b.toNat : Int)) ++ b.map (fun b => (b.toNat : Int)) := List.map_append
theorem bytesOf_B (l : List UInt8) : bytesOf (B l) = l.map (fun b => (b.toNat : Int)) := by simp [bytesOf, B]
theorem nums_B (l : List UInt8) : strOfNums (l.map (fun b => (b.toNat : Int))) = B l := by
  apply L_inj
  rw [L_B]
  unfold L
  rw [strOfNums_data, List.map_map]
  conv => rhs; rw [← List.map_id l]
  exact List.map_congr_left (fun x _ => by simp)
theorem lens_take (l : List (List UInt8)) (j : Nat) : Lib.lens (l.take j) ≤ Lib.lens l := by
  have e : Lib.lens (l.take j ++ l.drop j) = Lib.lens (l.take j) + Lib.lens (l.drop j) := by simp only [Lib.lens, List.map_append, List.sum_append]
  rw [List.take_append_drop] at e
  omega
theorem lens_cons (x : List UInt8) (r : List (List UInt8)) : Lib.lens (x :: r) = x.length + Lib.lens r := by simp [Lib.lens]
theorem refjoin_l0 (l : List (List UInt8)) (hs : Lib.lens l + l.length ≤ 1000000000000) {r : ByteArray} (hr : Ev (fun k => brickyardref09_Join.l1 k (l.map B) [] 0) r) : ∀ d i : Nat, ∀ n : Nat, i + d = l.length → n + Lib.lens (l.drop i) + (l.length - i) ≤ 1000000000000 →
    Ev (fun k => brickyardref09_Join.l0 k (l.map B) (n : Int) (i : Int)) r := by
  intro d
  induction d with
  | zero =>
    intro i n hi hn
    refine ev_succ ?_
    simp only [brickyardref09_Join.l0]
    exact ev_ite_neg (by simp; omega) (ev_ite_pos (by omega) (ev_ite_pos (by omega) hr))
  | succ d ih =>
    intro i n hi hn
    have hlt : i < l.length := by omega
    refine ev_succ ?_
    simp only [brickyardref09_Join.l0]
    refine ev_ite_pos (by simp; omega) (ev_ite_pos (by omega) ?_)
    rw [drop_cons hlt, lens_cons] at hn
    rw [rd_B l i hlt, size_B, wsucc (i := l[i].length) (by omega), wsucc (i := i) (by omega), w64 (x := (n : Int) + ((l[i].length + 1 : Nat) : Int)) (by omega) (by omega)]
    rw [show ((n : Int) + ((l[i].length + 1 : Nat) : Int)) = ((n + (l[i].length + 1) : Nat) : Int) by omega]
    exact ih (i + 1) _ (by omega) (by omega)
/-- the join of the first i pieces -/
theorem join_snoc (l : List (List UInt8)) (x : List UInt8) : l ≠ [] → Lib.join (l ++ [x]) [47] = Lib.join l [47] ++ [47] ++ x := by
  cases l with
  | nil => intro h; exact absurd rfl h
  | cons a r =>
    intro _
    rw [List.cons_append, Lib.join_cons, Lib.join_cons]
    simp [Lib.joinTail]
theorem refjoin_l1 (l : List (List UInt8)) (hs : Lib.lens l + l.length ≤ 1000000000000) : ∀ d i : Nat, i + d = l.length →
    Ev (fun k => brickyardref09_Join.l1 k (l.map B) ((Lib.join (l.take i) [47]).map (fun b => (b.toNat : Int))) (i : Int)) (B (Lib.join l [47])) := by
  intro d
  induction d with
  | zero =>
    intro i hi
    refine ev_succ ?_
    simp only [brickyardref09_Join.l1]
    refine ev_ite_neg (by simp; omega) (ev_const ?_)
    rw [List.take_of_length_le (by omega)]
    congr 1
    exact nums_B _
  | succ d ih =>
    intro i hi
    have hlt : i < l.length := by omega
    have hlen : ∀ j, (Lib.join (l.take j) [47]).length ≤ Lib.lens l + l.length := by
      intro j
      cases hj : l.take j with
      | nil => simp [Lib.join_nil]
      | cons a r =>
        rw [Lib.join_length, ← hj]
        have h1 := lens_take l j
        have h2 : r.length + 1 ≤ l.length := by
          have := congrArg List.length hj
          simp [List.length_take] at this
          omega
        simp only [List.length_singleton]
        omega
    have hx : (l[i]).length ≤ Lib.lens l := by
      have : l[i] ∈ l := List.getElem_mem hlt
      clear ih hlen
      revert this
      generalize l[i] = x
      intro hm
      have : ∀ r : List (List UInt8), x ∈ r → x.length ≤ Lib.lens r := by
        intro r
        induction r with
        | nil => intro h; cases h
        | cons y r ih =>
          intro h
          rw [lens_cons]
          rcases List.mem_cons.1 h with rfl | h
          · omega
          · have := ih h; omega
      exact this l hm
    refine ev_succ ?_
    simp only [brickyardref09_Join.l1]
    refine ev_ite_pos (by simp; omega) ?_
    rw [rd_B l i hlt, size_B, bytesOf_B, wsucc (by omega)]
    have e := ih (i + 1) (by omega)
    have hl0 := hlen i
    by_cases h0 : i = 0
    · subst h0
      refine ev_ite_neg (by omega) (ev_ite_pos (by omega) (ev_ite_pos (by simp [Lib.join_nil]; omega) ?_))
      refine ev_eq (Ev.congr (fun k => ?_) e) rfl
      congr 1
      rw [← nums_app]
      congr 1
      rw [List.take_zero, Lib.join_nil, List.nil_append, List.take_add_one, List.getElem?_eq_getElem hlt]
      simp [Lib.join_one]
    · refine ev_ite_pos (by omega) (ev_ite_pos (by rw [List.length_map]; omega) ?_)
      simp only [Option.bind_some]
      refine ev_ite_pos (by omega) (ev_ite_pos (by rw [List.length_append, List.length_map]; simp; omega) ?_)
      refine ev_eq (Ev.congr (fun k => ?_) e) rfl
      congr 1
      rw [show ([47] : List Int) = ([47] : List UInt8).map (fun b => (b.toNat : Int)) from rfl, ← nums_app, ← nums_app]
      congr 1
      rw [List.take_add_one (i := i), List.getElem?_eq_getElem hlt]
      refine (join_snoc _ _ ?_).symm
      intro hc
      have := congrArg List.length hc
      rw [List.length_take, List.length_nil] at this
      omega
theorem refjoin_ev (l : List (List UInt8)) (hs : Lib.lens l + l.length ≤ 1000000000000) : Ev (fun k => brickyardref09_Join.f k (l.map B)) (B (Lib.join l [47])) := by
  simp only [brickyardref09_Join.f]
  have h1 := refjoin_l1 l hs l.length 0 (by omega)
  have h0 : ((0 : Nat) : Int) = 0 := rfl
  rw [h0] at h1
  have := refjoin_l0 l hs (r := B (Lib.join l [47])) h1 l.length 0 0 (by omega) (by simp; omega)
  exact this
end Go.Proofs.Ytahdgaaedilcmaa.Pl
/- The printed functions on paths come to the plain ones: the one form, by the program and by the reference. -/
namespace Go.Proofs.Ytahdgaaedilcmaa.Pl
open Go.RowKit Go.Proofs.YtahdgaaedilcmaaW.PrintWords Go.Proofs.Ytahdgaaedilcmaa.P
set_option linter.unusedSimpArgs false

theorem refis_l0 (l : List (List UInt8)) (hl : l.length ≤ 1000000000000) : ∀ d i : Nat, i + d = l.length → Ev (fun k => brickyardref09_Is.l0 k (l.map B) (i : Int)) ((l.drop i).all segB) := by
  intro d
  induction d with
  | zero =>
    intro i hi
    refine ev_succ ?_
    simp only [brickyardref09_Is.l0]
    refine ev_ite_neg (by simp; omega) (ev_const ?_)
    rw [List.drop_of_length_le (by omega)]
    rfl
  | succ d ih =>
    intro i hi
    have hlt : i < l.length := by omega
    refine ev_succ ?_
    simp only [brickyardref09_Is.l0]
    refine ev_ite_pos (by simp; omega) (ev_ite_pos (by omega) ?_)
    rw [rd_B l i hlt, wsucc (by omega), drop_cons hlt, List.all_cons]
    refine ev_bind (refseg_ev _) ?_
    rw [L_B]
    cases hq : segB l[i] with
    | true => exact ev_ite_pos rfl (ev_eq (ih (i + 1) (by omega)) (by simp))
    | false => exact ev_ite_neg (by simp) (ev_const (by simp))
theorem refis_ev (s : ByteArray) : Ev (fun k => brickyardref09_Is.f k s) (isL (L s)) := by
  simp only [brickyardref09_Is.f]
  have hsz := size_L s
  by_cases h : (s.size : Int) > 60
  · refine ev_ite_pos h (ev_const ?_)
    have : ¬ (L s).length ≤ 60 := by omega
    simp [isL, this]
  · refine ev_ite_neg h (ev_bind (refcut_ev s (by omega)) ?_)
    have hp := pieces_length (L s)
    refine ev_eq (refis_l0 (pieces (L s)) (by omega) (pieces (L s)).length 0 (by omega)) ?_
    have : (L s).length ≤ 60 := by omega
    simp [isL, this]
/-- what is told: the text and the error -/
def told (r : List UInt8 × Int) : ByteArray × Int := (B r.1, r.2)
theorem walk_cons (kept : List (List UInt8)) (p : List UInt8) (ps : List (List UInt8)) : walk kept (p :: ps) = if p = [] ∨ p = [46] then walk kept ps else if p = [46, 46] then (if kept = [] then none else walk kept.dropLast ps) else if segB p = true then walk (kept ++ [p]) ps else none := by
  rw [walk]
theorem dropLast_take {α : Type} (l : List α) : l.take (l.length - 1) = l.dropLast := (List.dropLast_eq_take).symm
theorem lens_app (a b : List (List UInt8)) : Lib.lens (a ++ b) = Lib.lens a + Lib.lens b := by simp only [Lib.lens, List.map_append, List.sum_append]
theorem lens_dropLast (l : List (List UInt8)) : Lib.lens l.dropLast ≤ Lib.lens l := by
  rw [← dropLast_take]; exact lens_take _ _
theorem join_le (l : List (List UInt8)) : (Lib.join l [47]).length ≤ Lib.lens l + l.length := by
  cases l with
  | nil => simp [Lib.join_nil]
  | cons a r => rw [Lib.join_length, show ([47] : List UInt8).length * r.length = r.length from Nat.one_mul _, List.length_cons]; omega
theorem refnorm_end (kept : List (List UInt8)) (hk : Lib.lens kept + kept.length ≤ 1000000000000) :
    Ev (fun k => if ((kept.map B).length : Int) = 0 then (some ((⟨#[]⟩ : ByteArray), (2 : Int))) else ((brickyardref09_Join.f k (kept.map B)).bind fun t139 => (if (t139.size : Int) > 60 then (some ((⟨#[]⟩ : ByteArray), 3)) else (some (t139, 0))))) (told (fin kept)) := by
  unfold fin
  by_cases h : kept = []
  · subst h
    exact ev_ite_pos rfl (ev_const rfl)
  · rw [if_neg h]
    refine ev_ite_neg ?_ (ev_bind (refjoin_ev kept hk) ?_)
    · intro e
      apply h
      exact List.eq_nil_of_length_eq_zero (by simpa using e)
    · have hs := size_B (Lib.join kept [47])
      by_cases h2 : (Lib.join kept [47]).length > 60
      · rw [if_pos h2]
        exact ev_ite_pos (by omega) (ev_const rfl)
      · rw [if_neg h2]
        exact ev_ite_neg (by omega) (ev_const rfl)
theorem seg_len {l : List UInt8} (h : segB l = true) : l.length ≤ 32 := by
  by_cases h1 : l.length ≤ 32
  · exact h1
  · rw [segB_le h1] at h; cases h
theorem lens_seg {l : List (List UInt8)} (h : ∀ p ∈ l, segB p = true) : Lib.lens l ≤ 32 * l.length := by
  induction l with
  | nil => simp [Lib.lens]
  | cons a r ih =>
    have h1 := seg_len (h a List.mem_cons_self)
    have h2 := ih (fun p hp => h p (List.mem_cons_of_mem _ hp))
    rw [lens_cons, List.length_cons]
    omega
theorem map_take {α β : Type} (f : α → β) (l : List α) (n : Nat) : (l.map f).take n = (l.take n).map f := List.map_take.symm
theorem refnorm_l0 (l : List (List UInt8)) (hl : l.length ≤ 10000000000) : ∀ d i : Nat, ∀ kept : List (List UInt8), i + d = l.length → kept.length ≤ i → (∀ p ∈ kept, segB p = true) →
    Ev (fun k => brickyardref09_Norm.l0 k (l.map B) (kept.map B) (i : Int)) (told (resOf (walk kept (l.drop i)))) := by
  intro d
  induction d with
  | zero =>
    intro i kept hi hk hs
    refine ev_succ ?_
    simp only [brickyardref09_Norm.l0]
    refine ev_ite_neg (by simp; omega) ?_
    rw [List.drop_of_length_le (by omega)]
    have := lens_seg hs
    exact refnorm_end kept (by omega)
  | succ d ih =>
    intro i kept hi hk hs
    have hlt : i < l.length := by omega
    refine ev_succ ?_
    simp only [brickyardref09_Norm.l0]
    refine ev_ite_pos (by simp; omega) (ev_ite_pos (by omega) ?_)
    rw [rd_B l i hlt, toList_L, L_B, drop_cons hlt, walk_cons]
    have hj : ∀ b : Bool, b = decide (l[i] = [] ∨ l[i] = [46]) → Ev (fun k => brickyardref09_Norm.j1 k (l.map B) (kept.map B) (i : Int) b) (told (resOf (if l[i] = [] ∨ l[i] = [46] then walk kept (l.drop (i + 1)) else if l[i] = [46, 46] then (if kept = [] then none else walk kept.dropLast (l.drop (i + 1))) else if segB l[i] = true then walk (kept ++ [l[i]]) (l.drop (i + 1)) else none))) := by
      intro b hb
      refine ev_succ ?_
      simp only [brickyardref09_Norm.j1]
      by_cases h : l[i] = [] ∨ l[i] = [46]
      · rw [if_pos h]
        refine ev_ite_pos (by rw [hb]; exact decide_eq_true h) ?_
        rw [wsucc (by omega)]
        exact ih (i + 1) kept (by omega) (by omega) hs
      · rw [if_neg h]
        refine ev_ite_neg (by rw [hb, decide_eq_false h]; simp) (ev_ite_pos (by omega) (ev_ite_pos (by simp; omega) ?_))
        rw [rd_B l i hlt, toList_L, L_B]
        by_cases h2 : l[i] = [46, 46]
        · rw [if_pos h2]
          refine ev_ite_pos h2 ?_
          by_cases h3 : kept = []
          · rw [if_pos h3]
            subst h3
            exact ev_ite_pos rfl (ev_const rfl)
          · rw [if_neg h3]
            have hn : kept.length ≠ 0 := fun e => h3 (List.eq_nil_of_length_eq_zero e)
            refine ev_ite_neg (by rw [List.length_map]; omega) ?_
            rw [List.length_map, w64 (x := ((kept.length : Nat) : Int) - 1) (by omega) (by omega)]
            refine ev_ite_pos (by omega) (ev_ite_pos (by omega) ?_)
            rw [show (((kept.length : Nat) : Int) - 1).toNat = kept.length - 1 by omega, map_take, dropLast_take, wsucc (by omega)]
            exact ih (i + 1) kept.dropLast (by omega) (by rw [List.length_dropLast]; omega) (fun p hp => hs p (List.dropLast_subset _ hp))
        · rw [if_neg h2]
          refine ev_ite_neg h2 (ev_bind (refseg_ev _) ?_)
          rw [L_B]
          cases hq : segB l[i] with
          | false => exact ev_ite_neg (by simp) (ev_const rfl)
          | true =>
            refine ev_ite_pos rfl (ev_ite_pos (by rw [List.length_map]; omega) ?_)
            rw [wsucc (by omega), show kept.map B ++ [B l[i]] = (kept ++ [l[i]]).map B by simp]
            refine ih (i + 1) (kept ++ [l[i]]) (by omega) (by simp; omega) (fun p hp => ?_)
            rcases List.mem_append.1 hp with hp | hp
            · exact hs p hp
            · rw [List.mem_singleton.1 hp]; exact hq
    by_cases h : l[i] = []
    · exact ev_ite_pos h (hj true (by simp [h]))
    · refine ev_ite_neg h (hj _ ?_)
      rw [Bool.eq_iff_iff]
      simp [h]
theorem refnorm_ev (s : ByteArray) (hs : s.size ≤ 9000000000) : Ev (fun k => brickyardref09_Norm.f k s) (told (normL (L s))) := by
  simp only [brickyardref09_Norm.f]
  have hp := pieces_length (L s)
  have hsz := size_L s
  exact ev_bind (refcut_ev s (by omega)) (refnorm_l0 (pieces (L s)) (by omega) (pieces (L s)).length 0 [] (by omega) (by simp) (fun p hp => by cases hp))
/-! #### the program's -/
theorem sum_map_B (l : List (List UInt8)) : ((l.map B).map (fun x => (x.size : Int) + 1)).sum = (l.map (fun x => (x.length : Int) + 1)).sum := by
  rw [List.map_map]
  exact congrArg List.sum (List.map_congr_left (fun x _ => by simp [size_B]))
theorem sum_lens (r : List (List UInt8)) : (r.map (fun x => (x.length : Int) + 1)).sum = ((Lib.lens r : Nat) : Int) + (r.length : Int) := by
  induction r with
  | nil => rfl
  | cons y r ih => rw [lens_cons, List.map_cons, List.sum_cons, List.length_cons, ih]; omega
theorem pathnorm_end (kept : List (List UInt8)) (hk : Lib.lens kept + kept.length ≤ 1000000000000) : ∀ d i : Nat, i + d = kept.length →
    Ev (fun k => path_Norm.l1 k (kept.map B) (-1 + ((Lib.lens (kept.take i) + i : Nat) : Int)) (kept.map B) ((kept.length : Nat) : Int) (i : Int)) (told (fin kept)) := by
  intro d
  induction d with
  | zero =>
    intro i hi
    refine ev_succ ?_
    simp only [path_Norm.l1]
    refine ev_ite_neg (by omega) ?_
    rw [List.take_of_length_le (by omega)]
    unfold fin
    by_cases h : kept = []
    · subst h
      have h0 : Lib.lens [] = 0 := rfl
      simp at hi
      exact ev_ite_pos (by omega) (ev_const rfl)
    · rw [if_neg h]
      have hn : kept.length ≠ 0 := fun e => h (List.eq_nil_of_length_eq_zero e)
      have hj := join_len kept h
      rw [sum_lens] at hj
      refine ev_ite_neg (by omega) ?_
      by_cases h2 : (Lib.join kept [47]).length > 60
      · rw [if_pos h2]
        exact ev_ite_pos (by omega) (ev_const rfl)
      · rw [if_neg h2]
        refine ev_ite_neg (by omega) ?_
        have e : strings_Join.f (kept.map B) (⟨#[47]⟩ : ByteArray) = some (B (Lib.join kept [47])) := by
          unfold strings_Join.f
          have e1 : (kept.map B).map (fun x => x.data.toList) = kept := map_L_B kept
          rw [e1]
          exact if_pos ⟨by show (Lib.join kept [47]).length ≤ _; omega, by rw [List.length_map]; omega⟩
        rw [e]
        exact ev_const rfl
  | succ d ih =>
    intro i hi
    have hlt : i < kept.length := by omega
    refine ev_succ ?_
    simp only [path_Norm.l1]
    refine ev_ite_pos (by omega) (ev_ite_pos (by omega) (ev_ite_pos (by rw [List.length_map]; omega) ?_))
    have ht := lens_take kept (i + 1)
    have e : Lib.lens (kept.take (i + 1)) = Lib.lens (kept.take i) + kept[i].length := by
      rw [List.take_add_one, List.getElem?_eq_getElem hlt, lens_app]
      simp [Lib.lens]
    rw [rd_B kept i hlt, size_B, wsucc (i := kept[i].length) (by omega), wsucc (i := i) (by omega), w64 (x := -1 + ((Lib.lens (kept.take i) + i : Nat) : Int) + ((kept[i].length + 1 : Nat) : Int)) (by omega) (by omega)]
    rw [show -1 + ((Lib.lens (kept.take i) + i : Nat) : Int) + ((kept[i].length + 1 : Nat) : Int) = -1 + ((Lib.lens (kept.take (i + 1)) + (i + 1) : Nat) : Int) by omega]
    exact ih (i + 1) (by omega)
theorem pathnorm_done (s : ByteArray) (kept : List (List UInt8)) (hk : Lib.lens kept + kept.length ≤ 1000000000000) : Ev (fun k => path_Norm.l0 k s (kept.map B) false) (told (fin kept)) := by
  refine ev_succ ?_
  simp only [path_Norm.l0]
  refine ev_ite_neg (by simp) ?_
  have := pathnorm_end kept hk kept.length 0 (by omega)
  rw [List.length_map]
  exact this
theorem pathnorm_j1 (rest : ByteArray) (p : List UInt8) (ps : List (List UInt8)) (kept : List (List UInt8)) (more : Bool) (hk : kept.length ≤ 10000000000) (hs : ∀ p ∈ kept, segB p = true)
    (ih : ∀ kept' : List (List UInt8), kept'.length ≤ kept.length + 1 → (∀ p ∈ kept', segB p = true) → Ev (fun k => path_Norm.l0 k rest (kept'.map B) more) (told (resOf (walk kept' ps))))
    (b : Bool) (hb : b = decide (p = [] ∨ p = [46])) : Ev (fun k => path_Norm.j1 k rest (kept.map B) more (B p) (B p) b) (told (resOf (walk kept (p :: ps)))) := by
  rw [walk_cons]
  refine ev_succ ?_
  simp only [path_Norm.j1, toList_L, L_B]
  by_cases h : p = [] ∨ p = [46]
  · rw [if_pos h]
    refine ev_ite_pos (by rw [hb]; exact decide_eq_true h) ?_
    exact ih kept (by omega) hs
  · rw [if_neg h]
    refine ev_ite_neg (by rw [hb, decide_eq_false h]; simp) ?_
    by_cases h2 : p = [46, 46]
    · rw [if_pos h2]
      refine ev_ite_pos h2 ?_
      by_cases h3 : kept = []
      · rw [if_pos h3]
        subst h3
        exact ev_ite_pos rfl (ev_const rfl)
      · rw [if_neg h3]
        have hn : kept.length ≠ 0 := fun e => h3 (List.eq_nil_of_length_eq_zero e)
        refine ev_ite_neg (by rw [List.length_map]; omega) ?_
        rw [List.length_map, w64 (x := ((kept.length : Nat) : Int) - 1) (by omega) (by omega)]
        refine ev_ite_pos (by omega) (ev_ite_pos (by omega) ?_)
        rw [show (((kept.length : Nat) : Int) - 1).toNat = kept.length - 1 by omega, map_take, dropLast_take]
        exact ih kept.dropLast (by rw [List.length_dropLast]; omega) (fun p hp => hs p (List.dropLast_subset _ hp))
    · rw [if_neg h2]
      refine ev_ite_neg h2 (ev_bind (segment_ev _) ?_)
      rw [L_B]
      cases hq : segB p with
      | false => exact ev_ite_neg (by simp) (ev_const rfl)
      | true =>
        refine ev_ite_pos rfl (ev_ite_pos (by rw [List.length_map]; omega) ?_)
        rw [show kept.map B ++ [B p] = (kept ++ [p]).map B by simp]
        refine ih (kept ++ [p]) (by simp) (fun q hp => ?_)
        rcases List.mem_append.1 hp with hp | hp
        · exact hs q hp
        · rw [List.mem_singleton.1 hp]; exact hq
theorem pathnorm_l0 : ∀ d (s : ByteArray) (kept : List (List UInt8)), s.size ≤ d → d + kept.length ≤ 9500000000 → (∀ p ∈ kept, segB p = true) →
    Ev (fun k => path_Norm.l0 k s (kept.map B) true) (told (resOf (walk kept (pieces (L s))))) := by
  intro d
  induction d with
  | zero =>
    intro s kept h0 hd hs
    have hl : L s = [] := List.eq_nil_of_length_eq_zero (by rw [← size_L]; omega)
    refine ev_succ ?_
    simp only [path_Norm.l0]
    refine ev_ite_pos trivial ?_
    rw [cut_none s 47 (by rw [hl]; simp)]
    simp only [Option.bind_some, toList_L]
    rw [hl, show pieces [] = [[]] from rfl]
    have e : s = B [] := L_inj (by rw [hl, L_B])
    rw [e]
    refine ev_ite_pos rfl ?_
    refine pathnorm_j1 _ [] [] kept false (by omega) hs (fun kept' h1 h2 => ?_) _ (by simp)
    have := lens_seg h2
    exact pathnorm_done _ kept' (by omega)
  | succ d ih =>
    intro s kept h0 hd hs
    refine ev_succ ?_
    simp only [path_Norm.l0]
    refine ev_ite_pos trivial ?_
    have hj : ∀ (p : List UInt8) (rest : ByteArray) (ps : List (List UInt8)) (more : Bool) (_ : ∀ kept' : List (List UInt8), kept'.length ≤ kept.length + 1 → (∀ p ∈ kept', segB p = true) → Ev (fun k => path_Norm.l0 k rest (kept'.map B) more) (told (resOf (walk kept' ps)))),
        Ev (fun k => if (B p).toList = ([] : List UInt8) then (path_Norm.j1 k rest (kept.map B) more (B p) (B p) ((B p).toList == ([] : List UInt8))) else (path_Norm.j1 k rest (kept.map B) more (B p) (B p) ((B p).toList == ([46] : List UInt8)))) (told (resOf (walk kept (p :: ps)))) := by
      intro p rest ps more hih
      simp only [toList_L, L_B]
      by_cases hp : p = []
      · exact ev_ite_pos hp (pathnorm_j1 rest p ps kept more (by omega) hs hih _ (by simp [hp]))
      · refine ev_ite_neg hp (pathnorm_j1 rest p ps kept more (by omega) hs hih _ ?_)
        rw [Bool.eq_iff_iff]
        simp [hp]
    by_cases h : (47 : UInt8) ∈ L s
    · obtain ⟨a, b, he, hn⟩ := first_split h
      have hsz : s.size = a.length + 1 + b.length := by rw [size_L, he]; simp; omega
      rw [cut_some s 47 (by omega) a b hn he]
      simp only [Option.bind_some]
      rw [he, pieces_cut hn]
      refine hj a (B b) (pieces b) true (fun kept' h1 h2 => ?_)
      have := ih (B b) kept' (by rw [size_B]; omega) (by omega) h2
      rw [L_B] at this
      exact this
    · rw [cut_none s 47 h]
      simp only [Option.bind_some]
      rw [pieces_one h]
      have e : s = B (L s) := (B_L s).symm
      have := hj (L s) ⟨#[]⟩ [] false (fun kept' h1 h2 => by
        have := lens_seg h2
        exact pathnorm_done _ kept' (by omega))
      rw [← e] at this
      exact this
theorem pathnorm_ev (s : ByteArray) (hs : s.size ≤ 9000000000) : Ev (fun k => path_Norm.f k s) (told (normL (L s))) := by
  simp only [path_Norm.f]
  exact pathnorm_l0 s.size s [] (Nat.le_refl _) (by simp; omega) (fun p hp => by cases hp)
end Go.Proofs.Ytahdgaaedilcmaa.Pl
