/- DepfilePrints' own function: the walk. -/
import Derived.Test.YtahdgaaedilcmaaGTold
import Derived.Test.YtahdgaaedilcmaaGLaw6
import Derived.Test.YtahdgaaedilcmaaPlMerge
namespace Go.Proofs.Ytahdgaaedilcmaa.P
open Go.RowKit Go.Maps Go.Proofs.YtahdgaaedilcmaaW.PrintWords Go.Proofs.YtahdgaaedilcmaaW.PrintLast Go.Proofs.YtahdgaaedilcmaaW.PrintMore Go.Proofs.Ytahdgaaedilcmaa.Pl
set_option linter.unusedVariables false
set_option linter.unusedSimpArgs false
theorem tiny_of {l : List S32} (h : tot l < 32768) : Tiny l := by
  have keyT : ∀ l : List ByteArray, l.length ≤ totT l ∧ ∀ d ∈ l, d.size ≤ totT l := by
    intro l
    induction l with
    | nil => exact ⟨Nat.le_refl _, fun d h => by cases h⟩
    | cons x l ih =>
      have e : totT (x :: l) = 1 + x.size + totT l := rfl
      rw [e]
      refine ⟨by simp; omega, fun d hd => ?_⟩
      rcases List.mem_cons.1 hd with rfl | hd
      · omega
      · have := ih.2 d hd; omega
  have key : ∀ l : List S32, l.length ≤ tot l ∧ ∀ r ∈ l, r.f0.size ≤ tot l ∧ r.f1.length ≤ tot l ∧ ∀ d ∈ r.f1, d.size ≤ tot l := by
    intro l
    induction l with
    | nil => exact ⟨Nat.le_refl _, fun r h => by cases h⟩
    | cons x l ih =>
      have e : tot (x :: l) = 1 + x.f0.size + totT x.f1 + tot l := rfl
      have hx := keyT x.f1
      rw [e]
      refine ⟨by simp; omega, fun r hr => ?_⟩
      rcases List.mem_cons.1 hr with rfl | hr
      · exact ⟨by omega, by omega, fun d hd => by have := hx.2 d hd; omega⟩
      · have := ih.2 r hr
        exact ⟨by omega, by omega, fun d hd => by have := this.2.2 d hd; omega⟩
  have k := key l
  exact ⟨by omega, fun r hr => by have := k.2 r hr; exact ⟨by omega, by omega, fun d hd => by have := this.2.2 d hd; omega⟩⟩
theorem print_calls (A0 : Option Addr) (c0 : Nat) (l0 : List S32) (w : World) (hr0 : Kd.C k32 w A0 l0.length l0) (hc0 : l0.length ≤ c0) (hT : Tiny l0) :
    Calls Try.prog 24 #[.slice A0 l0.length c0] w fun e w' => e = .returned (.tuple #[.string (toldT false 0 l0).1, .int .i64 (toldT false 0 l0).2]) ∧ Below w.heap.size w w' := by
  have HC := Aside0.mk hr0
  have HT := Aside0.mk hT
  clear hr0 hT
  go_enter Try.func24, Try.ntmps24
  go_wp2_with fail
  refine (told_calls false 0 A0 c0 l0 _ HC.out hc0 HT.out).mono ?_
  rintro e w' ⟨rfl, hw⟩
  go_wp2_with fail
  go_ret2
  exact ⟨rfl, hw⟩
theorem fold_calls (width : Int) (A0 : Option Addr) (c0 : Nat) (l0 : List S32) (w : World) (hr0 : Kd.C k32 w A0 l0.length l0) (hc0 : l0.length ≤ c0) (hT : Tiny l0) :
    Calls Try.prog 26 #[.int .i64 width, .slice A0 l0.length c0] w fun e w' => e = .returned (.tuple #[.string (toldT true width l0).1, .int .i64 (toldT true width l0).2]) ∧ Below w.heap.size w w' := by
  have HC := Aside0.mk hr0
  have HT := Aside0.mk hT
  clear hr0 hT
  go_enter Try.func26, Try.ntmps26
  go_wp2_with fail
  refine (told_calls true width A0 c0 l0 _ HC.out hc0 HT.out).mono ?_
  rintro e w' ⟨rfl, hw⟩
  go_wp2_with fail
  go_ret2
  exact ⟨rfl, hw⟩
theorem rfold_calls (plain : Bool) (width : Int) (A0 : Option Addr) (c0 : Nat) (l0 : List S32) (w : World) (hr0 : Kd.C k32 w A0 l0.length l0) (hc0 : l0.length ≤ c0) (hT : Tiny l0) :
    Calls Try.prog 25 #[.bool plain, .int .i64 width, .slice A0 l0.length c0] w fun e w' => e = .returned (.tuple #[.string (toldT (!plain) width l0).1, .int .i64 (toldT (!plain) width l0).2]) ∧ Below w.heap.size w w' := by
  obtain ⟨k, hk⟩ := ev_some (fold_ev plain width l0 hT)
  exact brickyardref16_Fold.calls k plain width A0 c0 l0 _ _ w hr0 hc0 hk
set_option maxHeartbeats 4000000 in
set_option maxRecDepth 1000000 in
theorem law9_walk (A0 : Option Addr) (c0 : Nat) (l0 : List S32) (width : Int) (w : World) (hr0 : Kd.C k32 w A0 l0.length l0) (hc0 : l0.length ≤ c0) (hRB : RB l0) :
    Calls Try.prog 9 #[.slice A0 l0.length c0, .int .i64 width] w fun e w' => e = .returned (.bool true) ∧ Below w.heap.size w w' := by
  obtain ⟨kw, hkw⟩ := ev_some works_ev
  obtain ⟨b, hbe, hbt⟩ := great_ev [l0] (by simp) (fun l hl => by rw [List.mem_singleton] at hl; rw [hl]; exact hRB)
  obtain ⟨kg, hkg⟩ := ev_some hbe
  have HW := Aside0.mk hkw
  have HG := Aside0.mk hkg
  have HC := Aside0.mk hr0
  clear hkw hkg hr0 hbe
  go_enter Try.func9, Try.ntmps9
  go_wp2_with fail
  refine (brickyardlaw16_works.calls kw true _ HW.out).mono ?_
  rintro e w1 ⟨rfl, hb1⟩
  have hs1 := hb1.size
  go_wp2_with fail
  have hCg := lists_one (e := 23) hc0 (Kd.C_below HC.out hb1)
  have hbg : Below w.heap.size w (w1.alloc (.cells #[.slice A0 l0.length c0] 23)) := hb1.alloc hs1 _
  refine (brickyardlaw16_great.calls kg (some ⟨w1.heap.size, 0, none⟩) 1 [l0] b _ hCg (Nat.le_refl _) HG.out).mono ?_
  rintro e w2 ⟨rfl, ⟨nd, rfl⟩⟩
  have hb2 := pw_below_drewN hbg nd
  obtain ⟨W2, hW2⟩ : ∃ W2, W2 = (w1.alloc (.cells #[.slice A0 l0.length c0] 23)).drewN nd := ⟨_, rfl⟩
  rw [← hW2] at hb2
  cases b with
  | true =>
    go_wp2
    rw [← hW2]
    go_ret
    exact ⟨rfl, hb2⟩
  | false =>
    have htot := hbt rfl
    have htot1 : tot l0 < 32768 := by have : totL [l0] = tot l0 + 0 := rfl; omega
    have HT := Aside0.mk (tiny_of htot1)
    clear hbt htot htot1 hCg hbg
    go_wp2_with fail
    rw [← hW2]
    clear hW2
    refine (print_calls A0 c0 l0 W2 (Kd.C_below HC.out hb2) hc0 HT.out).mono ?_
    rintro e w3 ⟨rfl, hbA⟩
    have hb3 := below_then hb2 hb2.size hbA
    obtain ⟨X, hX⟩ : ∃ X, toldT false 0 l0 = X := ⟨_, rfl⟩
    rw [hX]
    go_wp2_with fail
    refine (rfold_calls true 0 A0 c0 l0 w3 (Kd.C_below HC.out hb3) hc0 HT.out).mono ?_
    rintro e w4 ⟨rfl, hbB⟩
    have hb4 := below_then hb3 hb3.size hbB
    rw [show toldT (!true) 0 l0 = X from hX]
    clear hX
    go_wp2_with fail
    refine (fold_calls width A0 c0 l0 w4 (Kd.C_below HC.out hb4) hc0 HT.out).mono ?_
    rintro e w5 ⟨rfl, hbC⟩
    have hb5 := below_then hb4 hb4.size hbC
    obtain ⟨Y, hY⟩ : ∃ Y, toldT true width l0 = Y := ⟨_, rfl⟩
    rw [hY]
    go_wp2_with fail
    refine (rfold_calls false width A0 c0 l0 w5 (Kd.C_below HC.out hb5) hc0 HT.out).mono ?_
    rintro e w6 ⟨rfl, hbD⟩
    have hb6 := below_then hb5 hb5.size hbD
    rw [show toldT (!false) width l0 = Y from hY]
    clear hY hb2 hb3 hb4 hb5 hbA hbB hbC hbD
    obtain ⟨x1, x2⟩ := X
    obtain ⟨y1, y2⟩ := Y
    have e1 : (x1.toList == x1.toList) = true := beq_self_eq_true _
    have e2 : (y1.toList == y1.toList) = true := beq_self_eq_true _
    have e3 : (x2 == x2) = true := beq_self_eq_true _
    have e4 : (y2 == y2) = true := beq_self_eq_true _
    go_wp2_with fail
    go_ret
    exact ⟨rfl, hb6⟩
end Go.Proofs.Ytahdgaaedilcmaa.P
