/- brickyardref16.Parse: the machine's walk, joined. -/
import Derived.Test.YtahdgaaedilcmaaGRR
namespace Go.Proofs.Ytahdgaaedilcmaa.P
open Go.RowKit Go.Proofs.YtahdgaaedilcmaaW.PrintWords Go.Proofs.YtahdgaaedilcmaaW.PrintLast Go.Proofs.YtahdgaaedilcmaaW.PrintMore
set_option linter.unusedVariables false
set_option linter.unusedSimpArgs false
set_option maxHeartbeats 8000000 in
set_option maxRecDepth 1000000 in
theorem ref16_Parse.calls (k : Nat) (a0 : ByteArray) (r1 : List S32) (r2 r3 : Int) (w : World) (h : ref16_Parse.f k a0 = some (r1, r2, r3)) :
    Calls Try.prog 13 #[.string a0] w fun e w' => ∃ v0_ : Value, e = .returned (.tuple #[v0_, .agg #[.int .i64 r2, .int .i64 r3]]) ∧ Kd.S k32 32 w' w.heap.size (fun _ => True) v0_ r1 ∧ Below w.heap.size w w' := by
  unfold ref16_Parse.f at h
  by_cases hl : (32768 : Int) < (a0.size : Int)
  · rw [if_pos hl] at h
    injection h with h
    injection h with e1 h
    injection h with e2 e3
    subst e1 e2 e3
    have hlb : decide ((32768 : Int) < (a0.size : Int)) = true := decide_eq_true hl
    go_enter Try.func13, Try.ntmps13
    go_wp2
    refine bodyPost_ret (results_tc rfl _ _ w.heap.size 26 _ (0, 0) _ rfl (blk_new w _) Try.underlying26 rfl info26r) rfl ⟨_, rfl, Kd.S_nil _ _ _ _ _, ?_⟩
    exact (Below.refl _ w).alloc (Nat.le_refl _) _
  · rw [if_neg hl] at h
    obtain ⟨⟨l, bad⟩, hP, h⟩ := Option.bind_eq_some_iff.mp h
    have H' := Aside0.mk h
    have HP := Aside0.mk hP
    clear h hP
    have hlb : decide ((32768 : Int) < (a0.size : Int)) = false := decide_eq_false hl
    go_enter Try.func13, Try.ntmps13
    go_wp2_with (first | (go_at_call 30; refine (brickyardref16_Pieces.calls k a0 l bad _ HP.out).mono ?_; rintro e w1 ⟨vL, rfl, hR0, hb1⟩))
    have hM0 : QMem w w.heap.size vL l (.slice none 0 0) [] (.slice none 0 0) [] w1 := QMem.start hR0 hb1
    refine wp_loop_ghost (fun n => RpSt a0 w l bad r1 r2 r3 n) (c := rpBody) k (RpSt.mk' _ _ _ _ _ _ _ _ _ _ _ _ _ _ _ _ _ _ _ _ _ _ _ _ _ _ _ _ _ _ _ _ _ _ _ _ _ _ _ _ _ _ _ _ _ _ _ _ _ _ _ _ _ _ _ _ _ _ _ _ _ _ _ _ _ _ _ _ _ _ _ _ _ _ _ _ _ _ _ _ _ _ _ _ _ _ _ _ _ _ _ _ _ _ _ _ _ _ _ _ _ _ _ _ _ _ _ _ _ _ _ _ _ _ _ _ _ _ _ _ _ _ _ _ _ _ _ _ _ H'.out hM0) (fun n a wr hI => rp_round a0 l bad n r1 r2 r3 w a wr _ _ hI (fun m hm a' w' h => ⟨m, hm, h⟩) (fun a' w' h => ?_) (fun out hr a' w' h => ?_))
    · exact h
    · refine RpEnd.elim (C := fun a => (Exit.inBlock _ _ : Exit → Act → World → Prop) (Exit.exit _) a w') h ?_
      clear h
      intro words mark i vL' vO vW u1 u2 u10 u11 u12 u13 u14 u15 u16 u17 u18 u19 u20 u21 u22 u23 u24 u25 u26 u27 u28 u29 u30 u31 u32 u33 u34 u35 u36 u37 u38 u39 u40 u41 u42 u43 u44 u45 u46 u47 u48 u49 u50 u51 u52 u53 u54 u55 u56 u57 u58 u59 u60 u61 u62 u63 u64 u65 u66 u67 u68 u69 u70 u71 u72 u73 u74 u75 u76 u77 u78 u79 u80 u81 u82 u83 u84 u85 u86 u87 u88 u89 u90 u91 u92 u93 u94 u95 u96 u97 u98 u99 u100 u101 u102 u103 u104 u105 u106 u107 u108 u109 u110 u111 u112 u113 u114 u115 u116 u117 u118 u119 u120 u121 u122 u123 u124 u125 u126 u127 u128 u129 hM
      obtain ⟨k0, k0b, f0, f0b, ⟨AL, cL, rfl, hcL, hL⟩, ⟨AO, cO, rfl⟩, ⟨AW, cW, rfl, hcW, hW⟩⟩ := hM.cells
      by_cases hbad : 0 ≤ bad
      · rw [if_pos hbad] at hr
        injection hr with hr
        injection hr with e1 hr
        injection hr with e2 e3
        subst e1 e2 e3
        have hbb : decide (0 ≤ bad) = true := decide_eq_true hbad
        go_wp2
        exact bodyPost_ret (results_tc rfl _ _ w.heap.size 26 _ (0, 0) _ rfl (QMem.tell hM _ _).1 Try.underlying26 rfl info26r) rfl ⟨_, rfl, Kd.S_nil _ _ _ _ _, (QMem.tell hM _ _).2.1⟩
      · rw [if_neg hbad] at hr
        injection hr with hr
        injection hr with e1 hr
        injection hr with e2 e3
        subst e1 e2 e3
        have hbb : decide (0 ≤ bad) = false := decide_eq_false hbad
        clear hbad
        go_wp2
        exact bodyPost_ret (results_tc rfl _ _ w.heap.size 26 _ (0, 0) _ rfl (QMem.tell hM _ _).1 Try.underlying26 rfl info26r) rfl ⟨_, rfl, (QMem.tell hM _ _).2.2, (QMem.tell hM _ _).2.1⟩
end Go.Proofs.Ytahdgaaedilcmaa.P
