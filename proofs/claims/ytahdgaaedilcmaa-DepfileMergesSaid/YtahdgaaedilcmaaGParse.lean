/- depfile.Parse: the machine's walk, joined. -/
import Derived.Test.YtahdgaaedilcmaaGParseR
import Derived.WalkMore
import Derived.BigQuiet
namespace Go.Proofs.Ytahdgaaedilcmaa.P
open Go.RowKit Go.Proofs.YtahdgaaedilcmaaW.PrintWords Go.Proofs.YtahdgaaedilcmaaW.PrintLast Go.Proofs.YtahdgaaedilcmaaW.PrintMore
set_option linter.unusedVariables false
set_option linter.unusedSimpArgs false
set_option maxHeartbeats 8000000 in
set_option maxRecDepth 1000000 in
theorem depfile_Parse.calls (k : Nat) (a0 : ByteArray) (r1 : List S32) (r2 r3 : Int) (w : World) (h : depfile_Parse.f k a0 = some (r1, r2, r3)) :
    Calls Try.prog 12 #[.string a0] w fun e w' => ∃ v0_ : Value, e = .returned (.tuple #[v0_, .agg #[.int .i64 r2, .int .i64 r3]]) ∧ Kd.S k32 32 w' w.heap.size (fun _ => True) v0_ r1 ∧ Below w.heap.size w w' := by
  have H' := Aside0.mk h
  unfold depfile_Parse.f at h
  by_cases hl : (32768 : Int) < (a0.size : Int)
  · clear h
    have hlb : decide ((32768 : Int) < (a0.size : Int)) = true := decide_eq_true hl
    go_enter Try.func12, Try.ntmps12
    have he := H'.out
    unfold depfile_Parse.f at he
    rw [if_pos hl] at he
    injection he with he
    injection he with e1 he
    injection he with e2 e3
    subst e1 e2 e3
    clear H'
    go_wp2
    refine bodyPost_ret (results_tc rfl _ _ w.heap.size 26 _ (0, 0) _ rfl (blk_new w _) Try.underlying26 rfl info26s) rfl ⟨_, rfl, Kd.S_nil _ _ _ _ _, ?_⟩
    exact (Below.refl _ w).alloc (Nat.le_refl _) _
  · rw [if_neg hl] at h
    clear H'
    have H' := Aside0.mk h
    clear h
    have hlb : decide ((32768 : Int) < (a0.size : Int)) = false := decide_eq_false hl
    go_enter Try.func12, Try.ntmps12
    go_wp2
    simp only [Nat.add_assoc, Nat.reduceAdd]
    obtain ⟨W0, hW0⟩ : ∃ W0, W0 = ((((((w.alloc (.cells #[.int .i64 0, .int .i64 0] 26)).alloc (.cells #[.string ⟨#[]⟩, .slice none 0 0] 32)).alloc (.cells #[.string ⟨#[]⟩] 9)).alloc (.cells #[.bool false] 4)).alloc (.cells #[.bool false] 4)).alloc (.cells #[.bool false] 4)) := ⟨_, rfl⟩
    have hM0 := PMem.start w
    rw [← hW0] at hM0 ⊢
    clear hW0
    refine wp_loop_ghost (fun n => DpSt a0 w r1 r2 r3 n) (c := dpBody) k (DpSt.mk' _ _ _ _ _ _ _ _ _ _ _ _ _ _ _ _ _ _ _ _ _ _ _ _ _ _ _ _ _ _ _ _ _ _ _ _ _ _ _ _ _ _ _ _ _ _ _ _ _ _ _ _ _ _ _ _ _ _ _ _ _ _ _ _ _ _ _ _ _ _ _ _ _ _ _ _ _ _ _ _ _ _ _ _ _ _ _ _ _ _ _ _ _ _ _ _ _ _ _ _ _ _ _ _ _ _ _ _ _ _ _ _ _ _ _ _ _ _ _ _ _ _ _ _ _ _ _ _ _ _ _ _ _ _ _ H'.out hM0) (fun n a wr hI => dp_round a0 n r1 r2 r3 w a wr _ _ hI (fun m hm a' w' h => ⟨m, hm, h⟩) (fun a' w' h => ?_) (fun a' w' h => ?_))
    · exact h
    · refine DpEnd.elim (C := fun a => (Exit.inBlock _ _ : Exit → Act → World → Prop) (Exit.exit _) a w') h ?_
      clear h
      intro rule word inn tgt col i a0' vO u1 u2 u13 u14 u15 u16 u17 u18 u19 u20 u21 u22 u23 u24 u25 u26 u27 u28 u29 u30 u31 u32 u33 u34 u35 u36 u37 u38 u39 u40 u41 u42 u43 u44 u45 u46 u47 u48 u49 u50 u51 u52 u53 u54 u55 u56 u57 u58 u59 u60 u61 u62 u63 u64 u65 u66 u67 u68 u69 u70 u71 u72 u73 u74 u75 u76 u77 u78 u79 u80 u81 u82 u83 u84 u85 u86 u87 u88 u89 u90 u91 u92 u93 u94 u95 u96 u97 u98 u99 u100 u101 u102 u103 u104 u105 u106 u107 u108 u109 u110 u111 u112 u113 u114 u115 u116 u117 u118 u119 u120 u121 u122 u123 u124 u125 u126 u127 u128 u129 u130 u131 u132 u133 u134 u135 u136 u137 h2 h3 hM
      subst h2 h3
      obtain ⟨k3, k4, k5, k2, k0, k0b, f0, f0b, f2, f3, f4, f5, f1, f1b, k1, A1, n1, C1, k1b⟩ := hM.cells
      go_wp2
      exact bodyPost_ret (results_tc rfl _ _ w.heap.size 26 _ (0, 0) _ rfl (PMem.tell hM _ _).1 Try.underlying26 rfl info26s) rfl ⟨_, rfl, (PMem.tell hM _ _).2.2, (PMem.tell hM _ _).2.1⟩
end Go.Proofs.Ytahdgaaedilcmaa.P
