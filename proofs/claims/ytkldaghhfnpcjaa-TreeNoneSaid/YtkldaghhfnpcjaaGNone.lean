/- A tree that is not there; the one answer that is fixed. -/
import Derived.Test.YtkldaghhfnpcjaaGTreeW
import Derived.Test.YtkldaghhfnpcjaaGListed
namespace Go.Proofs.Ytkldaghhfnpcjaa.P
open Go.RowKit Go.Maps Go.Proofs.YtkldaghhfnpcjaaW.PrintWords Go.Proofs.YtkldaghhfnpcjaaW.PrintLast Go.Proofs.YtkldaghhfnpcjaaW.PrintMore Go.Proofs.Ytkldaghhfnpcjaa.Pl
set_option linter.unusedVariables false
set_option linter.unusedSimpArgs false
deriving instance DecidableEq for TS
theorem read_none (a : ByteArray) (w : World) : Calls Try.prog 22 #[.pointer none, .string a] w fun e w' => e = .returned (.tuple #[.string ⟨#[]⟩, .int .i64 1]) ∧ w' = w := by
  go_enter Try.func22, Try.ntmps22
  go_wp2_with fail
  go_ret2
  exact ⟨rfl, rfl⟩
theorem write_none (a s : ByteArray) (w : World) : Calls Try.prog 13 #[.pointer none, .string a, .string s] w fun e w' => e = .returned (.int .i64 1) ∧ w' = w := by
  go_enter Try.func13, Try.ntmps13
  go_wp2_with fail
  go_ret
  exact ⟨rfl, rfl⟩
theorem remove_none (a : ByteArray) (w : World) : Calls Try.prog 17 #[.pointer none, .string a] w fun e w' => e = .returned (.int .i64 1) ∧ w' = w := by
  go_enter Try.func17, Try.ntmps17
  go_wp2_with fail
  refine (read_none a w).mono ?_
  rintro e w1 ⟨rfl, rfl⟩
  go_wp2_with fail
  go_ret
  exact ⟨rfl, rfl⟩
theorem len_none (w : World) : Calls Try.prog 16 #[.pointer none] w fun e w' => e = .returned (.int .i64 0) ∧ w' = w := by
  go_enter Try.func16, Try.ntmps16
  go_wp2_with fail
  go_ret
  exact ⟨rfl, rfl⟩
theorem mark_none (w : World) : Calls Try.prog 20 #[.pointer none] w fun e w' => e = .returned (.int .i64 0) ∧ w' = w := by
  go_enter Try.func20, Try.ntmps20
  go_wp2_with fail
  go_ret
  exact ⟨rfl, rfl⟩
theorem copy_none (w : World) : Calls Try.prog 19 #[.pointer none] w fun e w' => e = .returned (.pointer none) ∧ w' = w := by
  go_enter Try.func19, Try.ntmps19
  go_wp2_with fail
  go_ret
  exact ⟨rfl, rfl⟩
theorem since_none (n : Int) (w : World) : Calls Try.prog 25 #[.pointer none, .int .i64 n] w fun e w' => e = .returned (.tuple #[.slice none 0 0, .bool false]) ∧ w' = w := by
  go_enter Try.func25, Try.ntmps25
  go_wp2_with fail
  go_ret2
  exact ⟨rfl, rfl⟩
set_option maxRecDepth 100000 in
set_option maxHeartbeats 1000000 in
theorem list_none (a : ByteArray) (w : World) : Calls Try.prog 15 #[.pointer none, .string a] w (Lists w []) := by
  have hsl := fun (W : World) => sort_calls (w := W) (base := w.heap.size) (ok := fun _ => True) (Kd.R_nil Kd.string 9 W w.heap.size (fun _ => True)) (by decide)
  go_enter Try.func15, Try.ntmps15
  go_wp2_with fail
  refine (hsl _).mono ?_
  rintro e w2 ⟨rfl, hR, hg⟩
  rw [show msrt [] = [] by simp [msrt]] at hR
  clear hsl
  go_wp2_with fail
  refine (values_calls _ _ _ _).mono ?_
  rintro e w3 ⟨rfl, rfl⟩
  go_wp2_with fail
  go_ret
  have hB := pw_below_grown (Below.refl w.heap.size w) _ (Nat.le_refl _) hg (fun k hk => by cases hk)
  exact ⟨w2.heap.size, _, rfl, blk_new w2 _, hB.size, Kd.R_nil _ _ _ _ _, hB.alloc hB.size _⟩
theorem listed_none (a : ByteArray) (w : World) : Calls Try.prog 14 #[.pointer none, .string a] w (Listed w []) :=
  listed_calls (by simp) (fun W _ => list_none a W) (.inl rfl)
theorem listed_tree {w : World} {base p : Nat} {ok : Nat → Prop} {S : TS} (h : TMem w base ok p S) (a : ByteArray) : Calls Try.prog 14 #[.pointer (some ⟨p, 0, none⟩), .string a] w (Listed w (listT S a)) :=
  listed_calls (Nat.le_trans (by unfold listT; exact Nat.le_trans (List.length_filter_le _ _) (by simp)) h.good.few) (fun W hW => tlist_calls (h.below hW) a) (.inr ⟨p, rfl⟩)
set_option maxRecDepth 100000 in
set_option maxHeartbeats 2000000 in
theorem works_calls (w : World) : Calls Try.prog 10 #[] w fun e w' => e = .returned (.bool true) ∧ Below w.heap.size w w' := by
  have hnf := fun (W : World) fn first cap => run_eql_func_nil (P := Try.prog) W 35 Try.underlying35 fn first cap
  have hw1 : writeT ⟨[], []⟩ ⟨#[97]⟩ ⟨#[120]⟩ = (⟨[(⟨#[97]⟩, ⟨#[120]⟩)], [⟨#[97]⟩]⟩, 0) := by decide +kernel
  have hr1 : readT ⟨[(⟨#[97]⟩, ⟨#[120]⟩)], [⟨#[97]⟩]⟩ ⟨#[97]⟩ = (⟨#[120]⟩, 0) := by decide +kernel
  go_enter Try.func10, Try.ntmps10
  go_wp2_with fail
  refine (tnew_calls w).mono ?_
  rintro e w1 ⟨rfl, hM, hB⟩
  have hwr := twrite_calls hM ⟨#[97]⟩ ⟨#[120]⟩ (by decide) (by decide)
  rw [hw1] at hwr
  have H1 := Aside0.mk (And.intro hM hB)
  clear hM hB hw1
  go_wp2_with fail
  refine hwr.mono ?_
  rintro e w2 ⟨rfl, ok2, hM2, hk2, hT2⟩
  have hB2 := H1.out.2.trans (hT2.below (base := w.heap.size) (fun k hk => (H1.out.1.bound k hk).1) H1.out.2.size)
  have hls := tlist_calls hM2 ⟨#[]⟩
  have H2 := Aside0.mk (And.intro hM2 hB2)
  clear hwr hM2 hk2 hT2 hB2
  go_wp2_with fail
  refine hls.mono ?_
  rintro e w3 ⟨b, v, rfl, _, _, _, hB3⟩
  have hM3 := H2.out.1.below hB3
  have hB3 := H2.out.2.trans (hB3.mono H2.out.2.size)
  have hrd := tread_calls hM3 ⟨#[97]⟩ (by decide)
  rw [hr1] at hrd
  have H3 := Aside0.mk (And.intro hM3 hB3)
  clear hls hM3 hB3 hr1
  go_wp2_with fail
  refine hrd.mono ?_
  rintro e w4 ⟨rfl, hd⟩
  have hB4 := H3.out.2.trans (hd.below.mono H3.out.2.size)
  have hmk := tmark_calls (H3.out.1.below hd.below)
  have H4 := Aside0.mk hB4
  clear hrd hB4 hd
  go_wp2_with fail
  refine hmk.mono ?_
  rintro e w5 ⟨rfl, rfl⟩
  clear hmk
  go_wp2_with fail
  go_ret
  exact ⟨rfl, H4.out⟩
end Go.Proofs.Ytkldaghhfnpcjaa.P
