/- Folded: GDoes, GDoesL, GDoesS, GDoesA. -/
import Derived.Test.YtkldaghhfnpcjaaGLike
import Derived.Deep.RegionHeld3
import Derived.Test.YtkldaghhfnpcjaaPxf39
/- does: one call on both trees. -/
namespace Go.Proofs.Ytkldaghhfnpcjaa.P
open Go.RowKit Go.Maps Go.Proofs.YtkldaghhfnpcjaaW.PrintWords Go.Proofs.YtkldaghhfnpcjaaW.PrintLast Go.Proofs.YtkldaghhfnpcjaaW.PrintMore Go.Proofs.Ytkldaghhfnpcjaa.Pl
set_option linter.unusedVariables false
variable {fr : Nat → Prop} {w0 : World}
set_option linter.unusedSimpArgs false
/-- both trees, and a box with a call, apart -/
def TwoB (fr : Nat → Prop) (w0 w : World) (b0 p r : Nat) (S S' : TS) (bx : Nat) (o : Array Value) : Prop :=
  ∃ ok ok2, TMem w b0 ok p S ∧ RMem w b0 ok2 r S' ∧ (∀ k, ok k → ¬ ok2 k) ∧ w.heap[bx]? = some (.cells o 28 (0, 0)) ∧ ¬ ok bx ∧ ¬ ok2 bx ∧ ∀ k, fr k → ¬ ok k ∧ ¬ ok2 k ∧ k < w.heap.size ∧ w.heap[k]? = w0.heap[k]?
section
variable {w w' : World} {b0 p r bx : Nat} {S S' : TS} {o : Array Value}
theorem TwoB.two (h : TwoB fr w0 w b0 p r S S bx o) : Two fr w0 w b0 p r S := by
  obtain ⟨ok, ok2, h1, h2, h3, _, _, _, h7⟩ := h
  exact ⟨ok, ok2, h1, h2, h3, h7⟩
theorem TwoB.below (h : TwoB fr w0 w b0 p r S S' bx o) (hb : Below w.heap.size w w') : TwoB fr w0 w' b0 p r S S' bx o := by
  obtain ⟨ok, ok2, h1, h2, h3, h4, h5, h6, h7⟩ := h
  exact ⟨ok, ok2, h1.below hb, h2.below hb, h3, blk_below h4 hb, h5, h6, fun k hk => ⟨(h7 k hk).1, (h7 k hk).2.1, Nat.lt_of_lt_of_le (h7 k hk).2.2.1 hb.size, (hb.block k (h7 k hk).2.2.1).trans (h7 k hk).2.2.2⟩⟩
theorem TwoB.did_t {S2 : TS} {ok : Nat → Prop} {ok2 : Nat → Prop} (h2 : RMem w b0 ok2 r S') (h3 : ∀ k, ok k → ¬ ok2 k) (h4 : w.heap[bx]? = some (.cells o 28 (0, 0))) (h5 : ¬ ok bx) (h6 : ¬ ok2 bx) (h7 : ∀ k, fr k → ¬ ok k ∧ ¬ ok2 k ∧ k < w.heap.size ∧ w.heap[k]? = w0.heap[k]?) (h1 : TMem w b0 ok p S) (hd : TDid w b0 ok p S2 w') : TwoB fr w0 w' b0 p r S2 S' bx o ∧ Below b0 w w' := by
  obtain ⟨ok', g1, g2, g3, _⟩ := hd
  have hlt := blk_lt h4
  refine ⟨⟨ok', ok2, g1, h2.keep g3 (fun k hk hk' => h3 k hk' hk), fun k hk hk2 => ?_, (g3.block bx hlt h5).trans h4, fun hk => ?_, h6, fun k hk => ?_⟩, g3.below (fun k hk => (h1.bound k hk).1) ?_⟩
  · rcases g2 k hk with hk | hk
    · exact h3 k hk hk2
    · have := (h2.bound k hk2).2; omega
  · rcases g2 bx hk with hk | hk
    · exact h5 hk
    · omega
  · obtain ⟨c1, c2, c3, c4⟩ := h7 k hk
    refine ⟨fun hk' => ?_, c2, Nat.lt_of_lt_of_le c3 g3.size, (g3.block k c3 c1).trans c4⟩
    rcases g2 k hk' with hk' | hk'
    · exact c1 hk'
    · omega
  · have := h1.bound p h1.own; omega
theorem TwoB.did_r {S2 : TS} {ok : Nat → Prop} {ok2 : Nat → Prop} (h1 : TMem w b0 ok p S) (h3 : ∀ k, ok k → ¬ ok2 k) (h4 : w.heap[bx]? = some (.cells o 28 (0, 0))) (h5 : ¬ ok bx) (h6 : ¬ ok2 bx) (h7 : ∀ k, fr k → ¬ ok k ∧ ¬ ok2 k ∧ k < w.heap.size ∧ w.heap[k]? = w0.heap[k]?) (h2 : RMem w b0 ok2 r S') (hd : RDid w b0 ok2 r S2 w') : TwoB fr w0 w' b0 p r S S2 bx o ∧ Below b0 w w' := by
  obtain ⟨ok', g1, g2, g3⟩ := hd
  have hlt := blk_lt h4
  refine ⟨⟨ok, ok', h1.keep g3 h3, g1, fun k hk hk2 => ?_, (g3.block bx hlt h6).trans h4, h5, fun hk => ?_, fun k hk => ?_⟩, g3.below (fun k hk => (h2.bound k hk).1) ?_⟩
  · rcases g2 k hk2 with hk2 | hk2
    · exact h3 k hk hk2
    · have := (h1.bound k hk).2; omega
  · rcases g2 bx hk with hk | hk
    · exact h6 hk
    · omega
  · obtain ⟨c1, c2, c3, c4⟩ := h7 k hk
    refine ⟨c1, fun hk' => ?_, Nat.lt_of_lt_of_le c3 g3.size, (g3.block k c3 c2).trans c4⟩
    rcases g2 k hk' with hk' | hk'
    · exact c2 hk'
    · omega
  · have := h2.bound r h2.own; omega
theorem TwoB.write_t (h : TwoB fr w0 w b0 p r S S' bx o) (a s : ByteArray) (ha : a.size ≤ maxLen) (hc : S.cs.length < 1000000) :
    Calls Try.prog 13 #[.pointer (some ⟨p, 0, none⟩), .string a, .string s] w fun e w' => e = .returned (.int .i64 (writeT S a s).2) ∧ TwoB fr w0 w' b0 p r (writeT S a s).1 S' bx o ∧ Below b0 w w' := by
  obtain ⟨ok, ok2, h1, h2, h3, h4, h5, h6, h7⟩ := h
  exact (twrite_calls h1 a s ha hc).mono fun e w' ⟨he, hd⟩ => ⟨he, TwoB.did_t h2 h3 h4 h5 h6 h7 h1 hd⟩
theorem TwoB.remove_t (h : TwoB fr w0 w b0 p r S S' bx o) (a : ByteArray) (ha : a.size ≤ maxLen) (hc : S.cs.length < 1000000) :
    Calls Try.prog 17 #[.pointer (some ⟨p, 0, none⟩), .string a] w fun e w' => e = .returned (.int .i64 (removeT S a).2) ∧ TwoB fr w0 w' b0 p r (removeT S a).1 S' bx o ∧ Below b0 w w' := by
  obtain ⟨ok, ok2, h1, h2, h3, h4, h5, h6, h7⟩ := h
  exact (tremove_calls h1 a ha hc).mono fun e w' ⟨he, hd⟩ => ⟨he, TwoB.did_t h2 h3 h4 h5 h6 h7 h1 hd⟩
theorem TwoB.write_r (h : TwoB fr w0 w b0 p r S S' bx o) (hg : TOk S') (hc : S'.cs.length < 1000000) (a s : ByteArray) :
    Calls Try.prog 35 #[.pointer (some ⟨r, 0, none⟩), .string a, .string s] w fun e w' => e = .returned (.int .i64 (writeT S' a s).2) ∧ TwoB fr w0 w' b0 p r S (writeT S' a s).1 bx o ∧ Below b0 w w' := by
  obtain ⟨ok, ok2, h1, h2, h3, h4, h5, h6, h7⟩ := h
  exact (rwrite_calls h2 hg.rise hg.few hc a s).mono fun e w' ⟨he, hd⟩ => ⟨he, TwoB.did_r h1 h3 h4 h5 h6 h7 h2 hd⟩
theorem TwoB.remove_r (h : TwoB fr w0 w b0 p r S S' bx o) (hg : TOk S') (hc : S'.cs.length < 1000000) (a : ByteArray) :
    Calls Try.prog 36 #[.pointer (some ⟨r, 0, none⟩), .string a] w fun e w' => e = .returned (.int .i64 (removeT S' a).2) ∧ TwoB fr w0 w' b0 p r S (removeT S' a).1 bx o ∧ Below b0 w w' := by
  obtain ⟨ok, ok2, h1, h2, h3, h4, h5, h6, h7⟩ := h
  exact (rremove_calls h2 hg.rise hg.few hc a).mono fun e w' ⟨he, hd⟩ => ⟨he, TwoB.did_r h1 h3 h4 h5 h6 h7 h2 hd⟩
theorem TwoB.made (h : Two fr w0 w b0 p r S) (o : Array Value) : TwoB fr w0 (w.alloc (.cells o 28)) b0 p r S S w.heap.size o := by
  obtain ⟨ok, ok2, h1, h2, h3, h7⟩ := h.t
  have hb := (Below.refl w.heap.size w).alloc (Nat.le_refl _) (.cells o 28)
  exact ⟨ok, ok2, h1.below hb, h2.below hb, h3, World.alloc_heap_new w _, fun hk => by have := (h1.bound _ hk).2; omega, fun hk => by have := (h2.bound _ hk).2; omega, fun k hk => ⟨(h7 k hk).1, (h7 k hk).2.1, Nat.lt_of_lt_of_le (h7 k hk).2.2.1 hb.size, (hb.block k (h7 k hk).2.2.1).trans (h7 k hk).2.2.2⟩⟩
theorem TwoB.cells {k n : Int} {a s : ByteArray} (h : TwoB fr w0 w b0 p r S S' bx #[.int .i64 k, .string a, .string s, .int .i64 n]) : w.cell? ⟨bx, 0, none⟩ = some (.int .i64 k) ∧ w.cell? ⟨bx, 1, none⟩ = some (.string a) ∧ w.cell? ⟨bx, 2, none⟩ = some (.string s) ∧ w.cell? ⟨bx, 3, none⟩ = some (.int .i64 n) := by
  obtain ⟨ok, ok2, h1, h2, h3, h4, _⟩ := h
  exact ⟨blk_cell h4 0, blk_cell h4 1, blk_cell h4 2, blk_cell h4 3⟩
end
/-- what a call makes of the trees -/
def stepT (S : TS) (k : Int) (a s : ByteArray) : TS := if k = 0 then (writeT S a s).1 else if k = 1 then (removeT S a).1 else S
set_option maxRecDepth 100000 in
set_option maxHeartbeats 4000000 in
theorem does_write {w : World} {b0 p r : Nat} {S : TS} (h : Two fr w0 w b0 p r S) (hg : TOk S) (hb0 : b0 ≤ w.heap.size) (hc : S.cs.length < 1000000) (a s : ByteArray) (n : Int) (ha : a.size ≤ maxLen) :
    Calls Try.prog 24 #[.pointer (some ⟨p, 0, none⟩), .pointer (some ⟨r, 0, none⟩), .agg #[.int .i64 0, .string a, .string s, .int .i64 n]] w fun e w' => e = .returned (.bool true) ∧ Two fr w0 w' b0 p r (writeT S a s).1 ∧ Below b0 w w' := by
  have hB := TwoB.made h #[.int .i64 0, .string a, .string s, .int .i64 n]
  obtain ⟨e0, e1, e2, e3⟩ := hB.cells
  have HB := Aside0.mk (And.intro hB ((Below.refl b0 w).alloc hb0 (.cells #[.int .i64 0, .string a, .string s, .int .i64 n] 28)))
  have hblt : w.heap.size < (w.alloc (.cells #[.int .i64 0, .string a, .string s, .int .i64 n] 28)).heap.size := by simp
  clear hB h
  go_enter Try.func24, Try.ntmps24
  go_wp2_with fail
  have hD := HB.out.1.below ((Below.refl _ _).drew)
  have bD := HB.out.2.drew
  go_region_held3 (fun W => W.cell? ⟨w.heap.size, 1, none⟩ = some (.string a) ∧ W.cell? ⟨w.heap.size, 2, none⟩ = some (.string s)) (first | exact ⟨hA.cells.2.1, hA.cells.2.2.1⟩ | exact ⟨hD.cells.2.1, hD.cells.2.2.1⟩) (first
    | (go_at_call 13; (first | refine (TwoB.write_t hA a s ha hc).mono ?_ | refine (TwoB.write_t hD a s ha hc).mono ?_); rintro e wA ⟨rfl, hA, bN⟩; (first | have bA := bA.trans bN | have bA := bD.trans bN); obtain ⟨e0A, e1A, e2A, e3A⟩ := hA.cells; clear bN)
    | (go_at_call 35; (first | refine (TwoB.write_r hA hg hc a s).mono ?_ | refine (TwoB.write_r hD hg hc a s).mono ?_); rintro e wA ⟨rfl, hA, bN⟩; (first | have bA := bA.trans bN | have bA := bD.trans bN); obtain ⟨e0A, e1A, e2A, e3A⟩ := hA.cells; clear bN))
  all_goals
    go_wp2_with fail
    go_ret
    exact ⟨rfl, hA.two, bA⟩
set_option maxRecDepth 100000 in
set_option maxHeartbeats 4000000 in
theorem does_remove {w : World} {b0 p r : Nat} {S : TS} (h : Two fr w0 w b0 p r S) (hg : TOk S) (hb0 : b0 ≤ w.heap.size) (hc : S.cs.length < 1000000) (a s : ByteArray) (n : Int) (ha : a.size ≤ maxLen) :
    Calls Try.prog 24 #[.pointer (some ⟨p, 0, none⟩), .pointer (some ⟨r, 0, none⟩), .agg #[.int .i64 1, .string a, .string s, .int .i64 n]] w fun e w' => e = .returned (.bool true) ∧ Two fr w0 w' b0 p r (removeT S a).1 ∧ Below b0 w w' := by
  have hB := TwoB.made h #[.int .i64 1, .string a, .string s, .int .i64 n]
  obtain ⟨e0, e1, e2, e3⟩ := hB.cells
  have HB := Aside0.mk (And.intro hB ((Below.refl b0 w).alloc hb0 (.cells #[.int .i64 1, .string a, .string s, .int .i64 n] 28)))
  have hblt : w.heap.size < (w.alloc (.cells #[.int .i64 1, .string a, .string s, .int .i64 n] 28)).heap.size := by simp
  clear hB h
  go_enter Try.func24, Try.ntmps24
  go_wp2_with fail
  have hD := HB.out.1.below ((Below.refl _ _).drew)
  have bD := HB.out.2.drew
  go_region_held3 (fun W => W.cell? ⟨w.heap.size, 1, none⟩ = some (.string a) ∧ W.cell? ⟨w.heap.size, 2, none⟩ = some (.string s)) (first | exact ⟨hA.cells.2.1, hA.cells.2.2.1⟩ | exact ⟨hD.cells.2.1, hD.cells.2.2.1⟩) (first
    | (go_at_call 17; (first | refine (TwoB.remove_t hA a ha hc).mono ?_ | refine (TwoB.remove_t hD a ha hc).mono ?_); rintro e wA ⟨rfl, hA, bN⟩; (first | have bA := bA.trans bN | have bA := bD.trans bN); obtain ⟨e0A, e1A, e2A, e3A⟩ := hA.cells; clear bN)
    | (go_at_call 36; (first | refine (TwoB.remove_r hA hg hc a).mono ?_ | refine (TwoB.remove_r hD hg hc a).mono ?_); rintro e wA ⟨rfl, hA, bN⟩; (first | have bA := bA.trans bN | have bA := bD.trans bN); obtain ⟨e0A, e1A, e2A, e3A⟩ := hA.cells; clear bN))
  all_goals
    go_wp2_with fail
    go_ret
    exact ⟨rfl, hA.two, bA⟩
set_option maxRecDepth 100000 in
set_option maxHeartbeats 4000000 in
theorem does_read {w : World} {b0 p r : Nat} {S : TS} (h : Two fr w0 w b0 p r S) (hg : TOk S) (hb0 : b0 ≤ w.heap.size) (hc : S.cs.length < 1000000) (a s : ByteArray) (n : Int) (ha : a.size ≤ maxLen) :
    Calls Try.prog 24 #[.pointer (some ⟨p, 0, none⟩), .pointer (some ⟨r, 0, none⟩), .agg #[.int .i64 2, .string a, .string s, .int .i64 n]] w fun e w' => e = .returned (.bool true) ∧ Two fr w0 w' b0 p r S ∧ Below b0 w w' := by
  have hB := TwoB.made h #[.int .i64 2, .string a, .string s, .int .i64 n]
  obtain ⟨e0, e1, e2, e3⟩ := hB.cells
  have HB := Aside0.mk (And.intro hB ((Below.refl b0 w).alloc hb0 (.cells #[.int .i64 2, .string a, .string s, .int .i64 n] 28)))
  have hblt : w.heap.size < (w.alloc (.cells #[.int .i64 2, .string a, .string s, .int .i64 n] 28)).heap.size := by simp
  clear hB h
  go_enter Try.func24, Try.ntmps24
  have H2 := Aside0.mk HB.out.1.two
  obtain ⟨ok, ok2, hM, hR, -⟩ := HB.out.1.two.t
  have h1 := tread_calls hM a ha
  obtain ⟨R, hRe⟩ : ∃ R, readT S a = R := ⟨_, rfl⟩
  rw [hRe] at h1
  have H3 := Aside0.mk (And.intro hM (And.intro hR hRe))
  clear hM hR hRe
  go_wp2_with fail
  refine h1.mono ?_
  rintro e w1 ⟨rfl, hd⟩
  have hb1 := hd.below
  clear hd h1
  have h2 := rread_calls (H3.out.2.1.below hb1) hg.rise hg.few a
  rw [H3.out.2.2] at h2
  have e1' := (hb1.cell (p := ⟨w.heap.size, 1, none⟩) hblt).trans e1
  have H4 := Aside0.mk hb1
  clear hb1
  go_wp2_with fail
  refine h2.mono ?_
  rintro e w2 ⟨rfl, hb2⟩
  have H5 := Aside0.mk (H4.out.trans (hb2.mono H4.out.size))
  clear h2 hb2
  have ce : (R.1.toList == R.1.toList) = true := beq_self_eq_true _
  go_wp2_with fail
  go_ret
  exact ⟨rfl, H2.out.below H5.out, HB.out.2.trans (H5.out.mono (by have := HB.out.2.size; omega))⟩
end Go.Proofs.Ytkldaghhfnpcjaa.P
/- does: List, Since. -/
namespace Go.Proofs.Ytkldaghhfnpcjaa.P
open Go.RowKit Go.Maps Go.Proofs.YtkldaghhfnpcjaaW.PrintWords Go.Proofs.YtkldaghhfnpcjaaW.PrintLast Go.Proofs.YtkldaghhfnpcjaaW.PrintMore Go.Proofs.Ytkldaghhfnpcjaa.Pl
set_option linter.unusedVariables false
variable {fr : Nat → Prop} {w0 : World}
set_option linter.unusedSimpArgs false
set_option maxRecDepth 100000 in
set_option maxHeartbeats 4000000 in
theorem does_list {w : World} {b0 p r : Nat} {S : TS} (h : Two fr w0 w b0 p r S) (hg : TOk S) (hb0 : b0 ≤ w.heap.size) (hc : S.cs.length < 1000000) (a s : ByteArray) (n : Int) (ha : a.size ≤ maxLen) :
    Calls Try.prog 24 #[.pointer (some ⟨p, 0, none⟩), .pointer (some ⟨r, 0, none⟩), .agg #[.int .i64 3, .string a, .string s, .int .i64 n]] w fun e w' => e = .returned (.bool true) ∧ Two fr w0 w' b0 p r S ∧ Below b0 w w' := by
  have hB := TwoB.made h #[.int .i64 3, .string a, .string s, .int .i64 n]
  obtain ⟨e0, e1, e2, e3⟩ := hB.cells
  have HB := Aside0.mk (And.intro hB ((Below.refl b0 w).alloc hb0 (.cells #[.int .i64 3, .string a, .string s, .int .i64 n] 28)))
  have hblt : w.heap.size < (w.alloc (.cells #[.int .i64 3, .string a, .string s, .int .i64 n] 28)).heap.size := by simp
  clear hB h
  go_enter Try.func24, Try.ntmps24
  have H2 := Aside0.mk HB.out.1.two
  obtain ⟨ok, ok2, hM, hR, -⟩ := HB.out.1.two.t
  have h1 := listed_tree hM a
  obtain ⟨R, hRe⟩ : ∃ R, listT S a = R := ⟨_, rfl⟩
  have hRl : R.length ≤ 1000000 := by rw [← hRe]; unfold listT; exact Nat.le_trans (List.length_filter_le _ _) (by rw [List.length_map]; have := hg.few; omega)
  rw [hRe] at h1
  have H3 := Aside0.mk (And.intro hM (And.intro hR hRe))
  clear hM hR hRe
  go_wp2_with fail
  refine h1.mono ?_
  rintro e w1 ⟨v1, rfl, hR1, hb1⟩
  clear h1
  have h2 := rlist_calls (H3.out.2.1.below hb1) hg.few a
  rw [H3.out.2.2] at h2
  have e1' := (hb1.cell (p := ⟨w.heap.size, 1, none⟩) hblt).trans e1
  obtain ⟨A1, c1, rfl⟩ := Kd.R_slice hR1
  have H4 := Aside0.mk (And.intro hR1 hb1)
  clear hb1 hR1
  go_wp2_with fail
  refine h2.mono ?_
  rintro e w2 ⟨v2, rfl, hR2, hb2⟩
  have H5 := Aside0.mk (H4.out.2.trans (hb2.mono H4.out.2.size))
  obtain ⟨A1', c1', ee, hc1, hC1⟩ := Kd.R_reads (Kd.R_below H4.out.1 hb2)
  injection ee with ee1 ee2 ee3
  subst ee1 ee3
  obtain ⟨A2, c2, rfl, hc2, hC2⟩ := Kd.R_reads hR2
  have htx := texts_calls hRl hC1 hc1 hC2 hc2
  clear h2 hb2 hR2 hC1 hC2 ee2
  go_wp2_with fail
  refine htx.mono ?_
  rintro e w3 ⟨rfl, ⟨n3, rfl⟩⟩
  clear htx
  have H6 := Aside0.mk (H5.out.trans ((pw_below_drewN (Below.refl _ w2) n3).mono H5.out.size))
  go_wp2_with fail
  go_ret
  exact ⟨rfl, H2.out.below H6.out, HB.out.2.trans (H6.out.mono (by have := HB.out.2.size; omega))⟩
end Go.Proofs.Ytkldaghhfnpcjaa.P
/- does: Since. -/
namespace Go.Proofs.Ytkldaghhfnpcjaa.P
open Go.RowKit Go.Maps Go.Proofs.YtkldaghhfnpcjaaW.PrintWords Go.Proofs.YtkldaghhfnpcjaaW.PrintLast Go.Proofs.YtkldaghhfnpcjaaW.PrintMore Go.Proofs.Ytkldaghhfnpcjaa.Pl
set_option linter.unusedVariables false
variable {fr : Nat → Prop} {w0 : World}
set_option linter.unusedSimpArgs false
set_option maxRecDepth 100000 in
set_option maxHeartbeats 4000000 in
theorem does_since {w : World} {b0 p r : Nat} {S : TS} (h : Two fr w0 w b0 p r S) (hg : TOk S) (hb0 : b0 ≤ w.heap.size) (hc : S.cs.length < 1000000) (a s : ByteArray) (kd n : Int) (hk : kd ≠ 0 ∧ kd ≠ 1 ∧ kd ≠ 2 ∧ kd ≠ 3) (ha : a.size ≤ maxLen) :
    Calls Try.prog 24 #[.pointer (some ⟨p, 0, none⟩), .pointer (some ⟨r, 0, none⟩), .agg #[.int .i64 kd, .string a, .string s, .int .i64 n]] w fun e w' => e = .returned (.bool true) ∧ Two fr w0 w' b0 p r S ∧ Below b0 w w' := by
  have hB := TwoB.made h #[.int .i64 kd, .string a, .string s, .int .i64 n]
  obtain ⟨e0, e1, e2, e3⟩ := hB.cells
  have HB := Aside0.mk (And.intro hB ((Below.refl b0 w).alloc hb0 (.cells #[.int .i64 kd, .string a, .string s, .int .i64 n] 28)))
  have hblt : w.heap.size < (w.alloc (.cells #[.int .i64 kd, .string a, .string s, .int .i64 n] 28)).heap.size := by simp
  clear hB h
  have k0 : (kd == 0) = false := beq_eq_false_iff_ne.mpr hk.1
  have k1 : (kd == 1) = false := beq_eq_false_iff_ne.mpr hk.2.1
  have k2 : (kd == 2) = false := beq_eq_false_iff_ne.mpr hk.2.2.1
  have k3 : (kd == 3) = false := beq_eq_false_iff_ne.mpr hk.2.2.2
  obtain ⟨m, hm⟩ : ∃ m : Int, brickyardlaw10_since.f kd a s n (S.cs.length : Int) = some m := by
    unfold brickyardlaw10_since.f
    split
    · exact ⟨_, rfl⟩
    · exact ⟨_, rfl⟩
  have H2 := Aside0.mk HB.out.1.two
  have hD := HB.out.1.below ((Below.refl _ _).drew)
  obtain ⟨ok, ok2, hM, hR, -⟩ := HB.out.1.two.t
  obtain ⟨_, _, A', c', _, _, _, x1, _, _⟩ := hR.cells
  have hsn := fun W => brickyardlaw10_since.calls kd a s n (S.cs.length : Int) m W hm
  have hrlt := (hR.bound r hR.own).2
  have H3 := Aside0.mk (And.intro hM hR)
  clear hM hR hm hk
  go_enter Try.func24, Try.ntmps24
  go_wp2_with fail
  go_region_held3 (fun W => W.cell? ⟨w.heap.size, 0, none⟩ = some (.int .i64 kd) ∧ W.cell? ⟨w.heap.size, 1, none⟩ = some (.string a) ∧ W.cell? ⟨w.heap.size, 2, none⟩ = some (.string s) ∧ W.cell? ⟨w.heap.size, 3, none⟩ = some (.int .i64 n) ∧ W.cell? ⟨r, 1, none⟩ = some (.slice A' S.cs.length c')) (first | exact ⟨e0, e1, e2, e3, x1⟩ | exact ⟨(hN.cell (p := ⟨w.heap.size, 0, none⟩) hblt).trans e0, (hN.cell (p := ⟨w.heap.size, 1, none⟩) hblt).trans e1, (hN.cell (p := ⟨w.heap.size, 2, none⟩) hblt).trans e2, (hN.cell (p := ⟨w.heap.size, 3, none⟩) hblt).trans e3, (hN.cell (p := ⟨r, 1, none⟩) hrlt).trans x1⟩) (first
    | (go_at_call 39; refine (hsn _).mono ?_; rintro e wA ⟨rfl, hN⟩))
  have hbA := ((Below.refl _ (w.alloc (.cells #[.int .i64 kd, .string a, .string s, .int .i64 n] 28))).drew).trans hN
  have hsT := since_calls (H3.out.1.below hbA) m
  obtain ⟨R, hRr⟩ : ∃ R, sinceT S m = R := ⟨_, rfl⟩
  have hRl : R.1.length ≤ 1000000 := by
    rw [← hRr]; unfold sinceT
    split
    · exact Nat.le_trans (srt_len _) (by rw [List.length_drop]; omega)
    · simp
  rw [hRr] at hsT
  have HRr := Aside0.mk hRr
  have HA := Aside0.mk hbA
  clear hRr hbA hN hsn
  go_wp2_with fail
  refine hsT.mono ?_
  rintro e w3 ⟨v3, rfl, hR3, hb3⟩
  clear hsT
  have hb3' := HA.out.trans (hb3.mono HA.out.size)
  have hrs := rsince_calls (H3.out.2.below hb3') (by omega) m
  rw [HRr.out] at hrs
  have H4 := Aside0.mk (And.intro hR3 hb3')
  clear hR3 hb3 hb3'
  go_wp2_with fail
  refine hrs.mono ?_
  rintro e w4 ⟨v4, rfl, hR4, hb4⟩
  clear hrs
  have hR3 := Kd.R_below H4.out.1 hb4
  obtain ⟨A3, c3, rfl, hc3, hC3⟩ := Kd.R_reads hR3
  obtain ⟨A4, c4, rfl, hc4, hC4⟩ := Kd.R_reads hR4
  have htx := texts_calls hRl hC3 hc3 hC4 hc4
  have H5 := Aside0.mk (H4.out.2.trans (hb4.mono H4.out.2.size))
  clear hR3 hR4 hb4 hC3 hC4
  cases hR2 : R.2
  all_goals
    go_wp2_with fail
    refine htx.mono ?_
    rintro e w5 ⟨rfl, ⟨n5, rfl⟩⟩
    clear htx
    have H6 := Aside0.mk (H5.out.trans ((pw_below_drewN (Below.refl _ w4) n5).mono H5.out.size))
    go_wp2_with fail
    go_ret
    exact ⟨rfl, H2.out.below H6.out, HB.out.2.trans (H6.out.mono (by first | (have := HB.out.2.size; omega) | (simp; omega) | (show b0 ≤ (w.alloc _).heap.size; simp; omega)))⟩
end Go.Proofs.Ytkldaghhfnpcjaa.P
/- does: any call on both trees. -/
namespace Go.Proofs.Ytkldaghhfnpcjaa.P
open Go.RowKit Go.Maps Go.Proofs.YtkldaghhfnpcjaaW.PrintWords Go.Proofs.YtkldaghhfnpcjaaW.PrintLast Go.Proofs.YtkldaghhfnpcjaaW.PrintMore Go.Proofs.Ytkldaghhfnpcjaa.Pl
set_option linter.unusedVariables false
variable {fr : Nat → Prop} {w0 : World}
theorem does_calls {w : World} {b0 p r : Nat} {S : TS} (h : Two fr w0 w b0 p r S) (hg : TOk S) (hb0 : b0 ≤ w.heap.size) (hc : S.cs.length < 1000000) (kd : Int) (a s : ByteArray) (n : Int) (ha : a.size ≤ maxLen) :
    Calls Try.prog 24 #[.pointer (some ⟨p, 0, none⟩), .pointer (some ⟨r, 0, none⟩), .agg #[.int .i64 kd, .string a, .string s, .int .i64 n]] w fun e w' => e = .returned (.bool true) ∧ Two fr w0 w' b0 p r (stepT S kd a s) ∧ Below b0 w w' := by
  unfold stepT
  by_cases h0 : kd = 0
  · subst h0
    rw [if_pos rfl]
    exact does_write h hg hb0 hc a s n ha
  rw [if_neg h0]
  by_cases h1 : kd = 1
  · subst h1
    rw [if_pos rfl]
    exact does_remove h hg hb0 hc a s n ha
  rw [if_neg h1]
  by_cases h2 : kd = 2
  · subst h2
    exact does_read h hg hb0 hc a s n ha
  by_cases h3 : kd = 3
  · subst h3
    exact does_list h hg hb0 hc a s n ha
  exact does_since h hg hb0 hc a s kd n ⟨h0, h1, h2, h3⟩ ha
theorem TOk.step {S : TS} (h : TOk S) (kd : Int) (a s : ByteArray) : TOk (stepT S kd a s) := by
  unfold stepT
  by_cases h0 : kd = 0
  · rw [if_pos h0]; exact h.write a s
  rw [if_neg h0]
  by_cases h1 : kd = 1
  · rw [if_pos h1]; exact h.remove a
  rw [if_neg h1]
  exact h
theorem step_len (S : TS) (kd : Int) (a s : ByteArray) : (stepT S kd a s).cs.length ≤ S.cs.length + 1 := by
  unfold stepT writeT removeT
  repeat' split
  all_goals simp
theorem two_new {w : World} {p r : Nat} {b0 : Nat} (h1 : ∃ ok, TMem w b0 ok p ⟨[], []⟩ ∧ ∀ k, ok k → k < r) (hr : w.heap[r]? = some (.cells #[.slice none 0 0, .slice none 0 0] 54 (0, 0))) (hb : b0 ≤ r) : Two (fun _ => False) w0 w b0 p r ⟨[], []⟩ := by
  obtain ⟨ok, hM, hlt⟩ := h1
  refine ⟨ok, (· = r), hM, ⟨⟨_, _, hr, Kd.R_nil _ _ _ _ _, Kd.R_nil _ _ _ _ _⟩, rfl, fun k hk => ?_⟩, fun k hk he => by have := hlt k hk; omega, fun k hk => hk.elim⟩
  subst hk
  exact ⟨hb, blk_lt hr⟩
end Go.Proofs.Ytkldaghhfnpcjaa.P
