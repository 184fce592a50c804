/- Folded: GCopy, GTwin. -/
import Derived.Test.YtkldaghhfnpcjaaGNone
import Derived.Shelf.SlMaps.Clone
import Derived.Deep.MidRow
import Derived.Deep.RegionHeld3
import Derived.RangeFuncBox
import Derived.Test.YtkldaghhfnpcjaaGLike
/- The source tree: Copy. -/
namespace Go.Proofs.Ytkldaghhfnpcjaa.P
open Go.RowKit Go.Maps Go.Proofs.YtkldaghhfnpcjaaW.PrintWords Go.Proofs.YtkldaghhfnpcjaaW.PrintLast Go.Proofs.YtkldaghhfnpcjaaW.PrintMore Go.Proofs.Ytkldaghhfnpcjaa.Pl
set_option linter.unusedVariables false
set_option linter.unusedSimpArgs false
set_option maxRecDepth 100000 in
set_option maxHeartbeats 1000000 in
theorem clone_calls (b : Nat) (es : Array MapEntry) (clock : Nat) (w : World) (hb : w.heap[b]? = some (.map es clock)) :
    Calls Try.prog 31 #[.map (some b)] w fun e w' => e = .returned (.map (some w.heap.size)) ∧ w' = w.alloc (.map es clock) := by
  have hq := fun w => run_eql_map_nil_sl (P := Try.prog) w 48 _ _ (some b) Try.underlying48
  go_enter Try.func31, Try.ntmps31
  go_wp2
  rw [run_callFunc_extern Try.func45 (by kernel_rfl) (by kernel_rfl) (by kernel_rfl) (e := Extern.MapsClone.clone) (by kernel_rfl), run_maps_clone_sl w 48 hb]
  simp only [Result.andThen]
  rw [Oper.upon_value]
  go_wp2
  rw [run_typeAssert_map_sl _ 48 20 _ _ _ Try.underlying48]
  simp only [Result.andThen]
  rw [Oper.upon_value]
  go_wp2
  go_ret
  exact ⟨rfl, rfl⟩
set_option maxHeartbeats 1000000 in
theorem clone_nil_calls (w : World) : Calls Try.prog 31 #[.map none] w fun e w' => e = .returned (.map none) ∧ w' = w := by
  have hq := fun w => run_eql_map_nil_sl (P := Try.prog) w 48 _ _ none Try.underlying48
  go_enter Try.func31, Try.ntmps31
  go_wp2
  go_ret
  exact ⟨rfl, rfl⟩
theorem copied0 {w W3 : World} {S : TS} {X : Array Value} (hX : X = treeCells S.cs none) (h3 : W3.heap[w.heap.size]? = some (.cells X 50 (0, 0))) (hs : W3.heap.size = w.heap.size + 1) (hS : TOk S) (hc : S.cs.length ≤ 1000000) (hf : S.fs = []) : TMem W3 w.heap.size (· = w.heap.size) w.heap.size S :=
  ⟨⟨none, by rw [← hX]; exact h3, .inl ⟨rfl, hf⟩⟩, rfl, fun k hk => ⟨Nat.le_of_eq hk.symm, by omega⟩, hS, hc⟩
theorem blk_new2 (w : World) (o : Obj) (X : Array Value) (t : TypeId) : ((w.alloc o).alloc (.cells X t)).heap[w.heap.size + 1]? = some (.cells X t (0, 0)) := by
  have := World.alloc_heap_new (w.alloc o) (.cells X t)
  rwa [World.size_alloc] at this
theorem blk_new1 (w : World) (o o2 : Obj) : ((w.alloc o).alloc o2).heap[w.heap.size]? = some o :=
  (Below.heap_alloc _ _ _ (by simp)).trans (World.alloc_heap_new w o)
theorem copied1 {w W3 : World} {b : Nat} {S : TS} {X : Array Value} (hX : X = treeCells S.cs (some w.heap.size)) (h3 : W3.heap[w.heap.size + 1]? = some (.cells X 50 (0, 0))) (hs : W3.heap.size = w.heap.size + 2) (hS : TOk S) (hc : S.cs.length ≤ 1000000)
    (hM : MapV w b S.fs.length (fV S.fs)) {es : Array MapEntry} {clock : Nat} (hbm : w.heap[b]? = some (.map es clock)) (h2 : W3.heap[w.heap.size]? = some (.map es clock)) : TMem W3 w.heap.size (fun k => k = w.heap.size ∨ k = w.heap.size + 1) (w.heap.size + 1) S := by
  refine ⟨⟨some w.heap.size, by rw [← hX]; exact h3, .inr ⟨_, rfl, by omega, .inl rfl, ?_⟩⟩, .inr rfl, fun k hk => ⟨by omega, by omega⟩, hS, hc⟩
  obtain ⟨D, ⟨es', clock', h4, h5⟩, ha⟩ := hM
  rw [hbm] at h4
  injection h4 with h4
  injection h4 with h4 h6
  subst h4 h6
  exact ⟨D, ⟨es, clock, h2, h5⟩, ha⟩
theorem exec_build {P : Program} {ρ : Operand → Value} {o : Oper} {t : TypeId} {x y : Operand} {w : World} {v : Value} {vs : Value × Value} (ho : o.op = .build t #[(0, x), (1, y)]) (hv : (ρ x, ρ y) = vs) (h : (Instr.build t #[(0, vs.1), (1, vs.2)]).run P w = .ok v w) :
    (execOp ρ o).run P w = .ok (Next.value v) w := by
  subst hv
  simp only [execOp, ho]
  have e : (#[((0 : Nat), x), (1, y)] : Array (Nat × Operand)).map (fun p => (p.1, ρ p.2)) = #[(0, ρ x), (1, ρ y)] := by simp
  have e2 : (#[((0 : Nat), x), (1, y)] : Array (Nat × Operand)).map (fun (i, x) => (i, ρ x)) = #[(0, ρ x), (1, ρ y)] := by simp
  simp only [e2, Sem.run_bind]
  rw [h]
  rfl
theorem fold_at : ∀ (js pre mid post : List Value), mid.length = js.length → (js.zipIdx pre.length).foldl (fun cs x => cs.setIfInBounds (0 + x.2) x.1) (pre ++ mid ++ post).toArray = (pre ++ js ++ post).toArray
  | [], pre, mid, post, h => by
    have : mid = [] := List.eq_nil_of_length_eq_zero h
    subst this
    rfl
  | j :: js, pre, [], post, h => by cases h
  | j :: js, pre, x :: mid, post, h => by
    rw [List.zipIdx_cons, List.foldl_cons]
    have e : (pre ++ x :: mid ++ post).toArray.setIfInBounds (0 + pre.length) j = ((pre ++ [j]) ++ mid ++ post).toArray := by
      rw [List.setIfInBounds_toArray, Nat.zero_add]
      congr 1
      simp
    have ih := fold_at js (pre ++ [j]) mid post (by simpa using h)
    rw [List.length_append, List.length_singleton] at ih
    show List.foldl _ ((pre ++ x :: mid ++ post).toArray.setIfInBounds (0 + pre.length) j) _ = _
    rw [e, ih]
    simp
theorem built_fill (parts : List (Nat × Value)) : Try.prog.built 50 parts = Instr.fill (#[((0 : Nat), (33 : Nat)), (33, 1)][·]?) (treeCells [] none) parts := by kernel_rfl
theorem built_at (js : List Value) (hjs : js.length = 33) (m : Option Nat) : Try.prog.built 50 [(0, .agg js.toArray), (1, .map m)] = some (js ++ [Value.map m]).toArray := by
  rw [built_fill]
  have e0 : treeCells [] none = ([] ++ (List.replicate 33 (Value.string ⟨#[]⟩)).set 32 (.int .i64 0) ++ [Value.map none]).toArray := by kernel_rfl
  have h1 := fold_at js [] ((List.replicate 33 (Value.string ⟨#[]⟩)).set 32 (.int .i64 0)) [Value.map none] (by simp [hjs])
  unfold Instr.fill
  show (if (decide ((Value.agg js.toArray).cells.size ≠ 33) || decide (0 + (Value.agg js.toArray).cells.size > (treeCells [] none).size)) = true then none else _) = _
  have c1 : (Value.agg js.toArray).cells = js.toArray := rfl
  rw [if_neg (by rw [c1, e0]; simp [hjs]), c1, e0]
  refine Eq.trans (congrArg (fun z => Instr.fill (fun x => #[((0 : Nat), (33 : Nat)), (33, 1)][x]?) z [(1, Value.map m)]) (?_ : _ = ([] ++ js ++ [Value.map none]).toArray)) ?_
  · rw [← h1]
    simp
  unfold Instr.fill
  show (if (decide ((Value.map m).cells.size ≠ 1) || decide (33 + (Value.map m).cells.size > ([] ++ js ++ [Value.map none]).toArray.size)) = true then none else _) = _
  have c2 : (Value.map m).cells = #[Value.map m] := rfl
  rw [if_neg (by rw [c2]; simp [hjs]), c2]
  unfold Instr.fill
  congr 1
  simp [hjs, List.set_append_right]
/-- what the copy reads -/
def CAt (p : Nat) (js : List Value) (m : Option Nat) (W : World) : Prop := W.rangeAt p 0 js ∧ W.cell? ⟨p, 33, none⟩ = some (.map m)
set_option maxRecDepth 100000 in
set_option maxHeartbeats 2000000 in
theorem copy_core {w W1 : World} {p : Nat} {js : List Value} {m m' : Option Nat} (hjs : js.length = 33) (hcl : Calls Try.prog 31 #[Value.map m] w.drew fun e w' => e = .returned (.map m') ∧ w' = W1)
    (h0 : CAt p js m w.drew) (h1 : CAt p js m W1) (h2 : ∀ o, CAt p js m (W1.alloc o)) :
    Calls Try.prog 19 #[.pointer (some ⟨p, 0, none⟩)] w fun e w' => e = .returned (.pointer (some ⟨W1.heap.size, 0, none⟩)) ∧ w' = W1.alloc (.cells (js ++ [Value.map m']).toArray 50) := by
  have hbl := fun (W : World) => run_build (P := Try.prog) W 50 #[(0, .agg js.toArray), (1, .map m')] _ (built_at js hjs m')
  have hu : ∃ d, Try.prog.underlying 47 = some d ∧ d.isRow = true := ⟨_, Try.underlying47, rfl⟩
  have hi : (Try.prog.info? 47).map (·.size) = some js.length := by rw [hjs]; kernel_rfl
  have H := Aside0.mk (And.intro hu (And.intro hi (And.intro h0 (And.intro h1 h2))))
  clear hu hi h0 h1 h2 hjs
  go_enter Try.func19, Try.ntmps19
  go_wp2_with fail
  refine wp_region_held_drew (S := CAt p js m) (by kernel_rfl) H.out.2.2.1 (fun hHeld => ?_)
  refine wpAnyH_take (i := 0) (v := ?_) rfl (by kernel_rfl) (by kernel_rfl) (by kernel_rfl) (fun _ _ _ h => h) (Or.inl ⟨by rfl, ?_⟩) (by assumption) ?_
  rotate_left
  · intro w hSw
    go_simp
    try with_reducible rfl
  try simp only [Act.put, List.setIfInBounds_toArray, List.set_cons_zero, List.set_cons_succ, List.getElem_toArray, List.getElem_cons_succ, List.getElem_cons_zero]
  refine wpAnyH_take (i := 1) (v := ?_) rfl (by kernel_rfl) (by kernel_rfl) (by kernel_rfl) (fun _ _ _ h => h) (Or.inl ⟨by rfl, ?_⟩) (by assumption) ?_
  rotate_left
  · intro w hSw
    go_simp
    try with_reducible rfl
  try simp only [Act.put, List.setIfInBounds_toArray, List.set_cons_zero, List.set_cons_succ, List.getElem_toArray, List.getElem_cons_succ, List.getElem_cons_zero]
  refine wpAnyH_take (i := 2) (v := ?_) rfl (by kernel_rfl) (by kernel_rfl) (by kernel_rfl) (fun _ _ _ h => h) (Or.inl ⟨by rfl, ?_⟩) (by assumption) ?_
  rotate_left
  · intro w hSw
    go_simp
    try with_reducible rfl
  try simp only [Act.put, List.setIfInBounds_toArray, List.set_cons_zero, List.set_cons_succ, List.getElem_toArray, List.getElem_cons_succ, List.getElem_cons_zero]
  obtain ⟨d, hu, hd⟩ := H.out.1
  refine wpAnyH_take (i := 3) (v := .agg js.toArray) rfl (by kernel_rfl) (by kernel_rfl) (by kernel_rfl) (fun _ _ _ h => h) (yieldsIf_load_mid (by rfl) 47 _ rfl p 0 rfl js d (fun _ h => h.1) hu hd H.out.2.1) (by assumption) ?_
  clear hu hd
  try simp only [Act.put, List.setIfInBounds_toArray, List.set_cons_zero, List.set_cons_succ, List.getElem_toArray, List.getElem_cons_succ, List.getElem_cons_zero]
  refine wpAnyH_take (i := 4) (v := ?_) rfl (by kernel_rfl) (by kernel_rfl) (by kernel_rfl) (fun _ _ _ h => h) (Or.inl ⟨by rfl, ?_⟩) (by assumption) ?_
  rotate_left
  · intro w hSw
    go_simp
    try with_reducible rfl
  try simp only [Act.put, List.setIfInBounds_toArray, List.set_cons_zero, List.set_cons_succ, List.getElem_toArray, List.getElem_cons_succ, List.getElem_cons_zero]
  refine wpAnyH_take (i := 5) (v := ?_) rfl (by kernel_rfl) (by kernel_rfl) (by kernel_rfl) (fun _ _ _ h => h) (Or.inl ⟨by rfl, ?_⟩) (by assumption) ?_
  rotate_left
  · intro w hSw
    go_simp
    try with_reducible rfl
  try simp only [Act.put, List.setIfInBounds_toArray, List.set_cons_zero, List.set_cons_succ, List.getElem_toArray, List.getElem_cons_succ, List.getElem_cons_zero]
  refine wpAnyH_take (i := 6) (v := ?_) rfl (by kernel_rfl) (by kernel_rfl) (by kernel_rfl) (fun _ _ _ h => h) (Or.inl ⟨by rfl, ?_⟩) (by assumption) ?_
  rotate_left
  · intro w hSw
    go_simp
    try with_reducible rfl
  try simp only [Act.put, List.setIfInBounds_toArray, List.set_cons_zero, List.set_cons_succ, List.getElem_toArray, List.getElem_cons_succ, List.getElem_cons_zero]
  refine wpAnyH_take (i := 7) (v := ?_) rfl (by kernel_rfl) (by kernel_rfl) (by kernel_rfl) (fun _ _ _ h => h) (Or.inl ⟨by rfl, ?_⟩) (by assumption) ?_
  rotate_left
  · intro w hSw
    have hSc := hSw.2
    clear hSw
    go_simp
    try with_reducible rfl
  try simp only [Act.put, List.setIfInBounds_toArray, List.set_cons_zero, List.set_cons_succ, List.getElem_toArray, List.getElem_cons_succ, List.getElem_cons_zero]
  refine wpAnyH_ready (rs := [8]) (by kernel_rfl) (by simp) ?_
  refine AllReadyH.cons rfl (fun K hK => ?_) AllReadyH.nil
  go_simp
  refine hcl.mono ?_
  rintro e w1 ⟨rfl, rfl⟩
  go_wp2_with fail
  refine hK.out _ _ H.out.2.2.2.1 (fun hHeld => ?_)
  clear hK K
  try simp only [Act.put, List.setIfInBounds_toArray, List.set_cons_zero, List.set_cons_succ, List.getElem_toArray, List.getElem_cons_succ, List.getElem_cons_zero]
  refine wpAnyH_take (i := 9) (v := .agg (js ++ [Value.map m']).toArray) rfl (by kernel_rfl) (by kernel_rfl) (by kernel_rfl) (fun _ _ _ h => h) (Or.inl ⟨by rfl, ?_⟩) (by assumption) ?_
  · intro w hSw
    exact exec_build rfl rfl (hbl w)
  try simp only [Act.put, List.setIfInBounds_toArray, List.set_cons_zero, List.set_cons_succ, List.getElem_toArray, List.getElem_cons_succ, List.getElem_cons_zero]
  refine wpAnyH_ready (rs := [10]) (by kernel_rfl) (by simp) ?_
  refine AllReadyH.cons rfl (fun K hK => ?_) AllReadyH.nil
  go_simp
  refine hK.out _ _ (H.out.2.2.2.2 _) (fun hHeld => ?_)
  clear hK K
  try simp only [Act.put, List.setIfInBounds_toArray, List.set_cons_zero, List.set_cons_succ, List.getElem_toArray, List.getElem_cons_succ, List.getElem_cons_zero]
  refine wpAnyH_take (i := 11) (v := ?_) rfl (by kernel_rfl) (by kernel_rfl) (by kernel_rfl) (fun _ _ _ h => h) (Or.inl ⟨by rfl, ?_⟩) (by assumption) ?_
  rotate_left
  · intro w hSw
    go_simp
    try with_reducible rfl
  try simp only [Act.put, List.setIfInBounds_toArray, List.set_cons_zero, List.set_cons_succ, List.getElem_toArray, List.getElem_cons_succ, List.getElem_cons_zero]
  refine wpAnyH_done (by kernel_rfl) ?_ _
  go_wp2_with fail
  go_ret
  exact ⟨rfl, rfl⟩
theorem treeL_split (C : List ByteArray) (m : Option Nat) : ∃ js : List Value, js.length = 33 ∧ (∀ m', treeCells C m' = (js ++ [Value.map m']).toArray) ∧ treeCells C m = (js ++ [Value.map m]).toArray := by
  refine ⟨(ring C).map Value.string ++ [.int .i64 C.length], by simp [ring_len], fun m' => ?_, ?_⟩ <;> simp [treeCells, treeL]
theorem cAt_of {W : World} {p : Nat} {js : List Value} {m : Option Nat} (hjs : js.length = 33) (h : W.heap[p]? = some (.cells (js ++ [Value.map m]).toArray 50 (0, 0))) : CAt p js m W := by
  refine ⟨fun j v hv => ?_, ?_⟩
  · have hj : j < 33 := by rw [← hjs]; exact (List.getElem?_eq_some_iff.1 hv).1
    rw [Nat.zero_add, blk_cell h, List.getElem?_toArray, List.getElem?_append_left (by omega)]
    exact hv
  · rw [blk_cell h, List.getElem?_toArray, List.getElem?_append_right (by omega), hjs]
    rfl
/-- a copy -/
def TCopied (w : World) (S : TS) (e : Ending) (w' : World) : Prop := ∃ q ok', e = .returned (.pointer (some ⟨q, 0, none⟩)) ∧ TMem w' w.heap.size ok' q S ∧ Below w.heap.size w w'
theorem tcopy_calls {w : World} {base p : Nat} {ok : Nat → Prop} {S : TS} (h : TMem w base ok p S) :
    Calls Try.prog 19 #[.pointer (some ⟨p, 0, none⟩)] w (TCopied w S) := by
  obtain ⟨m, hb, hm⟩ := h.blk
  obtain ⟨js, hjs, hall, hthis⟩ := treeL_split S.cs m
  rw [hthis] at hb
  rcases hm with ⟨rfl, hf⟩ | ⟨b, rfl, hne, hokb, hM⟩
  · refine (copy_core (W1 := w.drew) hjs (clone_nil_calls w.drew) (cAt_of hjs hb) (cAt_of hjs hb) (fun o => cAt_of hjs (blk_alloc (show w.drew.heap[p]? = _ from hb) o))).mono ?_
    rintro e w' ⟨rfl, rfl⟩
    exact ⟨w.heap.size, (· = w.heap.size), rfl, copied0 (hall none).symm (World.alloc_heap_new w.drew _) (World.size_alloc w.drew _) h.good h.few hf, ((Below.refl _ w).drew).alloc (Nat.le_refl _) _⟩
  · obtain ⟨es, clock, hbm⟩ : ∃ es clock, w.heap[b]? = some (.map es clock) := by
      obtain ⟨D, ⟨es', clock', h4, h5⟩, ha⟩ := hM
      exact ⟨es', clock', h4⟩
    refine (copy_core (W1 := w.drew.alloc (.map es clock)) (m' := some w.heap.size) hjs (clone_calls b es clock w.drew hbm) (cAt_of hjs hb) (cAt_of hjs (blk_alloc (show w.drew.heap[p]? = _ from hb) _)) (fun o => cAt_of hjs (blk_alloc (blk_alloc (show w.drew.heap[p]? = _ from hb) _) o))).mono ?_
    rintro e w' ⟨rfl, rfl⟩
    exact ⟨w.heap.size + 1, _, by simp, copied1 (hall (some w.heap.size)).symm (blk_new2 w.drew _ _ _) (by show (_ : World).heap.size = _; simp) h.good h.few hM hbm (blk_new1 w.drew _ _), (((Below.refl _ w).drew).alloc (Nat.le_refl _) _).alloc (by simp) _⟩
end Go.Proofs.Ytkldaghhfnpcjaa.P
/- One tree with blocks that it leaves alone; a tree and a copy of it, apart. -/
namespace Go.Proofs.Ytkldaghhfnpcjaa.P
open Go.RowKit Go.Maps Go.Proofs.YtkldaghhfnpcjaaW.PrintWords Go.Proofs.YtkldaghhfnpcjaaW.PrintLast Go.Proofs.YtkldaghhfnpcjaaW.PrintMore Go.Proofs.Ytkldaghhfnpcjaa.Pl
set_option linter.unusedVariables false
set_option linter.unusedSimpArgs false
/-- a tree; the blocks of fr are not its own, and are as they were in w0 -/
structure TOne (fr : Nat → Prop) (w0 w : World) (b0 p : Nat) (S : TS) : Prop where
  t : ∃ ok, TMem w b0 ok p S ∧ ∀ k, fr k → ¬ ok k ∧ k < w.heap.size ∧ w.heap[k]? = w0.heap[k]?
/-- two trees, apart -/
structure Twin (fr : Nat → Prop) (w0 w : World) (b0 p q : Nat) (S R : TS) : Prop where
  t : ∃ ok ok2, TMem w b0 ok p S ∧ TMem w b0 ok2 q R ∧ (∀ k, ok k → ¬ ok2 k) ∧ ∀ k, fr k → ¬ ok k ∧ ¬ ok2 k ∧ k < w.heap.size ∧ w.heap[k]? = w0.heap[k]?
section
variable {fr : Nat → Prop} {w0 w w' : World} {b0 p q : Nat} {S R : TS}
theorem TOne.good (h : TOne fr w0 w b0 p S) : TOk S := by obtain ⟨ok, h1, _⟩ := h.t; exact h1.good
theorem TOne.few (h : TOne fr w0 w b0 p S) : S.cs.length ≤ 1000000 := by obtain ⟨ok, h1, _⟩ := h.t; exact h1.few
theorem TOne.base (h : TOne fr w0 w b0 p S) : b0 ≤ w.heap.size := by
  obtain ⟨ok, h1, _⟩ := h.t
  have := h1.bound p h1.own
  omega
theorem TOne.kept (h : TOne fr w0 w b0 p S) : ∀ k, fr k → w.heap[k]? = w0.heap[k]? := by
  obtain ⟨ok, h1, h2⟩ := h.t
  exact fun k hk => (h2 k hk).2.2
theorem TOne.below (h : TOne fr w0 w b0 p S) (hb : Below w.heap.size w w') : TOne fr w0 w' b0 p S := by
  obtain ⟨ok, h1, h2⟩ := h.t
  exact ⟨ok, h1.below hb, fun k hk => ⟨(h2 k hk).1, Nat.lt_of_lt_of_le (h2 k hk).2.1 hb.size, (hb.block k (h2 k hk).2.1).trans (h2 k hk).2.2⟩⟩
theorem TOne.fresh (h : TOne fr w0 w b0 p S) (hb : Below w.heap.size w w') : TOne (fun k => fr k ∨ w.heap.size ≤ k ∧ k < w'.heap.size) w' w' b0 p S := by
  obtain ⟨ok, h1, h2⟩ := h.t
  refine ⟨ok, h1.below hb, fun k hk => ?_⟩
  rcases hk with hk | hk
  · exact ⟨(h2 k hk).1, Nat.lt_of_lt_of_le (h2 k hk).2.1 hb.size, rfl⟩
  · exact ⟨fun h => by have := (h1.bound k h).2; omega, hk.2, rfl⟩
theorem TOne.less (h : TOne fr w0 w b0 p S) {fr' : Nat → Prop} (hf : ∀ k, fr' k → fr k) : TOne fr' w0 w b0 p S := by
  obtain ⟨ok, h1, h2⟩ := h.t
  exact ⟨ok, h1, fun k hk => h2 k (hf k hk)⟩
theorem TOne.set (h : TOne fr w0 w b0 p S) (a : Addr) (ha : fr a.block) (v : Value) : TOne fr (w.setCell a v) (w.setCell a v) b0 p S := by
  obtain ⟨ok, h1, h2⟩ := h.t
  refine ⟨ok, h1.keep (ok2 := (· = a.block)) ((Turn.refl _ w).setCell a v rfl) (fun k hk e => (h2 a.block ha).1 (e ▸ hk)), fun k hk => ⟨(h2 k hk).1, ?_, rfl⟩⟩
  have := (h2 k hk).2.1
  simpa using this
theorem TOne.did {ok : Nat → Prop} {S' : TS} (h1 : TMem w b0 ok p S) (h2 : ∀ k, fr k → ¬ ok k ∧ k < w.heap.size ∧ w.heap[k]? = w0.heap[k]?) (hd : TDid w b0 ok p S' w') : TOne fr w0 w' b0 p S' ∧ Below b0 w w' := by
  obtain ⟨ok', g1, g2, g3, _⟩ := hd
  refine ⟨⟨ok', g1, fun k hk => ?_⟩, g3.below (fun k hk => (h1.bound k hk).1) ?_⟩
  · obtain ⟨c1, c2, c3⟩ := h2 k hk
    refine ⟨fun hk' => ?_, Nat.lt_of_lt_of_le c2 g3.size, (g3.block k c2 c1).trans c3⟩
    rcases g2 k hk' with hk' | hk'
    · exact c1 hk'
    · omega
  · have := h1.bound p h1.own; omega
theorem TOne.write (h : TOne fr w0 w b0 p S) (a s : ByteArray) (ha : a.size ≤ maxLen) (hc : S.cs.length < 1000000) :
    Calls Try.prog 13 #[.pointer (some ⟨p, 0, none⟩), .string a, .string s] w fun e w' => e = .returned (.int .i64 (writeT S a s).2) ∧ TOne fr w0 w' b0 p (writeT S a s).1 ∧ Below b0 w w' := by
  obtain ⟨ok, h1, h2⟩ := h.t
  exact (twrite_calls h1 a s ha hc).mono fun e w' ⟨he, hd⟩ => ⟨he, TOne.did h1 h2 hd⟩
theorem TOne.remove (h : TOne fr w0 w b0 p S) (a : ByteArray) (ha : a.size ≤ maxLen) (hc : S.cs.length < 1000000) :
    Calls Try.prog 17 #[.pointer (some ⟨p, 0, none⟩), .string a] w fun e w' => e = .returned (.int .i64 (removeT S a).2) ∧ TOne fr w0 w' b0 p (removeT S a).1 ∧ Below b0 w w' := by
  obtain ⟨ok, h1, h2⟩ := h.t
  exact (tremove_calls h1 a ha hc).mono fun e w' ⟨he, hd⟩ => ⟨he, TOne.did h1 h2 hd⟩
theorem TOne.read (h : TOne fr w0 w b0 p S) (a : ByteArray) (ha : a.size ≤ maxLen) :
    Calls Try.prog 22 #[.pointer (some ⟨p, 0, none⟩), .string a] w fun e w' => e = .returned (.tuple #[.string (readT S a).1, .int .i64 (readT S a).2]) ∧ Drawn0 w w' := by
  obtain ⟨ok, h1, h2⟩ := h.t
  exact tread_calls h1 a ha
theorem TOne.mark (h : TOne fr w0 w b0 p S) : Calls Try.prog 20 #[.pointer (some ⟨p, 0, none⟩)] w fun e w' => e = .returned (.int .i64 S.cs.length) ∧ w' = w := by
  obtain ⟨ok, h1, h2⟩ := h.t
  exact tmark_calls h1
theorem TOne.len (h : TOne fr w0 w b0 p S) : Calls Try.prog 16 #[.pointer (some ⟨p, 0, none⟩)] w fun e w' => e = .returned (.int .i64 S.fs.length) ∧ w' = w := by
  obtain ⟨ok, h1, h2⟩ := h.t
  exact tlen_calls h1
theorem TOne.listed (h : TOne fr w0 w b0 p S) (pre : ByteArray) : Calls Try.prog 14 #[.pointer (some ⟨p, 0, none⟩), .string pre] w (Listed w (listT S pre)) := by
  obtain ⟨ok, h1, h2⟩ := h.t
  exact listed_tree h1 pre
theorem TOne.copied (h : TOne fr w0 w b0 p S) : Calls Try.prog 19 #[.pointer (some ⟨p, 0, none⟩)] w fun e w' => ∃ q, e = .returned (.pointer (some ⟨q, 0, none⟩)) ∧ Twin fr w0 w' b0 p q S S ∧ Below w.heap.size w w' := by
  obtain ⟨ok, h1, h2⟩ := h.t
  refine (tcopy_calls h1).mono ?_
  rintro e w' ⟨q, ok2, rfl, g1, hb⟩
  have hbase := h.base
  refine ⟨q, rfl, ⟨ok, ok2, h1.below hb, ⟨g1.blk, g1.own, fun k hk => ⟨Nat.le_trans hbase (g1.bound k hk).1, (g1.bound k hk).2⟩, g1.good, g1.few⟩, fun k hk hk2 => ?_, fun k hk => ⟨(h2 k hk).1, fun hk2 => ?_, Nat.lt_of_lt_of_le (h2 k hk).2.1 hb.size, (hb.block k (h2 k hk).2.1).trans (h2 k hk).2.2⟩⟩, hb⟩
  · have := (h1.bound k hk).2; have := (g1.bound k hk2).1; omega
  · have := (h2 k hk).2.1; have := (g1.bound k hk2).1; omega
theorem Twin.one (h : Twin fr w0 w b0 p q S R) : TOne fr w0 w b0 p S := by
  obtain ⟨ok, ok2, h1, h2, h3, h4⟩ := h.t
  exact ⟨ok, h1, fun k hk => ⟨(h4 k hk).1, (h4 k hk).2.2⟩⟩
theorem Twin.two (h : Twin fr w0 w b0 p q S R) : TOne fr w0 w b0 q R := by
  obtain ⟨ok, ok2, h1, h2, h3, h4⟩ := h.t
  exact ⟨ok2, h2, fun k hk => ⟨(h4 k hk).2.1, (h4 k hk).2.2⟩⟩
theorem Twin.below (h : Twin fr w0 w b0 p q S R) (hb : Below w.heap.size w w') : Twin fr w0 w' b0 p q S R := by
  obtain ⟨ok, ok2, h1, h2, h3, h4⟩ := h.t
  exact ⟨ok, ok2, h1.below hb, h2.below hb, h3, fun k hk => ⟨(h4 k hk).1, (h4 k hk).2.1, Nat.lt_of_lt_of_le (h4 k hk).2.2.1 hb.size, (hb.block k (h4 k hk).2.2.1).trans (h4 k hk).2.2.2⟩⟩
theorem Twin.fresh (h : Twin fr w0 w b0 p q S R) (hb : Below w.heap.size w w') : Twin (fun k => fr k ∨ w.heap.size ≤ k ∧ k < w'.heap.size) w' w' b0 p q S R := by
  obtain ⟨ok, ok2, h1, h2, h3, h4⟩ := h.t
  refine ⟨ok, ok2, h1.below hb, h2.below hb, h3, fun k hk => ?_⟩
  rcases hk with hk | hk
  · exact ⟨(h4 k hk).1, (h4 k hk).2.1, Nat.lt_of_lt_of_le (h4 k hk).2.2.1 hb.size, rfl⟩
  · exact ⟨fun h => by have := (h1.bound k h).2; omega, fun h => by have := (h2.bound k h).2; omega, hk.2, rfl⟩
theorem Twin.did {ok ok2 : Nat → Prop} {S' : TS} (h1 : TMem w b0 ok p S) (h2 : TMem w b0 ok2 q R) (h3 : ∀ k, ok k → ¬ ok2 k) (h4 : ∀ k, fr k → ¬ ok k ∧ ¬ ok2 k ∧ k < w.heap.size ∧ w.heap[k]? = w0.heap[k]?) (hd : TDid w b0 ok p S' w') : Twin fr w0 w' b0 p q S' R ∧ Below b0 w w' := by
  obtain ⟨ok', g1, g2, g3, _⟩ := hd
  refine ⟨⟨ok', ok2, g1, h2.keep g3 (fun k hk hk' => h3 k hk' hk), fun k hk hk2 => ?_, fun k hk => ?_⟩, g3.below (fun k hk => (h1.bound k hk).1) ?_⟩
  · rcases g2 k hk with hk | hk
    · exact h3 k hk hk2
    · have := (h2.bound k hk2).2; omega
  · obtain ⟨c1, c2, c3, c4⟩ := h4 k hk
    refine ⟨fun hk' => ?_, c2, Nat.lt_of_lt_of_le c3 g3.size, (g3.block k c3 c1).trans c4⟩
    rcases g2 k hk' with hk' | hk'
    · exact c1 hk'
    · omega
  · have := h1.bound p h1.own; omega
theorem Twin.write (h : Twin fr w0 w b0 p q S R) (a s : ByteArray) (ha : a.size ≤ maxLen) (hc : S.cs.length < 1000000) :
    Calls Try.prog 13 #[.pointer (some ⟨p, 0, none⟩), .string a, .string s] w fun e w' => e = .returned (.int .i64 (writeT S a s).2) ∧ Twin fr w0 w' b0 p q (writeT S a s).1 R ∧ Below b0 w w' := by
  obtain ⟨ok, ok2, h1, h2, h3, h4⟩ := h.t
  exact (twrite_calls h1 a s ha hc).mono fun e w' ⟨he, hd⟩ => ⟨he, Twin.did h1 h2 h3 h4 hd⟩
theorem Twin.remove (h : Twin fr w0 w b0 p q S R) (a : ByteArray) (ha : a.size ≤ maxLen) (hc : S.cs.length < 1000000) :
    Calls Try.prog 17 #[.pointer (some ⟨p, 0, none⟩), .string a] w fun e w' => e = .returned (.int .i64 (removeT S a).2) ∧ Twin fr w0 w' b0 p q (removeT S a).1 R ∧ Below b0 w w' := by
  obtain ⟨ok, ok2, h1, h2, h3, h4⟩ := h.t
  exact (tremove_calls h1 a ha hc).mono fun e w' ⟨he, hd⟩ => ⟨he, Twin.did h1 h2 h3 h4 hd⟩
/-- a row that lies in blocks that are left alone -/
theorem TOne.row (h : TOne fr w0 w b0 p S) {base : Nat} {v : Value} {l : List ByteArray} (hR : Kd.R Kd.string 9 w0 base (fun _ => True) v l) (hf : ∀ k, v.ownBlock = some k → fr k) : Kd.R Kd.string 9 w base (fun _ => True) v l :=
  row_kept hR fun k hk => h.kept k (hf k hk)
theorem tone_new {ok : Nat → Prop} (h : TMem w b0 ok p S) : TOne (fun _ => False) w w b0 p S := ⟨ok, h, fun _ h => h.elim⟩
end
end Go.Proofs.Ytkldaghhfnpcjaa.P
