/- The source tree: what lies in memory; the tree's plain methods. -/
import Derived.Test.YtkldaghhfnpcjaaGMap
import Derived.Test.YtkldaghhfnpcjaaPlTree
import Derived.Test.YtkldaghhfnpcjaaPlPathC
import Derived.Test.YtkldaghhfnpcjaaPxf21
import Derived.Laws.Tables
import Derived.Deep.QuietTactic
import Derived.BigQuiet
import Derived.WalkMore
import Derived.WalkSpells
namespace Go.Proofs.Ytkldaghhfnpcjaa.P
open Go.RowKit Go.Maps Go.Proofs.YtkldaghhfnpcjaaW.PrintWords Go.Proofs.YtkldaghhfnpcjaaW.PrintLast Go.Proofs.YtkldaghhfnpcjaaW.PrintMore Go.Proofs.Ytkldaghhfnpcjaa.Pl
set_option linter.unusedVariables false
set_option linter.unusedSimpArgs false
/-- Blocks of ok alone have turned; new ones may be there. -/
structure Turn (ok : Nat → Prop) (w w' : World) : Prop where
  os : w'.os = w.os
  tape : w'.tape = w.tape
  output : w'.output = w.output
  size : w.heap.size ≤ w'.heap.size
  block : ∀ k, k < w.heap.size → ¬ ok k → w'.heap[k]? = w.heap[k]?
theorem Turn.refl (ok : Nat → Prop) (w : World) : Turn ok w w := ⟨rfl, rfl, rfl, Nat.le_refl _, fun _ _ _ => rfl⟩
theorem Turn.trans {ok ok2 : Nat → Prop} {a b c : World} (h : Turn ok a b) (h2 : Turn ok2 b c) (hs : ∀ k, ok2 k → ok k ∨ a.heap.size ≤ k) : Turn ok a c :=
  ⟨h2.os.trans h.os, h2.tape.trans h.tape, h2.output.trans h.output, Nat.le_trans h.size h2.size, fun k hk hn =>
    (h2.block k (Nat.lt_of_lt_of_le hk h.size) (fun h' => by rcases hs k h' with h1 | h1; exact hn h1; omega)).trans (h.block k hk hn)⟩
theorem Turn.mono {ok ok2 : Nat → Prop} {a b : World} (h : Turn ok a b) (hs : ∀ k, ok k → ok2 k) : Turn ok2 a b := ⟨h.os, h.tape, h.output, h.size, fun k hk hn => h.block k hk (fun h' => hn (hs k h'))⟩
theorem Turn.of_below {ok : Nat → Prop} {a b : World} (h : Below a.heap.size a b) : Turn ok a b := ⟨h.os, h.tape, h.output, h.size, fun k hk _ => h.block k hk⟩
theorem Turn.below {ok : Nat → Prop} {a b : World} {base : Nat} (h : Turn ok a b) (hs : ∀ k, ok k → base ≤ k) (hb : base ≤ a.heap.size) : Below base a b :=
  ⟨h.os, h.tape, h.output, h.size, fun k hk => h.block k (by omega) (fun h' => by have := hs k h'; omega)⟩
theorem Turn.grown {ok : Nat → Prop} {a b : World} {row : Option Nat} (h : a.grownBy b row) (hs : ∀ k, row = some k → ok k) : Turn ok a b :=
  ⟨h.os, h.tape, h.output, h.size, fun k hk hn => h.block k hk (fun e => hn (hs k e.symm))⟩
theorem Turn.setCell {ok : Nat → Prop} {a b : World} (h : Turn ok a b) (p : Addr) (v : Value) (hp : ok p.block) : Turn ok a (b.setCell p v) :=
  ⟨h.os, h.tape, h.output, by simpa using h.size, fun k hk hn => (Below.heap_setCell b p v k (fun e => hn (e ▸ hp))).trans (h.block k hk hn)⟩
theorem Turn.drewN {ok : Nat → Prop} {a b : World} (h : Turn ok a b) (n : Nat) : Turn ok a (b.drewN n) := ⟨h.os, h.tape, h.output, h.size, h.block⟩
theorem Turn.drew {ok : Nat → Prop} {a b : World} (h : Turn ok a b) : Turn ok a b.drew := ⟨h.os, h.tape, h.output, h.size, h.block⟩
theorem Turn.alloc {ok : Nat → Prop} {a b : World} (h : Turn ok a b) (o : Obj) : Turn ok a (b.alloc o) :=
  h.trans (ok2 := fun _ => False) (Turn.of_below ((Below.refl _ b).alloc (Nat.le_refl _) o)) (fun _ h => h.elim)
theorem setRow_blk {w : World} {g i : Nat} {cur : Array Value} {t : TypeId} (v : Value) (hg : w.heap[g]? = some (.cells cur t (0, 0))) : (w.setCell ⟨g, i, none⟩ v).heap[g]? = some (.cells (cur.setIfInBounds i v) t (0, 0)) := by
  rw [setCell_eq_setRow w g i cur t (0, 0) v hg]
  exact setRow_heap w g cur _ t (0, 0) hg
/-- what a tree's cells hold -/
def treeL (C : List ByteArray) (n : Int) (m : Option Nat) : List Value := (ring C).map Value.string ++ [.int .i64 n, .map m]
def treeCells (C : List ByteArray) (m : Option Nat) : Array Value := (treeL C C.length m).toArray
def fV (l : Fs) : ByteArray → Option Value := fun q => (fget l q).map Value.string
structure TMem (w : World) (base : Nat) (ok : Nat → Prop) (p : Nat) (S : TS) : Prop where
  blk : ∃ m : Option Nat, w.heap[p]? = some (.cells (treeCells S.cs m) 50 (0, 0)) ∧ ((m = none ∧ S.fs = []) ∨ ∃ b, m = some b ∧ b ≠ p ∧ ok b ∧ MapV w b S.fs.length (fV S.fs))
  own : ok p
  bound : ∀ k, ok k → base ≤ k ∧ k < w.heap.size
  good : TOk S
  few : S.cs.length ≤ 1000000
theorem TMem.keep {w w' : World} {base p : Nat} {ok ok2 : Nat → Prop} {S : TS} (h : TMem w base ok p S) (ht : Turn ok2 w w') (hd : ∀ k, ok k → ¬ ok2 k) : TMem w' base ok p S := by
  obtain ⟨m, hb, hm⟩ := h.blk
  have hp := h.bound p h.own
  refine ⟨⟨m, (ht.block p hp.2 (hd p h.own)).trans hb, ?_⟩, h.own, fun k hk => ⟨(h.bound k hk).1, Nat.lt_of_lt_of_le (h.bound k hk).2 ht.size⟩, h.good, h.few⟩
  rcases hm with hm | ⟨b, e, hne, hok, hM⟩
  · exact .inl hm
  · exact .inr ⟨b, e, hne, hok, hM.step (ht.block b (h.bound b hok).2 (hd b hok))⟩
theorem TMem.below {w w' : World} {base p : Nat} {ok : Nat → Prop} {S : TS} (h : TMem w base ok p S) (hb : Below w.heap.size w w') : TMem w' base ok p S :=
  h.keep (ok2 := fun _ => False) (Turn.of_below hb) (fun _ _ h => h)
theorem treeL_len (C : List ByteArray) (n : Int) (m : Option Nat) : (treeL C n m).length = 34 := by simp [treeL, ring_len]
theorem treeL_ring (C : List ByteArray) (n : Int) (m : Option Nat) {k : Nat} (hk : k < 32) : (treeL C n m)[k]? = some (.string ((ring C).getD k ⟨#[]⟩)) := by
  unfold treeL
  have hl := ring_len C
  rw [List.getElem?_append_left (by simp; omega), List.getElem?_map, List.getD_eq_getElem?_getD, List.getElem?_eq_getElem (by omega)]
  rfl
theorem treeL_n (C : List ByteArray) (n : Int) (m : Option Nat) : (treeL C n m)[32]? = some (.int .i64 n) := by
  unfold treeL
  rw [List.getElem?_append_right (by simp [ring_len])]
  simp [ring_len]
theorem treeL_m (C : List ByteArray) (n : Int) (m : Option Nat) : (treeL C n m)[33]? = some (.map m) := by
  unfold treeL
  rw [List.getElem?_append_right (by simp [ring_len])]
  simp [ring_len]
theorem treeCells_m {C C' : List ByteArray} {m m' : Option Nat} (h : (some (Obj.cells (treeCells C m) 50 (0, 0)) : Option Obj) = some (.cells (treeCells C' m') 50 (0, 0))) : m = m' := by
  injection h with h
  injection h with h _ _
  have h2 := congrArg (fun a : Array Value => a[33]?) h
  simp only [treeCells, List.getElem?_toArray, treeL_m] at h2
  injection h2 with h2
  injection h2
theorem TMem.fixed {w : World} {base p : Nat} {ok : Nat → Prop} {S : TS} (h : TMem w base ok p S) : ∀ C b, w.heap[p]? = some (.cells (treeCells C (some b)) 50 (0, 0)) → w.heap[p]? = some (.cells (treeCells S.cs (some b)) 50 (0, 0)) := by
  intro C b hc
  obtain ⟨m, hb, _⟩ := h.blk
  obtain rfl : m = some b := treeCells_m (hb.symm.trans hc)
  exact hb
/-- a call on the tree has come to S' -/
def TDid (w : World) (base : Nat) (ok : Nat → Prop) (p : Nat) (S' : TS) (w' : World) : Prop := ∃ ok', TMem w' base ok' p S' ∧ (∀ k, ok' k → ok k ∨ w.heap.size ≤ k) ∧ Turn ok w w' ∧ ∀ C b, w.heap[p]? = some (.cells (treeCells C (some b)) 50 (0, 0)) → w'.heap[p]? = some (.cells (treeCells S'.cs (some b)) 50 (0, 0))
theorem TDid.same {w : World} {base p : Nat} {ok : Nat → Prop} {S : TS} (h : TMem w base ok p S) : TDid w base ok p S w := ⟨ok, h, fun _ h => .inl h, Turn.refl _ _, h.fixed⟩
theorem TDid.drewN {w : World} {base p : Nat} {ok : Nat → Prop} {S : TS} (h : TMem w base ok p S) (n : Nat) : TDid w base ok p S (w.drewN n) := ⟨ok, h.below (pw_below_drewN (Below.refl _ _) n), fun _ h => .inl h, (Turn.refl _ _).drewN n, h.fixed⟩
theorem treeL_put (C : List ByteArray) (m : Option Nat) (a : ByteArray) : ((treeL C C.length m).set (C.length % 32) (.string a)).set 32 (.int .i64 ((C.length : Int) + 1)) = treeL (C ++ [a]) (C ++ [a]).length m := by
  have hl := ring_len C
  have hlt : C.length % 32 < 32 := Nat.mod_lt _ (by decide)
  unfold treeL
  rw [ring_snoc, List.set_append_left _ _ (by simp; omega), List.map_set, List.set_append_right _ _ (by simp [hl]), List.length_set, List.length_map, hl]
  simp
theorem treeL_map (C : List ByteArray) (n : Int) (m m' : Option Nat) : (treeL C n m).set 33 (.map m') = treeL C n m' := by
  have hl := ring_len C
  unfold treeL
  rw [List.set_append_right _ _ (by simp [hl]), List.length_map, hl]
  rfl
section
variable {w : World} {p : Nat} {C : List ByteArray} {m : Option Nat}
theorem tree_cells (h : w.heap[p]? = some (.cells (treeCells C m) 50 (0, 0))) : w.cell? ⟨p, 32, none⟩ = some (.int .i64 C.length) ∧ w.cell? ⟨p, 33, none⟩ = some (.map m) ∧ (∀ k, k < 32 → w.cell? ⟨p, k, none⟩ = some (.string ((ring C).getD k ⟨#[]⟩))) ∧ ∀ k, w.frozen? ⟨p, k, none⟩ = false :=
  ⟨by rw [blk_cell h]; unfold treeCells; rw [List.getElem?_toArray]; exact treeL_n C _ m, by rw [blk_cell h]; unfold treeCells; rw [List.getElem?_toArray]; exact treeL_m C _ m,
    fun k hk => by rw [blk_cell h]; unfold treeCells; rw [List.getElem?_toArray]; exact treeL_ring C _ m hk, fun k => blk_frozen h k⟩
theorem tree_note (h : w.heap[p]? = some (.cells (treeCells C m) 50 (0, 0))) (a : ByteArray) :
    ((w.setCell ⟨p, C.length % 32, none⟩ (.string a)).setCell ⟨p, 32, none⟩ (.int .i64 ((C.length : Int) + 1))).heap[p]? = some (.cells (treeCells (C ++ [a]) m) 50 (0, 0)) := by
  rw [setRow_blk _ (setRow_blk _ h)]
  unfold treeCells
  rw [List.setIfInBounds_toArray, List.setIfInBounds_toArray, treeL_put]
theorem tree_map (h : w.heap[p]? = some (.cells (treeCells C m) 50 (0, 0))) (m' : Option Nat) : (w.setCell ⟨p, 33, none⟩ (.map m')).heap[p]? = some (.cells (treeCells C m') 50 (0, 0)) := by
  rw [setRow_blk _ h]
  unfold treeCells
  rw [List.setIfInBounds_toArray, treeL_map]
end
theorem is_calls (a : ByteArray) (w : World) : Calls Try.prog 21 #[.string a] w fun e w' => e = .returned (.bool (isP a)) ∧ Drawn0 w w' := by
  obtain ⟨k, hk⟩ := ev_some (is_ev a)
  exact path_Is.calls k a _ w hk
set_option maxRecDepth 100000 in
set_option maxHeartbeats 1000000 in
theorem note_calls (p : Nat) (C : List ByteArray) (m : Option Nat) (a : ByteArray) (w : World) (h : w.heap[p]? = some (.cells (treeCells C m) 50 (0, 0))) (hC : C.length ≤ 1000000) :
    Calls Try.prog 27 #[.pointer (some ⟨p, 0, none⟩), .string a] w fun e w' => e = .returned (.tuple #[]) ∧ (w'.heap[p]? = some (.cells (treeCells (C ++ [a]) m) 50 (0, 0)) ∧ Turn (· = p) w w' ∧ w'.heap.size = w.heap.size) := by
  obtain ⟨c32, c33, cr, cf⟩ := tree_cells h
  have hmod : (C.length : Int).tmod 32 = ((C.length % 32 : Nat) : Int) := by rw [Int.tmod_eq_emod_of_nonneg (by omega)]; rfl
  have hlt : C.length % 32 < 32 := Nat.mod_lt _ (by decide)
  have hck := cr _ hlt
  have hfk := cf (C.length % 32)
  have hf32 := cf 32
  have H := Aside0.mk h
  have wn : wrap64 ((C.length : Int) + 1) = (C.length : Int) + 1 := w64_ (by omega) (by omega)
  have i0 : (0 : Int) ≤ ((C.length % 32 : Nat) : Int) := by omega
  have i1 : ((C.length % 32 : Nat) : Int) < 32 := by omega
  generalize hk : C.length % 32 = k at *
  clear cr cf h hC
  go_enter Try.func27, Try.ntmps27
  go_wp2_with fail
  go_region
  have d32 : ((w.setCell ⟨p, k, none⟩ (.string a)).drew).cell? ⟨p, 32, none⟩ = some (.int .i64 C.length) := (World.cell?_setCell_other w ⟨p, k, none⟩ ⟨p, 32, none⟩ _ (by first | (simp; omega) | (intro e; injection e with _ e; omega))).trans c32
  have e32 : ((w.setCell ⟨p, k, none⟩ (.string a)).drew).frozen? ⟨p, 32, none⟩ = false := by first | (rw [World.frozen?_drew]; simp [hf32]; done) | (rw [World.frozen?_drew, World.frozen?_setCell]; exact hf32) | simp [hf32]
  have HD := Aside0.mk (show ((((w.setCell ⟨p, k, none⟩ (.string a)).drew).setCell ⟨p, 32, none⟩ (.int .i64 ((C.length : Int) + 1))).heap[p]? = some (.cells (treeCells (C ++ [a]) m) 50 (0, 0)) ∧ Turn (· = p) w (((w.setCell ⟨p, k, none⟩ (.string a)).drew).setCell ⟨p, 32, none⟩ (.int .i64 ((C.length : Int) + 1)))) from by
    refine ⟨?_, (((Turn.refl (· = p) w).setCell ⟨p, k, none⟩ _ rfl).drew).setCell ⟨p, 32, none⟩ _ rfl⟩
    have := tree_note H.out a
    rw [hk] at this
    exact this)
  clear c32 c33 hf32 hck hfk hmod hlt hk H
  go_wp2_with fail
  go_end0
  exact ⟨rfl, by first | exact HD.out.1 | (rw [wn]; exact HD.out.1), by first | exact HD.out.2 | (rw [wn]; exact HD.out.2), by simp⟩
section
variable {w : World} {base p : Nat} {ok : Nat → Prop} {S : TS} {m : Option Nat}
theorem files_look (h0 : (m = none ∧ S.fs = []) ∨ ∃ b, m = some b ∧ b ≠ p ∧ ok b ∧ MapV w b S.fs.length (fV S.fs)) {a : ByteArray} (ha : a.size ≤ maxLen) :
    (Instr.lookup 48 (.map m) (.string a) true).run Try.prog w = .ok (.tuple #[.string ((fget S.fs a).getD ⟨#[]⟩), .bool (fget S.fs a).isSome]) w := by
  rcases h0 with ⟨rfl, hf⟩ | ⟨b, rfl, _, _, hM⟩
  · rw [hf]
    have := look_nil (P := Try.prog) (t := 48) (e := 9) (w := w) true key9 Try.underlying48 (Try.zeroValue9 w) (keyKB ha)
    rw [if_pos rfl] at this
    exact this
  · rw [hM.look_ok Try.underlying48 (Try.zeroValue9 w) ha]
    unfold fV
    cases fget S.fs a <;> rfl
theorem files_len (h0 : (m = none ∧ S.fs = []) ∨ ∃ b, m = some b ∧ b ≠ p ∧ ok b ∧ MapV w b S.fs.length (fV S.fs)) (hS : FS S.fs) (ty : TypeId) :
    (Builtin.len_ #[48] ty #[.map m]).run Try.prog w = .ok (.int .i64 S.fs.length) w := by
  rcases h0 with ⟨rfl, hf⟩ | ⟨b, rfl, _, _, hM⟩
  · rw [hf]
    exact len_nil Try.underlying48 ty
  · have := hM.len Try.underlying48 ty (S.fs.map (·.1)) (List.pairwise_map.2 (hS.imp fun {a b} h => ltB_ne h)) (fun s => by unfold fV; rw [← fget_some_iff]; cases fget S.fs s <;> simp)
    rwa [List.length_map] at this
end
theorem bytes_ne_nil {x : ByteArray} : (x.toList == x.toList) = true := beq_self_eq_true _
set_option maxRecDepth 100000 in
set_option maxHeartbeats 1000000 in
theorem tread_calls {w : World} {base p : Nat} {ok : Nat → Prop} {S : TS} (h : TMem w base ok p S) (a : ByteArray) (ha : a.size ≤ maxLen) :
    Calls Try.prog 22 #[.pointer (some ⟨p, 0, none⟩), .string a] w fun e w' => e = .returned (.tuple #[.string (readT S a).1, .int .i64 (readT S a).2]) ∧ Drawn0 w w' := by
  obtain ⟨m, hb, hm⟩ := h.blk
  have c33 := (tree_cells hb).2.1
  have hlk := fun n => files_look (w := w.drewN n) (p := p) (ok := ok) (S := S) (m := m) (by rcases hm with hm | ⟨b, e, h1, h2, h3⟩; exact .inl hm; exact .inr ⟨b, e, h1, h2, h3⟩) ha
  clear hm hb h
  go_enter Try.func22, Try.ntmps22
  go_wp2_with fail
  refine (is_calls a w).mono ?_
  rintro e w1 ⟨rfl, ⟨nd, rfl⟩⟩
  have hl := hlk nd
  cases hp : isP a with
  | false =>
    have HE := Aside0.mk (show readT S a = (⟨#[]⟩, 2) from by unfold readT; rw [if_neg (by rw [hp]; decide)])
    clear hlk hl
    go_wp2_with fail
    go_ret2
    exact ⟨by rw [HE.out]; rfl, ⟨nd, rfl⟩⟩
  | true =>
    clear hlk
    cases hg : fget S.fs a with
    | none =>
      have HE := Aside0.mk (show readT S a = (⟨#[]⟩, 4) from by unfold readT; rw [if_pos hp, hg])
      rw [hg] at hl
      have hl : (Instr.lookup 48 (.map m) (.string a) true).run Try.prog (w.drewN nd) = .ok (.tuple #[.string ⟨#[]⟩, .bool false]) (w.drewN nd) := hl
      clear hg hp
      go_wp2_with fail
      go_ret2
      exact ⟨by rw [HE.out]; rfl, ⟨nd, rfl⟩⟩
    | some s =>
      have HE := Aside0.mk (show readT S a = (s, 0) from by unfold readT; rw [if_pos hp, hg])
      rw [hg] at hl
      have hl : (Instr.lookup 48 (.map m) (.string a) true).run Try.prog (w.drewN nd) = .ok (.tuple #[.string s, .bool true]) (w.drewN nd) := hl
      clear hg hp
      go_wp2_with fail
      go_ret2
      exact ⟨by rw [HE.out]; rfl, ⟨nd, rfl⟩⟩
theorem tlen_calls {w : World} {base p : Nat} {ok : Nat → Prop} {S : TS} (h : TMem w base ok p S) :
    Calls Try.prog 16 #[.pointer (some ⟨p, 0, none⟩)] w fun e w' => e = .returned (.int .i64 S.fs.length) ∧ w' = w := by
  obtain ⟨m, hb, hm⟩ := h.blk
  have c33 := (tree_cells hb).2.1
  have hl := fun ty => files_len hm h.good.rise ty
  clear hm hb h
  go_enter Try.func16, Try.ntmps16
  go_wp2_with fail
  go_ret
  exact ⟨rfl, rfl⟩
theorem tmark_calls {w : World} {base p : Nat} {ok : Nat → Prop} {S : TS} (h : TMem w base ok p S) :
    Calls Try.prog 20 #[.pointer (some ⟨p, 0, none⟩)] w fun e w' => e = .returned (.int .i64 S.cs.length) ∧ w' = w := by
  obtain ⟨m, hb, hm⟩ := h.blk
  have c32 := (tree_cells hb).1
  clear hm hb h
  go_enter Try.func20, Try.ntmps20
  go_wp2_with fail
  go_ret
  exact ⟨rfl, rfl⟩
theorem built_tree (m : Option Nat) : Try.prog.built 50 [(1, .map m)] = some (treeCells [] m) := by kernel_rfl
set_option maxRecDepth 100000 in
set_option maxHeartbeats 1000000 in
theorem tnew_calls (w : World) : Calls Try.prog 12 #[] w fun e w' => e = .returned (.pointer (some ⟨w.heap.size + 1, 0, none⟩)) ∧ (TMem w' w.heap.size (fun k => k = w.heap.size ∨ k = w.heap.size + 1) (w.heap.size + 1) ⟨[], []⟩ ∧ Below w.heap.size w w') := by
  have hmm := fun (W : World) => @run_makeMap Try.prog 48 W
  have hbl := fun (W : World) (m : Option Nat) => run_build (P := Try.prog) W 50 #[(1, .map m)] (treeCells [] m) (built_tree m)
  go_enter Try.func12, Try.ntmps12
  have HM := Aside0.mk (show TMem ((w.alloc (.map #[] 0)).alloc (.cells (treeCells [] (some w.heap.size)) 50)) w.heap.size (fun k => k = w.heap.size ∨ k = w.heap.size + 1) (w.heap.size + 1) ⟨[], []⟩ from by
    have h1 : (w.alloc (.map #[] 0)).heap.size = w.heap.size + 1 := by simp
    refine ⟨⟨some w.heap.size, by rw [← h1]; exact blk_new _ _, .inr ⟨_, rfl, by omega, .inl rfl, ?_⟩⟩, .inr rfl, fun k hk => ?_, TOk.empty, Nat.zero_le _⟩
    · exact (MapV.made w).below ((Below.refl _ _).alloc (Nat.le_refl _) _) (by rw [h1]; omega)
    · rcases hk with rfl | rfl
      · exact ⟨Nat.le_refl _, by simp; omega⟩
      · exact ⟨by omega, by simp⟩)
  go_wp2_with fail
  go_ret
  exact ⟨rfl, HM.out, ((Below.refl _ w).alloc (Nat.le_refl _) _).alloc (by simp) _⟩
end Go.Proofs.Ytkldaghhfnpcjaa.P
