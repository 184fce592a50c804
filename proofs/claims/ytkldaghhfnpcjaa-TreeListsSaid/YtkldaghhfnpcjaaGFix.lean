/- A tree whose map's block is known; the marks of rounds that are over. -/
import Derived.Test.YtkldaghhfnpcjaaGTwin
import Derived.RangeFuncNested
import Derived.RangeFuncBound
import Derived.RangeFuncCalls
import Derived.RangeFuncLeaves
import Derived.RangeFuncBox
import Derived.RangeFuncWrites
import Derived.Shelf.RegionOpen
import Derived.WalkKit
import Derived.OwnWalkIn
import Derived.TacticsInMore
import Derived.LoopNIn
import Derived.LoopIn
namespace Go.Proofs.Ytkldaghhfnpcjaa.P
open Go.RowKit Go.Maps Go.Shelf Go.Proofs.YtkldaghhfnpcjaaW.PrintWords Go.Proofs.YtkldaghhfnpcjaaW.PrintLast Go.Proofs.YtkldaghhfnpcjaaW.PrintMore Go.Proofs.Ytkldaghhfnpcjaa.Pl
set_option linter.unusedVariables false
set_option linter.unusedSimpArgs false
structure TFix (w : World) (p b : Nat) (S : TS) : Prop where
  blk : w.heap[p]? = some (.cells (treeCells S.cs (some b)) 50 (0, 0))
  map : MapV w b S.fs.length (fV S.fs)
  ne : b ≠ p
  good : TOk S
  few : S.cs.length ≤ 1000000
section
variable {w w' : World} {p b : Nat} {S : TS}
theorem TFix.mem (h : TFix w p b S) : TMem w (min p b) (fun k => k = p ∨ k = b) p S :=
  ⟨⟨some b, h.blk, .inr ⟨b, rfl, h.ne, .inr rfl, h.map⟩⟩, .inl rfl, fun k hk => by
    have h1 := blk_lt h.blk
    have h2 := h.map.lt
    rcases hk with rfl | rfl <;> omega, h.good, h.few⟩
theorem TFix.step (h : TFix w p b S) (hp : w'.heap[p]? = w.heap[p]?) (hb : w'.heap[b]? = w.heap[b]?) : TFix w' p b S := ⟨hp.trans h.blk, h.map.step hb, h.ne, h.good, h.few⟩
theorem TFix.lt (h : TFix w p b S) : p < w.heap.size ∧ b < w.heap.size := ⟨blk_lt h.blk, h.map.lt⟩
theorem TFix.below (h : TFix w p b S) (hb : Below w.heap.size w w') : TFix w' p b S := h.step (hb.block p h.lt.1) (hb.block b h.lt.2)
theorem TFix.of {S' : TS} (h : TFix w p b S) (hd : TDid w (min p b) (fun k => k = p ∨ k = b) p S' w') : TFix w' p b S' ∧ Turn (fun k => k = p ∨ k = b) w w' := by
  obtain ⟨ok', g1, g2, g3, g4⟩ := hd
  have hf := g4 _ _ h.blk
  obtain ⟨m', hb', hm'⟩ := g1.blk
  obtain rfl : m' = some b := treeCells_m (hb'.symm.trans hf)
  rcases hm' with ⟨e, _⟩ | ⟨b', e, _, _, hM⟩
  · cases e
  · injection e with e
    subst e
    exact ⟨⟨hf, hM, h.ne, g1.good, g1.few⟩, g3⟩
theorem TFix.write (h : TFix w p b S) (a s : ByteArray) (ha : a.size ≤ maxLen) (hc : S.cs.length < 1000000) :
    Calls Try.prog 13 #[.pointer (some ⟨p, 0, none⟩), .string a, .string s] w fun e w' => e = .returned (.int .i64 (writeT S a s).2) ∧ TFix w' p b (writeT S a s).1 ∧ Turn (fun k => k = p ∨ k = b) w w' :=
  (twrite_calls h.mem a s ha hc).mono fun e w' ⟨he, hd⟩ => ⟨he, h.of hd⟩
theorem TFix.remove (h : TFix w p b S) (a : ByteArray) (ha : a.size ≤ maxLen) (hc : S.cs.length < 1000000) :
    Calls Try.prog 17 #[.pointer (some ⟨p, 0, none⟩), .string a] w fun e w' => e = .returned (.int .i64 (removeT S a).2) ∧ TFix w' p b (removeT S a).1 ∧ Turn (fun k => k = p ∨ k = b) w w' :=
  (tremove_calls h.mem a ha hc).mono fun e w' ⟨he, hd⟩ => ⟨he, h.of hd⟩
theorem boxed_below {B : Nat} {t : TypeId} {v : Value} (h : Boxed w B t v) (hb : Below w.heap.size w w') : Boxed w' B t v := (hb.block B h.lt).trans h
theorem tremove_bad (h : TFix w p b S) {a : ByteArray} (hp : isP a = false) :
    Calls Try.prog 17 #[.pointer (some ⟨p, 0, none⟩), .string a] w fun e w' => e = .returned (.int .i64 2) ∧ Drawn0 w w' := by
  have hrd : Calls Try.prog 22 #[.pointer (some ⟨p, 0, none⟩), .string a] w fun e w' => e = .returned (.tuple #[.string ⟨#[]⟩, .int .i64 2]) ∧ Drawn0 w w' := by
    clear h
    go_enter Try.func22, Try.ntmps22
    go_wp2_with fail
    refine (is_calls a w).mono ?_
    rintro e w1 ⟨rfl, ⟨nd, rfl⟩⟩
    rw [hp]
    go_wp2_with fail
    go_ret2
    exact ⟨rfl, ⟨nd, rfl⟩⟩
  clear h
  go_enter Try.func17, Try.ntmps17
  go_wp2_with fail
  refine hrd.mono ?_
  rintro e w1 ⟨rfl, ⟨nd, rfl⟩⟩
  clear hrd
  go_wp2_with fail
  go_ret
  exact ⟨rfl, ⟨nd, rfl⟩⟩
theorem TFix.remove2 (h : TFix w p b S) (a : ByteArray) (hc : S.cs.length < 1000000) :
    Calls Try.prog 17 #[.pointer (some ⟨p, 0, none⟩), .string a] w fun e w' => ∃ n : Int, e = .returned (.int .i64 n) ∧ (∃ S', TFix w' p b S' ∧ S'.cs.length ≤ S.cs.length + 1) ∧ Turn (fun k => k = p ∨ k = b) w w' := by
  cases hp : isP a with
  | true =>
    refine (h.remove a (by have := isP_size hp; unfold maxLen; omega) hc).mono ?_
    rintro e w' ⟨rfl, h1, h2⟩
    exact ⟨_, rfl, ⟨_, h1, by unfold removeT; split <;> simp⟩, h2⟩
  | false =>
    refine (tremove_bad h hp).mono ?_
    rintro e w' ⟨rfl, ⟨n, rfl⟩⟩
    exact ⟨_, rfl, ⟨S, h.below (pw_below_drewN (Below.refl _ _) n), by omega⟩, (Turn.refl _ w).drewN n⟩
theorem TFix.write2 (h : TFix w p b S) (a s : ByteArray) (ha : a.size ≤ maxLen) (hc : S.cs.length < 1000000) :
    Calls Try.prog 13 #[.pointer (some ⟨p, 0, none⟩), .string a, .string s] w fun e w' => ∃ n : Int, e = .returned (.int .i64 n) ∧ (∃ S', TFix w' p b S' ∧ S'.cs.length ≤ S.cs.length + 1) ∧ Turn (fun k => k = p ∨ k = b) w w' := by
  refine (h.write a s ha hc).mono ?_
  rintro e w' ⟨rfl, h1, h2⟩
  exact ⟨_, rfl, ⟨_, h1, by unfold writeT; (repeat' split) <;> simp⟩, h2⟩
theorem turn_cell {ok : Nat → Prop} {a : Addr} {v : Value} (h : Turn ok w w') (hc : w.cell? a = some v) (hn : ¬ ok a.block) : w'.cell? a = some v := by
  have hlt := World.block_lt_of_cell? _ _ hc
  have e := h.block a.block hlt hn
  unfold World.cell? at hc ⊢
  rw [e]
  exact hc
theorem add_block (a : Addr) (n : Nat) : (a.add n).block = a.block := by unfold Addr.add; split <;> rfl
theorem turn_boxed {ok : Nat → Prop} {B : Nat} {t : TypeId} {v : Value} (h : Turn ok w w') (hb : Boxed w B t v) (hn : ¬ ok B) : Boxed w' B t v := (h.block B hb.lt hn).trans hb
end
set_option maxRecDepth 100000 in
set_option maxHeartbeats 1000000 in
theorem tnew2_calls (w : World) : Calls Try.prog 12 #[] w fun e w' => e = .returned (.pointer (some ⟨w.heap.size + 1, 0, none⟩)) ∧ (TFix w' (w.heap.size + 1) w.heap.size ⟨[], []⟩ ∧ Below w.heap.size w w') := by
  have hmm := fun (W : World) => @run_makeMap Try.prog 48 W
  have hbl := fun (W : World) (m : Option Nat) => run_build (P := Try.prog) W 50 #[(1, .map m)] (treeCells [] m) (built_tree m)
  go_enter Try.func12, Try.ntmps12
  have HM := Aside0.mk (show TFix ((w.alloc (.map #[] 0)).alloc (.cells (treeCells [] (some w.heap.size)) 50)) (w.heap.size + 1) w.heap.size ⟨[], []⟩ from by
    have h1 : (w.alloc (.map #[] 0)).heap.size = w.heap.size + 1 := by simp
    refine ⟨by rw [← h1]; exact blk_new _ _, ?_, by omega, TOk.empty, Nat.zero_le _⟩
    exact (MapV.made w).below ((Below.refl _ _).alloc (Nat.le_refl _) _) (by rw [h1]; omega))
  go_wp2_with fail
  go_ret
  exact ⟨rfl, HM.out, ((Below.refl _ w).alloc (Nat.le_refl _) _).alloc (by simp) _⟩
theorem mark_own {β : Type} {B D : Nat} (hD : D < B) : OwnFrom B (fun (_ : β) (W : World) => W.heap[D]? = some (.deferred (some []))) :=
  fun _ A C row hs hg hr => (hg.block D (Array.getElem?_eq_some_iff.1 hs).1 (fun e => by have := (hr D e.symm).1; omega)).trans hs
/-- The marks of the rounds that are over: blocks of their own, each below the one ahead of it. -/
def Marks (lo : Nat) (W : World) : Nat → List Deferred → Prop
  | _, [] => True
  | hi, d :: ds => ∃ D, d = { target := .collected D, args := #[] } ∧ lo ≤ D ∧ D < hi ∧ W.heap[D]? = some (.deferred (some [])) ∧ Marks lo W D ds
theorem Marks.kept {lo : Nat} {W W' : World} : ∀ {ds : List Deferred} {hi : Nat}, Marks lo W hi ds → (∀ k, lo ≤ k → k < hi → W'.heap[k]? = W.heap[k]?) → Marks lo W' hi ds
  | [], _, _, _ => trivial
  | _ :: _, _, ⟨D, e, h1, h2, h3, h4⟩, hb => ⟨D, e, h1, h2, (hb D h1 h2).trans h3, h4.kept (fun k hl hk => hb k hl (by omega))⟩
theorem Marks.lower {lo lo' : Nat} {W : World} (h : lo' ≤ lo) : ∀ {ds : List Deferred} {hi : Nat}, Marks lo W hi ds → Marks lo' W hi ds
  | [], _, _ => trivial
  | _ :: _, _, ⟨D, e, h1, h2, h3, h4⟩ => ⟨D, e, by omega, h2, h3, Marks.lower h h4⟩
theorem Marks.more {lo : Nat} {W : World} : ∀ {ds : List Deferred} {hi hi' : Nat}, Marks lo W hi ds → hi ≤ hi' → Marks lo W hi' ds
  | [], _, _, _, _ => trivial
  | _ :: _, _, _, ⟨D, e, h1, h2, h3, h4⟩, h => ⟨D, e, h1, by omega, h3, h4⟩
theorem leaves_marks {F : Fence} {n : Nat} {P : Program} {fn : Func} {tmps : Array Value} {R : Ending → World → Prop} {w : World} {Br : Nat}
    (hr : ∀ W', Below w.heap.size w W' → W'.cell? ⟨Br, 0, none⟩ = some (.bool true) → ∃ v, (results fn tmps).run P W' = .ok v W' ∧ R (.returned v) W') :
    ∀ (ds : List Deferred) (hi : Nat) (W : World), Marks w.heap.size W hi ds → Below w.heap.size w W → W.cell? ⟨Br, 0, none⟩ = some (.bool true) → LeavesInM F n P fn tmps R ds .returning W
  | [], _, W, _, hb, hc => hr W hb hc
  | d :: ds, hi, W, ⟨D, e, h1, h2, h3, h4⟩, hb, hc => by
    subst e
    refine ⟨by simp, .inl ⟨_, _, rfl, run_takeDeferred h3, leaves_marks hr ds D _ ?_ ?_ ?_⟩⟩
    · exact h4.kept (fun k _ hk => World.putObj_heap_other (by omega))
    · exact hb.trans (belowK_b (w := w) (Nat.le_refl _) W D _ _ h1 h3 rfl rfl)
    · exact cell_kept hc (grownBy_putObj' _ D (.deferred none)) (fun r e => by cases e; exact ⟨_, h3, rfl⟩)

theorem keepsFrom_turn {ok : Nat → Prop} {B : Nat} {W W' : World} (h : Turn ok W W') (hok : ∀ k, ok k → k < B) : KeepsFrom B W W' :=
  ⟨h.size, fun k o hB hk _ => (h.block k (Array.getElem?_eq_some_iff.1 hk).1 (fun ho => by have := hok k ho; omega)).trans hk⟩
/-- the second loop: what was got, and the tree beside it -/
def Got (wl : World) (p b B17 n : Nat) (pr : List ByteArray) (W : World) : Prop :=
  ∃ (u : Value) (S : TS), Boxed W B17 31 u ∧ W.ownsRow wl.heap.size 9 1 u pr.length (encs Value.string pr) ∧ TFix W p b S ∧ S.cs.length ≤ n + 2 * pr.length ∧ Turn (fun k => (k = p ∨ k = b) ∨ k = B17) wl W
theorem got_own {wl : World} {p b B17 n : Nat} (hp : p < wl.heap.size) (hb : b < wl.heap.size) (h17 : B17 < wl.heap.size) : OwnFrom wl.heap.size (Got wl p b B17 n) := by
  rintro pr W W' row ⟨u, S, h1, h2, h3, h4, h5⟩ hg hr
  obtain ⟨u', g1, g2, -⟩ := holdsRow_own wl.heap.size B17 31 9 1 List.length (encs Value.string) (fun _ _ => True) pr W W' row ⟨u, h1, h2, trivial⟩ hg (fun r e => (hr r e).2)
  have hne : ∀ k, k < wl.heap.size → some k ≠ row := fun k hk e => by have := (hr k e.symm).1; omega
  have hu : u' = u := by
    have e1 := (hg.block B17 h1.lt (hne _ h17)).trans h1
    rw [show W'.heap[B17]? = _ from g1] at e1
    injection e1 with e1
    injection e1 with e1
    injection e1 with e1
    injection e1
  subst hu
  refine ⟨u', S, g1, g2, h3.step (hg.block p h3.lt.1 (hne p hp)) (hg.block b h3.lt.2 (hne b hb)), h4, h5.trans (ok2 := fun k => row = some k) (Turn.grown hg (fun _ h => h)) (fun k hk => .inr (hr k hk).1)⟩
/-- what stands behind a range over a function, however it was left (its end, or a break) -/
theorem mid_range {P : Program} {code : Code} {id : Nat} {K : Act → World → Prop} {Q : Exit → Act → World → Prop} {a : Act} {w : World} (F : Nat → World → Prop)
    (hmain : Code.wp P code (fun e a' W => (e = .normal ∨ e = .exit id) ∧ ∃ D, a' = { a with defers := { target := .collected D, args := #[] } :: a.defers } ∧ F D W) a w)
    (hrest : ∀ D W, F D W → K { a with defers := { target := .collected D, args := #[] } :: a.defers } W) : Code.wp P code (Exit.inBlock id (Exit.then K Q)) a w :=
  Code.wp_mono (fun e a' W ⟨he, D, ha, hF⟩ => by
    subst ha
    have := hrest D W hF
    rcases he with rfl | rfl <;> simpa [Exit.inBlock, Exit.then] using this) hmain
end Go.Proofs.Ytkldaghhfnpcjaa.P
