/- The document's tree: Copy. -/
import Derived.Test.YtkldaghhfnpcjaaGTwin
import Derived.Deep.RegionHeld3
namespace Go.Proofs.Ytkldaghhfnpcjaa.P
open Go.RowKit Go.Maps Go.Proofs.YtkldaghhfnpcjaaW.PrintWords Go.Proofs.YtkldaghhfnpcjaaW.PrintLast Go.Proofs.YtkldaghhfnpcjaaW.PrintMore Go.Proofs.Ytkldaghhfnpcjaa.Pl
set_option linter.unusedVariables false
set_option linter.unusedSimpArgs false
/-- a row was copied behind an empty one at block g, from world W to W1 -/
structure Laid {α : Type} (d : Kd α) (e : Nat) (W W1 : World) (B g : Nat) (v : Value) (ys : List α) : Prop where
  row : d.R e W1 B (fun k => k = g ∨ W.heap.size ≤ k ∧ k < W1.heap.size) v ys
  kept : ∀ k, k < W.heap.size → k ≠ g → W1.heap[k]? = W.heap[k]?
  size : W.heap.size ≤ W1.heap.size
theorem copy_event {α : Type} (d : Kd α) {w W : World} {B g m c : Nat} {A' : Option Addr} {ys : List α} {ops : Array Oper} {o : Oper} {a : Act} {Q : Exit → Act → World → Prop} {Kc : Act → World → Prop} {E : Prop} {s x : Operand} {t e : TypeId} {z : Value} {bytes : Nat}
    (hgd : o.guard = none) (ho : o.op = .call { callee := .builtin .append, args := #[s, x], argTypes := #[t, t] }) (hs : a.eval s = .slice (some ⟨g, 0, none⟩) 0 0) (hx : a.eval x = .slice A' m c)
    (ht : Try.prog.underlying t = some (.slice e)) (hinfo : (Try.prog.info? e).map (fun i => (i.zero, i.size, i.bytes)) = some (some z, d.sz, bytes)) (hz : z.cells.size = d.sz) (hs0 : 0 < d.sz) (hb0 : 0 < bytes)
    (hKM : ∀ W x cs, d.K W x cs → d.M W B (fun _ => False) x cs)
    (hg : W.heap[g]? = some (.cells #[] e (0, 0))) (hB : B ≤ g) (hR : d.C W A' m ys) (hl : ys.length * bytes ≤ 140737488355328)
    (h : ∀ (A6 : Option Addr) (c6 : Nat) (w1 : World), Laid d e W w1 B g (.slice A6 ys.length c6) ys → Below B W w1 → Kc (a.put o.dst (.slice A6 ys.length c6)) w1) :
    if Region.wanted o (yielded ops a.tmps) = true then Oper.wp Try.prog o a W Kc Q else E := by
  have hw : Region.wanted o (yielded ops a.tmps) = true := by simp [Region.wanted, hgd]
  rw [if_pos hw]
  have hn : ys.length = m := hR.1
  have hlt := blk_lt hg
  have h0 : d.R e W B (fun k => k = g ∨ W.heap.size ≤ k) (.slice (some ⟨g, 0, none⟩) 0 0) [] := by
    refine ⟨fun k hk => by simp [Value.ownBlock] at hk; omega, [], ⟨by simp, .inr ⟨g, 0, #[], rfl, hB, hg, Nat.le_refl _, by simp [maxLen], by simp, by simp⟩⟩, Reps.none _ _⟩
  have key := Kd.R_append_rows_step (P := Try.prog) (ops := ops) (o := o) (a := a) (Q := Q) (Kc := Kc) d (Rr := d.K W) (w0 := W) (W := W) B hw s x t e z bytes ho ht hinfo hz hs0 hb0
    (.slice (some ⟨g, 0, none⟩) 0 0) [] ys A' m c (fun k => k = g ∨ W.heap.size ≤ k) (fun _ => False) hs hx h0 hR (fun x cs hc => hKM W x cs hc) (fun _ hk => hk.elim) (fun k hk => .inr hk) (Below.refl _ _) (by omega) (by rw [List.length_nil, Nat.zero_add, ← hn]; exact hl)
    (fun v1 w1 h1 hbl hg hat => ?_)
  · rw [if_pos hw] at key; exact key
  · obtain ⟨A6, c6, rfl⟩ := Kd.R_slice h1
    rw [List.nil_append] at h1 ⊢
    refine h A6 c6 w1 ⟨Kd.R_mono (Kd.R_bound h1) (fun k hk => ?_), fun k hk hne => hg.block k hk (fun he => by simp [Value.ownBlock] at he; omega), hg.size⟩ hbl
    rcases hk.1 with h2 | h2
    · exact .inl h2
    · exact .inr ⟨h2, hk.2.2.1⟩
theorem Laid.row2 {α : Type} {d : Kd α} {e : Nat} {Wa W1 W2 : World} {B g1 g2 : Nat} {v1 : Value} {ys : List α} (h1 : Laid d e Wa W1 B g1 v1 ys) (hs : ∀ k, k < W1.heap.size → k ≠ g2 → W2.heap[k]? = W1.heap[k]?) (hne : g2 ≠ g1) (hd : g2 < Wa.heap.size ∨ W1.heap.size ≤ g2) (hle : W1.heap.size ≤ W2.heap.size) :
    d.R e W2 B (fun k => B ≤ k ∧ k < W2.heap.size) v1 ys := by
  refine Kd.R_mono (Kd.R_step (Kd.R_bound h1.row) (fun k hk hlt => hs k hlt (fun e => ?_))) (fun k hk => ⟨hk.2.1, by omega⟩)
  subst e
  rcases hk.1 with h | h
  · exact hne h
  · omega
theorem Laid.row1 {α : Type} {d : Kd α} {e : Nat} {Wa W1 : World} {B g1 : Nat} {v1 : Value} {ys : List α} (h1 : Laid d e Wa W1 B g1 v1 ys) : d.R e W1 B (fun k => B ≤ k ∧ k < W1.heap.size) v1 ys :=
  Kd.R_mono (Kd.R_bound h1.row) (fun k hk => ⟨hk.2.1, hk.2.2.1⟩)
/-- a copy -/
def RCopied (w : World) (S : TS) (e : Ending) (w' : World) : Prop := ∃ q ok', e = .returned (.pointer (some ⟨q, 0, none⟩)) ∧ RMem w' w.heap.size ok' q S ∧ Below w.heap.size w w'
theorem rcopied {w W2 : World} {S : TS} {v1 v2 : Value} (h1 : Kd.R k73 73 W2 w.heap.size (fun k => w.heap.size ≤ k ∧ k < W2.heap.size) v1 (toF S.fs)) (h2 : Kd.R Kd.string 9 W2 w.heap.size (fun k => w.heap.size ≤ k ∧ k < W2.heap.size) v2 S.cs) (hb : Below w.heap.size w W2) :
    RCopied w S (.returned (.pointer (some ⟨W2.heap.size, 0, none⟩))) (W2.alloc (.cells #[v1, v2] 54)) := by
  have hba := (Below.refl W2.heap.size W2).alloc (Nat.le_refl _) (.cells #[v1, v2] 54)
  refine ⟨W2.heap.size, fun k => w.heap.size ≤ k ∧ k < W2.heap.size + 1, rfl, ⟨⟨v1, v2, World.alloc_heap_new W2 _, Kd.R_mono (Kd.R_below h1 hba) (fun k hk => ⟨hk.1, by omega⟩), Kd.R_mono (Kd.R_below h2 hba) (fun k hk => ⟨hk.1, by omega⟩)⟩, ⟨hb.size, by omega⟩, fun k hk => ⟨hk.1, by simp; omega⟩⟩, hb.trans (hba.mono hb.size)⟩
set_option maxRecDepth 100000 in
set_option maxHeartbeats 8000000 in
theorem rcopy_calls {w : World} {base r : Nat} {ok : Nat → Prop} {S : TS} (h : RMem w base ok r S) (hfl : S.fs.length ≤ 256) (hcl : S.cs.length ≤ 1000000) :
    Calls Try.prog 26 #[.pointer (some ⟨r, 0, none⟩)] w (RCopied w S) := by
  obtain ⟨A, c, A', c', y0, hc0, hC0, y1, hc1, hC1⟩ := h.cells
  have hrlt := (h.bound r h.own).2
  have hK73 : ∀ W x cs, k73.K W x cs → k73.M W w.heap.size (fun _ => False) x cs := fun W x cs hc => by rw [k73_open hc]; exact k73_mkM W w.heap.size _ x
  have hK9 : ∀ W x cs, Kd.string.K W x cs → Kd.string.M W w.heap.size (fun _ => False) x cs := fun W x cs hc => hc
  have HK := Aside0.mk (fun (W : World) (hb : Below w.heap.size w W) => (⟨(hb.cell (p := ⟨r, 0, none⟩) hrlt).trans y0, (hb.cell (p := ⟨r, 1, none⟩) hrlt).trans y1⟩ : W.cell? ⟨r, 0, none⟩ = some (.slice A S.fs.length c) ∧ W.cell? ⟨r, 1, none⟩ = some (.slice A' S.cs.length c')))
  have HC := Aside0.mk (And.intro hC0 (And.intro hC1 (And.intro hK73 (And.intro hK9 (toF_len S.fs)))))
  clear h y0 y1 hc0 hc1 hC0 hC1 hrlt hK73 hK9
  go_enter Try.func26, Try.ntmps26
  go_wp2_with fail
  go_region_held3 (fun W => W.cell? ⟨r, 0, none⟩ = some (.slice A S.fs.length c) ∧ W.cell? ⟨r, 1, none⟩ = some (.slice A' S.cs.length c'))
    ((refine HK.out _ ?_; repeat (first | exact bB | exact bA | exact Below.refl _ _ | apply below_alloc | apply below_drew)))
    (first
    | ((refine copy_event k73 (w := w) (B := w.heap.size) (t := 52) (e := 73) (z := .agg #[.string ⟨#[]⟩, .string ⟨#[]⟩]) (bytes := 32) rfl rfl rfl rfl Try.underlying52 info73 rfl (by decide) (by omega) HC.out.2.2.1 (by first | exact World.alloc_heap_new _ _ | exact blk_new1 _ _ _ | exact blk_new2 _ _ _ _ | (refine (hLB.kept _ ?_ ?_).trans (blk_new1 _ _ _) <;> (first | omega | (simp; omega) | simp)) | (refine (hLB.kept _ ?_ ?_).trans (blk_new2 _ _ _ _) <;> (first | omega | (simp; omega) | simp))) (by first | omega | (have := bB.size; omega)) (Kd.C_below HC.out.1 (by repeat (first | exact bB | exact Below.refl _ _ | apply below_alloc | apply below_drew))) (by rw [HC.out.2.2.2.2]; omega) ?_); intro A6 c6 wA hLA bA0; have bA := Below.trans (show Below w.heap.size w _ by repeat (first | exact bB | exact Below.refl _ _ | apply below_alloc | apply below_drew)) bA0)
    | ((refine copy_event Kd.string (w := w) (B := w.heap.size) (t := 31) (e := 9) (z := .string ⟨#[]⟩) (bytes := 16) rfl rfl rfl rfl Try.underlying31 info9 rfl (by decide) (by omega) HC.out.2.2.2.1 (by first | exact World.alloc_heap_new _ _ | exact blk_new1 _ _ _ | exact blk_new2 _ _ _ _ | (refine (hLA.kept _ ?_ ?_).trans (blk_new1 _ _ _) <;> (first | omega | (simp; omega) | simp)) | (refine (hLA.kept _ ?_ ?_).trans (blk_new2 _ _ _ _) <;> (first | omega | (simp; omega) | simp))) (by first | omega | (have := bA.size; omega)) (Kd.C_below HC.out.2.1 (by repeat (first | exact bA | exact Below.refl _ _ | apply below_alloc | apply below_drew))) (by omega) ?_); intro A7 c7 wB hLB bB0; have bB := Below.trans (show Below w.heap.size w _ by repeat (first | exact bA | exact Below.refl _ _ | apply below_alloc | apply below_drew)) bB0))
  all_goals
    go_wp2_with fail
    go_ret
    first
      | (refine rcopied (Laid.row2 hLA (fun k hk hne => (hLB.kept k ?_ hne).trans ?_) ?_ ?_ ?_) hLB.row1 bB <;> (first | exact Below.heap_alloc _ _ _ hk | rfl | (have s1 := hLA.size; have s2 := hLB.size; (try simp at s1 s2); (try simp); (try omega); done)))
      | (refine rcopied hLA.row1 (Laid.row2 hLB (fun k hk hne => (hLA.kept k ?_ hne).trans ?_) ?_ ?_ ?_) bA <;> (first | exact Below.heap_alloc _ _ _ hk | rfl | (have s1 := hLA.size; have s2 := hLB.size; (try simp at s1 s2); (try simp); (try omega); done)))
end Go.Proofs.Ytkldaghhfnpcjaa.P
