/- Folded: GLock, GRepl, GBsr, GOnceDo, GWrit. -/
import Derived.Test.YtahdgaaedilcmaaGW
import Derived.Test.YtahdgaaedilcmaaProg
import Derived.Tactics
import Derived.Tactics2
import Derived.Defers
import Derived.Laws.Pointers
import Derived.Laws.LoneSync
import Derived.RegionTactic
import Derived.RegionCalls
import Derived.Laws.NewBlocks
import Derived.Test.YtahdgaaedilcmaaPx0
import Derived.Laws.Tables
import Derived.Laws.MakeOwn
import Derived.KernelRfl
import Derived.LoopN
import Derived.Test.YtahdgaaedilcmaaShelf
import Derived.Laws.IdiomCopy
import Derived.Deep.QuietTactic
import Derived.BigQuiet
import Derived.Outline
/- sync.Once, one goroutine: the lock, the flag. -/
namespace Go.Proofs.Ytahdgaaedilcmaa.P
open Go.RowKit
set_option linter.unusedVariables false
theorem race_disable (w : World) : (callFunc 86 #[]).run Try.prog w = .ok (.value (.tuple #[])) w := run_call_mark0 Try.func86 (by kernel_rfl) (by kernel_rfl) (by kernel_rfl) .disable (by kernel_rfl) w
theorem race_enable (w : World) : (callFunc 88 #[]).run Try.prog w = .ok (.value (.tuple #[])) w := run_call_mark0 Try.func88 (by kernel_rfl) (by kernel_rfl) (by kernel_rfl) .enable (by kernel_rfl) w
theorem race_acquire (a : Addr) (w : World) : (callFunc 89 #[.pointer (some a)]).run Try.prog w = .ok (.value (.tuple #[])) w := run_call_marked Try.func89 (by kernel_rfl) (by kernel_rfl) (by kernel_rfl) .acquire (by kernel_rfl) a w
theorem race_releaseMerge (a : Addr) (w : World) : (callFunc 91 #[.pointer (some a)]).run Try.prog w = .ok (.value (.tuple #[])) w := run_call_marked Try.func91 (by kernel_rfl) (by kernel_rfl) (by kernel_rfl) .releaseMerge (by kernel_rfl) a w

set_option maxRecDepth 100000 in
set_option maxHeartbeats 1600000 in
theorem store_deferred (a : Addr) (x : Value) (u : FrameMode) (w : World) (hc : w.cell? a = some x) (hz : w.frozen? a = false) :
    CallsD Try.prog 77 #[.pointer (some a), .bool true] u w fun e u' w' => u' = u ∧ (e = .returned (.tuple #[]) ∧ w' = w.drew.setCell a (.int .u32 1)) := by
  have hc' : w.drew.cell? a = some x := by go_simp
  have hz' : w.drew.frozen? a = false := by go_simp
  have hst := run_call_store (P := Try.prog) Try.func82 (by kernel_rfl) (by kernel_rfl) (by kernel_rfl) (by kernel_rfl) (k := .u32) (y := 1) hc' hz'
  go_enter_d Try.func77, Try.ntmps77
  go_wp2
  go_region_calls
  all_goals (go_end0; exact ⟨rfl, rfl⟩)

set_option maxRecDepth 100000 in
set_option maxHeartbeats 1600000 in
theorem unlock_deferred (a : Addr) (u : FrameMode) (w : World) (hc : w.cell? a = some (.int .i32 1)) (hz : w.frozen? a = false) :
    CallsD Try.prog 76 #[.pointer (some a)] u w fun e u' w' => u' = u ∧ (e = .returned (.tuple #[]) ∧ w' = w.setCell a (.int .i32 0)) := by
  have hd := race_disable
  have he := race_enable
  have hr := race_releaseMerge
  have hadd := run_call_add (P := Try.prog) Try.func92 (by kernel_rfl) (by kernel_rfl) (by kernel_rfl) .i32 (by kernel_rfl) (y := -1) (s := 0) hc hz (by simp [go_sem]; rfl)
  have hcv := run_convert_to_unsafe (P := Try.prog) (src := 146) (dst := 110) Try.underlying146 Try.underlying110 (by kernel_rfl) hc
  go_enter_d Try.func76, Try.ntmps76
  go_wp2
  go_end0
  go_wp2
  go_end0
  exact ⟨rfl, rfl⟩

set_option maxRecDepth 100000 in
set_option maxHeartbeats 1600000 in
theorem lock_free (a : Addr) (w : World) (hc : w.cell? a = some (.int .i32 0)) (hz : w.frozen? a = false) :
    Calls Try.prog 75 #[.pointer (some a)] w fun e w' => e = .returned (.tuple #[]) ∧ w' = w.setCell a (.int .i32 1) := by
  have hd := race_disable
  have he := race_enable
  have ha := race_acquire
  have hcas := run_call_cas_hit (P := Try.prog) Try.func87 (by kernel_rfl) (by kernel_rfl) (by kernel_rfl) .i32 (by kernel_rfl) (y := 1) hc hz
  have hc' : (w.setCell a (.int .i32 1)).cell? a = some (.int .i32 1) := World.cell?_setCell_same w a _ hc
  have hcv := run_convert_to_unsafe (P := Try.prog) (src := 146) (dst := 110) Try.underlying146 Try.underlying110 (by kernel_rfl) hc'
  go_enter Try.func75, Try.ntmps75
  go_wp2
  first | go_end0 | (simp only [Exit.inBlock, Exit.then]; refine bodyPost_ret (results_none rfl _ _ _) rfl ?_) | refine bodyPost_ret (results_none rfl _ _ _) rfl ?_
  go_wp2
  go_end0
  exact ⟨rfl, rfl⟩
end Go.Proofs.Ytahdgaaedilcmaa.P
/- (*strings.Replacer).build at the three pairs of depfile.written. -/
namespace Go.Proofs.Ytahdgaaedilcmaa.P
open Go.RowKit Go.Proofs.YtahdgaaedilcmaaW.PrintWords Go.Proofs.YtahdgaaedilcmaaW.PrintLast Go.Proofs.YtahdgaaedilcmaaW.PrintMore
set_option linter.unusedVariables false
def bigCells (v : Value) : Array Value := ((List.replicate 256 (Value.slice none 0 0)) ++ [v]).toArray
theorem built_bsr (A : Option Addr) (n c : Nat) : Try.prog.built 130 [(1, .slice A n c)] = some (bigCells (.slice A n c)) := by kernel_rfl
theorem zero_bsr : Try.zeroCells130 = bigCells (Value.slice none 0 0) := by kernel_rfl
theorem size_bsr : (Try.prog.info? 130).map (·.size) = some 257 := by kernel_rfl
theorem big_size (v : Value) : (bigCells v).size = 257 := by
  unfold bigCells
  rw [List.size_toArray, List.length_append, List.length_replicate, List.length_singleton]
theorem big_one (v : Value) (h : v.oneCell' = true) : (bigCells v).all (·.oneCell') = true := by
  rw [Array.all_eq_true_iff_forall_mem]
  intro x hx
  unfold bigCells at hx
  rw [List.mem_toArray, List.mem_append, List.mem_replicate, List.mem_singleton] at hx
  rcases hx with ⟨_, rfl⟩ | rfl
  · rfl
  · exact h
theorem big_at (v : Value) (c : Nat) (h : c < 256) : (bigCells v)[c]? = some (.slice none 0 0) := by
  unfold bigCells
  rw [List.getElem?_toArray, List.getElem?_append_left (by rw [List.length_replicate]; exact h), List.getElem?_replicate, if_pos h]
theorem big_last (v : Value) : (bigCells v)[256]? = some v := by
  unfold bigCells
  rw [List.getElem?_toArray, List.getElem?_append_right (by rw [List.length_replicate]; exact Nat.le_refl _), List.length_replicate]
  rfl

theorem gate_op {P : Program} {ops : Array Oper} {rest : List Oper} {o : Oper} {a : Act} {W : World} {Q : Exit → Act → World → Prop} {X : Op} (_ho : o.op = X) (h : wpList P ops Q (o :: rest) a W) : wpList P ops Q (o :: rest) a W := h
section
variable {ops : Array Oper} {rest : List Oper} {o : Oper} {a : Act} {W : World} {Q : Exit → Act → World → Prop} {A : Option Addr} {n c : Nat}
theorem rep_build_event (hgd : o.guard = none) (ho : o.op = .build 130 #[(1, .tmp 94)]) (hx : a.eval (.tmp 94) = .slice A n c)
    (h : wpList Try.prog ops Q rest (a.put o.dst (.agg (bigCells (.slice A n c)))) W) : wpList Try.prog ops Q (o :: rest) a W :=
  Kd.event_run hgd (by simp [execOp, ho, hx, run_build W 130 #[(1, .slice A n c)] _ (built_bsr A n c)]) h
theorem rep_store_event (hgd : o.guard = none) (ho : o.op = .store 130 (.tmp 11) (.tmp 95)) (hx : a.eval (.tmp 11) = .pointer (some ⟨W.heap.size, 0, none⟩)) (hy : a.eval (.tmp 95) = .agg (bigCells (.slice A n c)))
    (h : ∀ W3, W3.heap[W.heap.size]? = some (.cells (bigCells (.slice A n c)) 130 (0, 0)) → Below W.heap.size W W3 → W3.heap.size = W.heap.size + 1 → wpList Try.prog ops Q rest (a.put o.dst undef) W3) :
    wpList Try.prog ops Q (o :: rest) a (W.alloc (.cells Try.zeroCells130 130)) := by
  have hg : (W.alloc (.cells Try.zeroCells130 130)).heap[W.heap.size]? = some (.cells Try.zeroCells130 130 (0, 0)) := blk_new W _
  refine wpList_store_row hgd 130 (.tmp 11) (.tmp 95) ho W.heap.size (bigCells (.slice A n c)) hx hy 130 _ hg (by rw [size_bsr, big_size]) (by rw [zero_bsr, big_size, big_size]) (big_one _ rfl) (h _ ?_ ?_ ?_)
  · exact setRow_heap _ _ _ _ _ _ hg
  · refine ((Below.refl _ W).alloc (Nat.le_refl _) (.cells Try.zeroCells130 130)).trans ⟨rfl, rfl, rfl, by simp [World.setRow], fun k hk => ?_⟩
    unfold World.setRow
    rw [Array.getElem?_modify, if_neg (by omega)]
  · simp [World.setRow]
end
theorem run_equalIn_slice_nil {P : Program} (w : World) (d : Nat) (t : TypeId) {e : TypeId} (hu : P.underlying t = some (.slice e)) (A : Option Addr) (n c : Nat) : (Op.equalIn (d + 1) t (.slice A n c) (.slice none 0 0)).run P w = .ok A.isNone w := by
  cases A <;> simp [Op.equalIn, run_underlying hu]
theorem run_eql_slice_nil {P : Program} (w : World) (t : TypeId) {e : TypeId} (hu : P.underlying t = some (.slice e)) (A : Option Addr) (n c : Nat) :
    (binOp .eql t (.slice A n c) (.slice none 0 0)).run P w = .ok (.bool A.isNone) w := by
  simp only [binOp]
  simp [Op.equal, Op.maxDepth, run_equalIn_slice_nil w 9999 t hu A n c]
theorem run_neq_slice_nil {P : Program} (w : World) (t : TypeId) {e : TypeId} (hu : P.underlying t = some (.slice e)) (A : Option Addr) (n c : Nat) :
    (binOp .neq t (.slice A n c) (.slice none 0 0)).run P w = .ok (.bool (!A.isNone)) w := by
  simp only [binOp]
  simp [Op.equal, Op.maxDepth, run_equalIn_slice_nil w 9999 t hu A n c]
def oneS (c : Int) : ByteArray := strOfNums [c]
theorem conv_oneS (W : World) (c : Int) :
    (convert 35 9 (.slice (some ⟨W.heap.size, 0, none⟩) 1 1)).run Try.prog (W.alloc (.cells #[.int .u8 c] 5)) = .ok (.string (oneS c)) (W.alloc (.cells #[.int .u8 c] 5)) := by
  have h := own_lit W W.heap.size 5 .u8 [c] (Nat.le_refl _) (by simp)
  exact own_string (P := Try.prog) (src := 35) (dst := 9) (e := 5) Try.underlying35 Try.underlying5 Try.underlying9 h
theorem cap_two (W : World) : 2 ≤ grownCap W 2 0 5 := grownCap_ge W 2 0 5
/-- The table of what is put in place of which byte, half filled: the bytes in S have theirs; T tells which. -/
structure BRep (w : World) (base h : Nat) (S : List Nat) (T : List ByteArray) (A : Option Addr) (c : Nat) (ok : Nat → Prop) : Prop where
  tab : ∃ cur, w.heap[h]? = some (.cells cur 130 (0, 0)) ∧ cur.size = 257 ∧ (∀ k, k < 256 → k ∉ S → cur[k]? = some (.slice none 0 0)) ∧
    (∀ k, k ∈ S → ∃ g n, cur[k]? = some (.slice (some ⟨g, 0, none⟩) 2 n) ∧ 2 ≤ n ∧ g ≠ h ∧ ¬ ok g ∧ g < w.heap.size ∧ w.cell? ⟨g, 0, none⟩ = some (.int .u8 92) ∧ w.cell? ⟨g, 1, none⟩ = some (.int .u8 (k : Int))) ∧
    cur[256]? = some (.slice A T.length c)
  row : Kd.R Kd.string 9 w base ok (.slice A T.length c) T
  okh : ¬ ok h
  hlt : base ≤ h
theorem set_row {w : World} {g i : Nat} {cur : Array Value} {t : TypeId} (v : Value) (hg : w.heap[g]? = some (.cells cur t (0, 0))) : (w.setCell ⟨g, i, none⟩ v).heap[g]? = some (.cells (cur.setIfInBounds i v) t (0, 0)) := by
  rw [setCell_eq_setRow w g i cur t (0, 0) v hg]
  exact setRow_heap w g cur _ t (0, 0) hg
theorem BRep.step {W W1 w2 : World} {base h : Nat} {S : List Nat} {T : List ByteArray} {A A2 : Option Addr} {c c2 : Nat} {ok : Nat → Prop} {x : ByteArray} {m : Nat} (hm : m = T.length + 1) (hB : BRep W base h S T A c ok) (o : Nat) (ho : o < 256) (hoS : o ∉ S)
    (hW1 : Below W.heap.size W W1) (hR2 : Kd.R Kd.string 9 w2 base (fun k => ok k ∨ W1.heap.size ≤ k) (.slice A2 m c2) (T ++ [x])) (hg : W1.grownBy w2 (Value.slice A T.length c).ownBlock)
    (n : ByteArray) (hn : n.size = 2) (n0 : (n.data.toList.getD 0 0).toNat = 92) (n1 : (n.data.toList.getD 1 0).toNat = o) (cap : Nat) (hcap : 2 ≤ cap) :
    ∃ ok', BRep ((Lib.bytesWorld (w2.setCell ⟨h, 256, none⟩ (.slice A2 m c2)) 5 n).setCell ⟨h, o, none⟩ (.slice (some ⟨w2.heap.size, 0, none⟩) 2 cap)) base h (o :: S) (T ++ [x]) A2 c2 ok' ∧
      Below base W ((Lib.bytesWorld (w2.setCell ⟨h, 256, none⟩ (.slice A2 m c2)) 5 n).setCell ⟨h, o, none⟩ (.slice (some ⟨w2.heap.size, 0, none⟩) 2 cap)) := by
  subst hm
  obtain ⟨⟨cur, hblk, hsz, hnil, hslc, hlst⟩, hrow, hokh, hbh⟩ := hB
  have hrow1 := hrow.1
  have hrowb : ∀ k, (Value.slice A T.length c).ownBlock = some k → ok k ∧ base ≤ k ∧ k < W.heap.size := fun k hk => by
    have := (Kd.R_bound hrow).1 k hk
    exact ⟨this.1, this.2.1, this.2.2.1⟩
  have hlt := blk_lt hblk
  have hs1 := hW1.size
  have hs2 := hg.size
  have hb2 : w2.heap[h]? = some (.cells cur 130 (0, 0)) := (hg.block h (by omega) (fun e => hokh (hrowb h e.symm).1)).trans ((hW1.block h hlt).trans hblk)
  have hb3 := set_row (i := 256) (.slice A2 (T.length + 1) c2) hb2
  have hs3 : (w2.setCell ⟨h, 256, none⟩ (.slice A2 (T.length + 1) c2)).heap.size = w2.heap.size := by simp
  obtain ⟨w3, hw3⟩ : ∃ w3, w2.setCell ⟨h, 256, none⟩ (.slice A2 (T.length + 1) c2) = w3 := ⟨_, rfl⟩
  have hR3 : Kd.R Kd.string 9 w3 base (fun k => (ok k ∨ W1.heap.size ≤ k) ∧ base ≤ k ∧ k < w2.heap.size) (.slice A2 (T.length + 1) c2) (T ++ [x]) := by
    rw [← hw3]
    refine Kd.R_far (Kd.R_mono (Kd.R_bound hR2) (fun k hk => ⟨hk.1, hk.2.1, hk.2.2.1⟩)) (fun k hk e => ?_) _
    have e : k = h := e
    subst e
    rcases hk.1 with h' | h'
    · exact hokh h'
    · omega
  have hB3 : Below base W w3 := by
    rw [← hw3]
    exact ((hW1.mono (by omega)).trans (pw_below_grown (Below.refl base W1) _ (by omega) hg (fun k hk => (hrowb k hk).2.1))).setCell (p := ⟨h, 256, none⟩) hbh _
  have hc3 : ∀ a : Addr, a.block < W.heap.size → ¬ ok a.block → a.block ≠ h → w3.cell? a = W.cell? a := fun a ha ho' hne => by
    rw [← hw3, World.cell?_of_block (Below.heap_setCell w2 ⟨h, 256, none⟩ _ a.block hne)]
    exact (World.cell?_of_block (hg.block a.block (by omega) (fun e => ho' (hrowb _ e.symm).1))).trans (World.cell?_of_block (hW1.block _ ha))
  rw [hw3] at hb3 hs3 ⊢
  have hs4 := Lib.bytesWorld_size w3 5 n
  have hb4 : (Lib.bytesWorld w3 5 n).heap[h]? = some (.cells (cur.setIfInBounds 256 (.slice A2 (T.length + 1) c2)) 130 (0, 0)) := (Lib.bytesWorld_at_old w3 5 n h (by omega)).trans hb3
  have hb5 := set_row (i := o) (.slice (some ⟨w2.heap.size, 0, none⟩) 2 cap) hb4
  have hB4 := bytes_below (Below.refl w3.heap.size w3) (Nat.le_refl _) 5 n
  have hR4 := Kd.R_below hR3 hB4
  refine ⟨fun k => (ok k ∨ W1.heap.size ≤ k) ∧ base ≤ k ∧ k < w2.heap.size, ⟨⟨_, hb5, by simp [hsz], ?_, ?_, ?_⟩, ?_, ?_, hbh⟩, ?_⟩
  · intro k hk hkS
    simp only [List.mem_cons, not_or] at hkS
    rw [Array.getElem?_setIfInBounds, if_neg (by omega), Array.getElem?_setIfInBounds, if_neg (by omega)]
    exact hnil k hk hkS.2
  · intro k hk
    rcases List.mem_cons.1 hk with rfl | hk
    · refine ⟨w2.heap.size, cap, ?_, hcap, by omega, fun h' => by omega, by simp; omega, ?_, ?_⟩
      · rw [Array.getElem?_setIfInBounds, if_pos rfl, if_pos (by simp [hsz]; omega)]
      · rw [World.cell?_of_block (Below.heap_setCell _ ⟨h, k, none⟩ _ w2.heap.size (by show w2.heap.size ≠ h; omega)), ← hs3, Lib.bytesWorld_cell w3 5 n 0 (by omega), n0]
        rfl
      · rw [World.cell?_of_block (Below.heap_setCell _ ⟨h, k, none⟩ _ w2.heap.size (by show w2.heap.size ≠ h; omega)), ← hs3, Lib.bytesWorld_cell w3 5 n 1 (by omega), n1]
    · have hko : k ≠ o := fun e => hoS (e ▸ hk)
      obtain ⟨g, m, h1, h2, h3, h4, h5, h6, h7⟩ := hslc k hk
      have hk256 : k < 257 := by
        have := (Array.getElem?_eq_some_iff.1 h1).1
        omega
      have hk2 : k ≠ 256 := fun e => by
        subst e
        rw [hlst] at h1
        injection h1 with h1
        injection h1 with e1 e2 e3
        exact h4 (hrow1 g (by rw [e1]; rfl))
      have hc : ∀ j, ((Lib.bytesWorld w3 5 n).setCell ⟨h, o, none⟩ (.slice (some ⟨w2.heap.size, 0, none⟩) 2 cap)).cell? ⟨g, j, none⟩ = W.cell? ⟨g, j, none⟩ := fun j => by
        rw [World.cell?_of_block (Below.heap_setCell _ ⟨h, o, none⟩ _ g h3), Lib.bytesWorld_old w3 5 n ⟨g, j, none⟩ (by show g < _; omega)]
        exact hc3 ⟨g, j, none⟩ h5 h4 h3
      refine ⟨g, m, ?_, h2, h3, fun h' => ?_, by simp; omega, (hc 0).trans h6, (hc 1).trans h7⟩
      · rw [Array.getElem?_setIfInBounds, if_neg (by omega), Array.getElem?_setIfInBounds, if_neg (by omega)]
        exact h1
      · rcases h'.1 with h8 | h8
        · exact h4 h8
        · omega
  · rw [Array.getElem?_setIfInBounds, if_neg (by omega), Array.getElem?_setIfInBounds, if_pos rfl, if_pos (by omega), List.length_append, List.length_singleton]
  · rw [List.length_append, List.length_singleton]
    refine Kd.R_far hR4 (fun k hk e => ?_) _
    have e : k = h := e
    subst e
    rcases hk.1 with h' | h'
    · exact hokh h'
    · omega
  · intro h'
    rcases h'.1 with h8 | h8
    · exact hokh h8
    · omega
  · exact (hB3.trans (hB4.mono (by have := hB3.size; omega))).setCell (p := ⟨h, o, none⟩) hbh _
/-- append(l, x) of one text -/
theorem reps_push {W : World} {n base : Nat} (hn : W.heap.size = n) {s y : Operand} {v : Value} {xs : List ByteArray} {x : ByteArray} {ok : Nat → Prop} {ops : Array Oper} {rest : List Oper} {o : Oper} {a : Act} {Q : Exit → Act → World → Prop}
    (hgd : o.guard = none) (ho : o.op = .call { callee := .builtin .append, args := #[s, y], argTypes := #[30, 30] }) (hs : a.eval s = v) (hy : a.eval y = .slice (some ⟨n, 0, none⟩) 1 1)
    (hR : Kd.R Kd.string 9 W base ok v xs) (hbase : base ≤ W.heap.size) (hl : (xs.length + 1) * 16 ≤ 140737488355328)
    (h : ∀ v1 w1, Kd.R Kd.string 9 w1 base (fun k => ok k ∨ W.heap.size ≤ k) v1 (xs ++ [x]) → W.grownBy w1 v.ownBlock → wpList Try.prog ops Q rest (a.put o.dst v1) w1) : wpList Try.prog ops Q (o :: rest) a (W.alloc (.cells #[.string x] 9)) := by
  subst hn
  exact Kd.R_append Kd.string (w0 := W) (W := W) base hgd s y 30 9 (.string ⟨#[]⟩) 16 ho Try.underlying30 info9 rfl (by decide) (by omega) v xs x [.string x] (fun k => ok k ∨ W.heap.size ≤ k) (fun _ => False) hs hy rfl (fun _ hk => hk.elim) (fun _ hk => .inr hk)
    (Kd.R_mono hR (fun _ hk => .inl hk)) (Below.refl _ _) hbase hl (fun v1 w1 h1 _ hg _ => h v1 w1 h1 hg)
theorem BRep.cells {W : World} {base h : Nat} {S : List Nat} {T : List ByteArray} {A : Option Addr} {c : Nat} {ok : Nat → Prop} (hB : BRep W base h S T A c ok) (o : Nat) (ho : o < 256) (hoS : o ∉ S) :
    W.cell? ⟨h, o, none⟩ = some (.slice none 0 0) ∧ W.cell? ⟨h, 256, none⟩ = some (.slice A T.length c) := by
  obtain ⟨⟨cur, hblk, hsz, hnil, hslc, hlst⟩, hrow, hokh, hbh⟩ := hB
  exact ⟨by rw [blk_cell hblk]; exact hnil o ho hoS, by rw [blk_cell hblk]; exact hlst⟩
theorem BRep.mid {W W1 w2 : World} {base h : Nat} {S : List Nat} {T : List ByteArray} {A : Option Addr} {c : Nat} {ok : Nat → Prop} (hB : BRep W base h S T A c ok) (o : Nat) (ho : o < 256) (hoS : o ∉ S)
    (hW1 : Below W.heap.size W W1) (hg : W1.grownBy w2 (Value.slice A T.length c).ownBlock) :
    w2.cell? ⟨h, 256, none⟩ = some (.slice A T.length c) ∧ w2.frozen? ⟨h, 256, none⟩ = false ∧
      ∀ v n, (Lib.bytesWorld (w2.setCell ⟨h, 256, none⟩ v) 5 n).cell? ⟨h, o, none⟩ = some (.slice none 0 0) ∧ (Lib.bytesWorld (w2.setCell ⟨h, 256, none⟩ v) 5 n).frozen? ⟨h, o, none⟩ = false := by
  obtain ⟨⟨cur, hblk, hsz, hnil, hslc, hlst⟩, hrow, hokh, hbh⟩ := hB
  have hlt := blk_lt hblk
  have hs1 := hW1.size
  have hs2 := hg.size
  have hb2 : w2.heap[h]? = some (.cells cur 130 (0, 0)) := (hg.block h (by omega) (fun e => hokh ((Kd.R_bound hrow).1 h e.symm).1)).trans ((hW1.block h hlt).trans hblk)
  refine ⟨by rw [blk_cell hb2]; exact hlst, blk_frozen hb2 256, fun v n => ?_⟩
  have hb3 := set_row (i := 256) v hb2
  have hb4 : (Lib.bytesWorld (w2.setCell ⟨h, 256, none⟩ v) 5 n).heap[h]? = some (.cells (cur.setIfInBounds 256 v) 130 (0, 0)) := (Lib.bytesWorld_at_old _ 5 n h (by simp; omega)).trans hb3
  refine ⟨?_, blk_frozen hb4 o⟩
  rw [blk_cell hb4, Array.getElem?_setIfInBounds, if_neg (by omega)]
  exact hnil o ho hoS
theorem BRep.start {W1 w3 : World} {base : Nat} {A : Option Addr} {c : Nat} {ok : Nat → Prop} (hR : Kd.R Kd.string 9 W1 base ok (.slice A ([] : List ByteArray).length c) []) (hh : w3.heap[W1.heap.size]? = some (.cells (bigCells (.slice A 0 c)) 130 (0, 0)))
    (hb : Below W1.heap.size W1 w3) (hbase : base ≤ W1.heap.size) (hok : ¬ ok W1.heap.size) : BRep w3 base W1.heap.size [] [] A c ok :=
  ⟨⟨_, hh, big_size _, fun k hk _ => big_at _ k hk, fun k hk => absurd hk List.not_mem_nil, big_last _⟩, Kd.R_below hR hb, hok, hbase⟩
set_option maxRecDepth 100000 in
set_option maxHeartbeats 4000000 in
theorem build_calls (b x c : Nat) (w : World) (h4 : w.cell? ⟨b, 4, none⟩ = some (.slice (some ⟨x, 0, none⟩) 6 c))
    (x0 : w.cell? ⟨x, 0, none⟩ = some (.string ⟨#[92]⟩)) (x1 : w.cell? ⟨x, 1, none⟩ = some (.string ⟨#[92, 92]⟩)) (x2 : w.cell? ⟨x, 2, none⟩ = some (.string ⟨#[32]⟩)) (x3 : w.cell? ⟨x, 3, none⟩ = some (.string ⟨#[92, 32]⟩))
    (x4 : w.cell? ⟨x, 4, none⟩ = some (.string ⟨#[58]⟩)) (x5 : w.cell? ⟨x, 5, none⟩ = some (.string ⟨#[92, 58]⟩)) :
    Calls Try.prog 73 #[.pointer (some ⟨b, 0, none⟩)] w fun e w' => ∃ h A c ok, e = .returned (.iface 131 (.pointer (some ⟨h, 0, none⟩))) ∧ BRep w' w.heap.size h [92, 32, 58] [oneS 58, oneS 32, oneS 92] A c ok ∧ Below w.heap.size w w' := by
  go_enter Try.func73, Try.ntmps73
  go_wp2_with fail
  refine wp_loop_rounds 4 ?_
  rw [rounds_succ]
  go_wp2_with fail
  rw [rounds_succ]
  go_wp2_with fail
  rw [rounds_succ]
  go_wp2_with fail
  rw [rounds_succ]
  go_wp2_with (first
    | (at_make; refine Kd.R_make0 Kd.string (w0 := w) (W := w) w.heap.size 9 rfl rfl 30 _ _ rfl 3 rfl rfl Try.underlying30 (.string ⟨#[]⟩) 16 info9 rfl (by decide) (by decide) ⟨#[]⟩ (ok := fun k => k = w.heap.size) (okp := fun _ => False) rfl (fun _ h => h.elim) rfl (by decide) (by decide) (Below.refl _ _) (Nat.le_refl _) ?_; intro v1 w1 hR1 hb1 hg1 hfr1; obtain ⟨A1, c1, rfl⟩ := Kd.R_slice hR1; have HR1 := Aside0.mk hR1)
    | ((with_reducible refine gate_op (X := .build 130 #[(1, .tmp 94)]) rfl ?_); refine rep_build_event rfl rfl rfl ?_)
    | ((with_reducible refine gate_op (X := .store 130 (.tmp 11) (.tmp 95)) rfl ?_); refine rep_store_event rfl rfl rfl rfl ?_; intro w3 hh3 hb3 hs3)
    | fail)
  have hx := World.block_lt_of_cell? w _ x0
  have hok3 : ¬ (fun k => k = w.heap.size) w1.heap.size := fun (e : w1.heap.size = w.heap.size) => by
    obtain ⟨bb, hb, hle⟩ := hfr1
    have := Kd.R_lt hR1 bb hb
    omega
  have HB3 := Aside0.mk (BRep.start (w3 := w3) HR1.out hh3 hb3 hb1.size hok3)
  have HW3 := Aside0.mk (hb1.trans (hb3.mono hb1.size))
  have heq := fun (W : World) A n c => run_eql_slice_nil (P := Try.prog) W 35 Try.underlying35 A n c
  clear hR1 hfr1 hg1 hok3 hh3 hb3 hs3 hb1
  refine wp_loop_rounds 4 ?_
  -- the byte 58
  obtain ⟨p4, q4⟩ := HB3.out.cells 58 (by decide) (by decide)
  have y4 := (HW3.out.cell (p := ⟨x, 4, none⟩) hx).trans x4
  have z4 := (HW3.out.cell (p := ⟨x, 5, none⟩) hx).trans x5
  have hsz4 : w.heap.size ≤ (w3.alloc (.cells #[.int .u8 58] 5)).heap.size := by have := HW3.out.size; simp; omega
  have hcv := fun (W : World) => conv_oneS W 58
  have kb := fun (W : World) => print_bytes (P := Try.prog) 9 35 5 Try.underlying9 Try.underlying35 Try.underlying5 ⟨#[92, 58]⟩ W
  have hix : ∀ h : 0 < (⟨#[58]⟩ : ByteArray).size, (((⟨#[58]⟩ : ByteArray)[0]'h).toNat : Int) = 58 := fun _ => rfl
  rw [rounds_succ]
  go_wp2_with (first
    | (at_builtin; refine reps_push (W := w3.alloc (.cells #[.int .u8 58] 5)) (by simp) rfl rfl rfl rfl (Kd.R_alloc HB3.out.row _) hsz4 (by decide) ?_; intro v4 w4a hR4 hg4; obtain ⟨A4, c4, rfl⟩ := Kd.R_slice hR4; obtain ⟨e4, f4, m4⟩ := HB3.out.mid 58 (by decide) (by decide) ((Below.refl _ w3).alloc (Nat.le_refl _) _) hg4; have m4a := fun v => (m4 v ⟨#[92, 58]⟩).1; have m4b := fun v => (m4 v ⟨#[92, 58]⟩).2; have HR4 := Aside0.mk (And.intro hR4 hg4); clear hR4 hg4 m4)
    | fail)
  have HB4 := Aside0.mk (BRep.step (m := 1) rfl HB3.out 58 (by decide) (by decide) ((Below.refl _ w3).alloc (Nat.le_refl _) _) HR4.out.1 HR4.out.2 ⟨#[92, 58]⟩ rfl rfl rfl (grownCap (w4a.setCell ⟨w1.heap.size, 256, none⟩ (.slice A4 1 c4)) 2 0 5) (cap_two _))
  clear p4 q4 y4 z4 hsz4 hcv kb hix e4 f4 m4a m4b HR4
  generalize ((Lib.bytesWorld (w4a.setCell ⟨w1.heap.size, 256, none⟩ (.slice A4 1 c4)) 5 ⟨#[92, 58]⟩).setCell ⟨w1.heap.size, 58, none⟩ (.slice (some ⟨w4a.heap.size, 0, none⟩) 2 (grownCap (w4a.setCell ⟨w1.heap.size, 256, none⟩ (.slice A4 1 c4)) 2 0 5))) = w4 at HB4 ⊢
  obtain ⟨ok4, hB4, hW4⟩ := HB4.out
  clear HB4
  have HB4 := Aside0.mk hB4
  have HW4 := Aside0.mk (HW3.out.trans hW4)
  clear hB4 hW4
  -- the byte 32
  obtain ⟨p5, q5⟩ := HB4.out.cells 32 (by decide) (by decide)
  have y5 := (HW4.out.cell (p := ⟨x, 2, none⟩) hx).trans x2
  have z5 := (HW4.out.cell (p := ⟨x, 3, none⟩) hx).trans x3
  have hsz5 : w.heap.size ≤ (w4.alloc (.cells #[.int .u8 32] 5)).heap.size := by have := HW4.out.size; simp; omega
  have hcv := fun (W : World) => conv_oneS W 32
  have kb := fun (W : World) => print_bytes (P := Try.prog) 9 35 5 Try.underlying9 Try.underlying35 Try.underlying5 ⟨#[92, 32]⟩ W
  have hix : ∀ h : 0 < (⟨#[32]⟩ : ByteArray).size, (((⟨#[32]⟩ : ByteArray)[0]'h).toNat : Int) = 32 := fun _ => rfl
  rw [rounds_succ]
  go_wp2_with (first
    | (at_builtin; refine reps_push (W := w4.alloc (.cells #[.int .u8 32] 5)) (by simp) rfl rfl rfl rfl (Kd.R_alloc HB4.out.row _) hsz5 (by decide) ?_; intro v5 w5a hR5 hg5; obtain ⟨A5, c5, rfl⟩ := Kd.R_slice hR5; obtain ⟨e5, f5, m5⟩ := HB4.out.mid 32 (by decide) (by decide) ((Below.refl _ w4).alloc (Nat.le_refl _) _) hg5; have m5a := fun v => (m5 v ⟨#[92, 32]⟩).1; have m5b := fun v => (m5 v ⟨#[92, 32]⟩).2; have HR5 := Aside0.mk (And.intro hR5 hg5); clear hR5 hg5 m5)
    | fail)
  have HB5 := Aside0.mk (BRep.step (m := 2) rfl HB4.out 32 (by decide) (by decide) ((Below.refl _ w4).alloc (Nat.le_refl _) _) HR5.out.1 HR5.out.2 ⟨#[92, 32]⟩ rfl rfl rfl (grownCap (w5a.setCell ⟨w1.heap.size, 256, none⟩ (.slice A5 2 c5)) 2 0 5) (cap_two _))
  clear p5 q5 y5 z5 hsz5 hcv kb hix e5 f5 m5a m5b HR5
  generalize ((Lib.bytesWorld (w5a.setCell ⟨w1.heap.size, 256, none⟩ (.slice A5 2 c5)) 5 ⟨#[92, 32]⟩).setCell ⟨w1.heap.size, 32, none⟩ (.slice (some ⟨w5a.heap.size, 0, none⟩) 2 (grownCap (w5a.setCell ⟨w1.heap.size, 256, none⟩ (.slice A5 2 c5)) 2 0 5))) = w5 at HB5 ⊢
  obtain ⟨ok5, hB5, hW5⟩ := HB5.out
  clear HB5
  have HB5 := Aside0.mk hB5
  have HW5 := Aside0.mk (HW4.out.trans hW5)
  clear hB5 hW5
  -- the byte 92
  obtain ⟨p6, q6⟩ := HB5.out.cells 92 (by decide) (by decide)
  have y6 := (HW5.out.cell (p := ⟨x, 0, none⟩) hx).trans x0
  have z6 := (HW5.out.cell (p := ⟨x, 1, none⟩) hx).trans x1
  have hsz6 : w.heap.size ≤ (w5.alloc (.cells #[.int .u8 92] 5)).heap.size := by have := HW5.out.size; simp; omega
  have hcv := fun (W : World) => conv_oneS W 92
  have kb := fun (W : World) => print_bytes (P := Try.prog) 9 35 5 Try.underlying9 Try.underlying35 Try.underlying5 ⟨#[92, 92]⟩ W
  have hix : ∀ h : 0 < (⟨#[92]⟩ : ByteArray).size, (((⟨#[92]⟩ : ByteArray)[0]'h).toNat : Int) = 92 := fun _ => rfl
  rw [rounds_succ]
  go_wp2_with (first
    | (at_builtin; refine reps_push (W := w5.alloc (.cells #[.int .u8 92] 5)) (by simp) rfl rfl rfl rfl (Kd.R_alloc HB5.out.row _) hsz6 (by decide) ?_; intro v6 w6a hR6 hg6; obtain ⟨A6, c6, rfl⟩ := Kd.R_slice hR6; obtain ⟨e6, f6, m6⟩ := HB5.out.mid 92 (by decide) (by decide) ((Below.refl _ w5).alloc (Nat.le_refl _) _) hg6; have m6a := fun v => (m6 v ⟨#[92, 92]⟩).1; have m6b := fun v => (m6 v ⟨#[92, 92]⟩).2; have HR6 := Aside0.mk (And.intro hR6 hg6); clear hR6 hg6 m6)
    | fail)
  have HB6 := Aside0.mk (BRep.step (m := 3) rfl HB5.out 92 (by decide) (by decide) ((Below.refl _ w5).alloc (Nat.le_refl _) _) HR6.out.1 HR6.out.2 ⟨#[92, 92]⟩ rfl rfl rfl (grownCap (w6a.setCell ⟨w1.heap.size, 256, none⟩ (.slice A6 3 c6)) 2 0 5) (cap_two _))
  clear p6 q6 y6 z6 hsz6 hcv kb hix e6 f6 m6a m6b HR6
  generalize ((Lib.bytesWorld (w6a.setCell ⟨w1.heap.size, 256, none⟩ (.slice A6 3 c6)) 5 ⟨#[92, 92]⟩).setCell ⟨w1.heap.size, 92, none⟩ (.slice (some ⟨w6a.heap.size, 0, none⟩) 2 (grownCap (w6a.setCell ⟨w1.heap.size, 256, none⟩ (.slice A6 3 c6)) 2 0 5))) = w6 at HB6 ⊢
  obtain ⟨ok6, hB6, hW6⟩ := HB6.out
  clear HB6
  have HB6 := Aside0.mk hB6
  have HW6 := Aside0.mk (HW5.out.trans hW6)
  clear hB6 hW6
  rw [rounds_succ]
  go_wp2_with fail
  go_ret
  exact ⟨_, _, _, _, rfl, HB6.out, HW6.out⟩
end Go.Proofs.Ytahdgaaedilcmaa.P
/- (*strings.byteStringReplacer).Replace over the table of depfile.written. -/
namespace Go.Proofs.Ytahdgaaedilcmaa.P
open Go.RowKit Go.Proofs.YtahdgaaedilcmaaW.PrintWords Go.Proofs.YtahdgaaedilcmaaW.PrintLast Go.Proofs.YtahdgaaedilcmaaW.PrintMore
set_option linter.unusedVariables false
/-- Is it a byte that is written with a \ ahead? -/
def spc (c : Int) : Bool := decide (c = 92 ∨ c = 32 ∨ c = 58)
/-- How many of the first bytes are. -/
def spN (s : ByteArray) : Nat → Nat
  | 0 => 0
  | i + 1 => if spc (bt s i) = true then spN s i + 1 else spN s i
/-- What is written of the first bytes. -/
def outN (s : ByteArray) : Nat → List Int
  | 0 => []
  | i + 1 => if spc (bt s i) = true then outN s i ++ [92, bt s i] else outN s i ++ [bt s i]
theorem outN_len (s : ByteArray) : ∀ i, (outN s i).length = i + spN s i
  | 0 => rfl
  | i + 1 => by
    unfold outN spN
    split
    · rw [List.length_append, outN_len s i]; simp; omega
    · rw [List.length_append, outN_len s i]; simp; omega
theorem spN_le (s : ByteArray) : ∀ i, spN s i ≤ i
  | 0 => Nat.le_refl _
  | i + 1 => by
    unfold spN
    have := spN_le s i
    split <;> omega
theorem spN_mono (s : ByteArray) : ∀ d i, spN s i ≤ spN s (i + d)
  | 0, i => Nat.le_refl _
  | d + 1, i => by
    have h1 := spN_mono s d i
    have h2 : spN s (i + d) ≤ spN s (i + d + 1) := by
      conv => rhs; unfold spN
      split <;> omega
    exact Nat.le_trans h1 h2
theorem outN_none (s : ByteArray) : ∀ i, spN s i = 0 → i ≤ s.size → outN s i = (bytesOf s).take i
  | 0, _, _ => by simp [outN]
  | i + 1, h, hi => by
    have hm := spN_mono s 1 i
    have h0 : spN s i = 0 := by omega
    have hs : spc (bt s i) = false := by
      cases hc : spc (bt s i) with
      | false => rfl
      | true => unfold spN at h; rw [if_pos hc] at h; omega
    unfold outN
    rw [if_neg (by rw [hs]; simp), outN_none s i h0 (by omega)]
    have hl : i < (bytesOf s).length := by rw [bytesOf_length]; omega
    rw [List.take_add_one, List.getElem?_eq_getElem hl]
    congr 2
    simp [bytesOf, bt, ByteArray.getElem_eq_getElem_data, show i < s.size by omega]
/-- The text as it is written. -/
def escS (s : ByteArray) : ByteArray := strOfNums (outN s s.size)
theorem BRep.below {W W1 : World} {base h : Nat} {S : List Nat} {T : List ByteArray} {A : Option Addr} {c : Nat} {ok : Nat → Prop} (hB : BRep W base h S T A c ok) (hb : Below W.heap.size W W1) : BRep W1 base h S T A c ok := by
  obtain ⟨⟨cur, hblk, hsz, hnil, hslc, hlst⟩, hrow, hokh, hbh⟩ := hB
  refine ⟨⟨cur, (hb.block h (blk_lt hblk)).trans hblk, hsz, hnil, fun k hk => ?_, hlst⟩, Kd.R_below hrow hb, hokh, hbh⟩
  obtain ⟨g, n, h1, h2, h3, h4, h5, h6, h7⟩ := hslc k hk
  exact ⟨g, n, h1, h2, h3, h4, by have := hb.size; omega, (hb.cell (p := ⟨g, 0, none⟩) h5).trans h6, (hb.cell (p := ⟨g, 1, none⟩) h5).trans h7⟩
theorem BRep.yes {W : World} {base h : Nat} {T : List ByteArray} {A : Option Addr} {c : Nat} {ok : Nat → Prop} (hB : BRep W base h [92, 32, 58] T A c ok) {x : Int} (h0 : 0 ≤ x) (h1 : x ≤ 255) (hs : spc x = true) :
    ∃ g n, W.cell? ⟨h, x.toNat, none⟩ = some (.slice (some ⟨g, 0, none⟩) 2 n) ∧ g ≠ h ∧ g < W.heap.size ∧ W.cell? ⟨g, 0, none⟩ = some (.int .u8 92) ∧ W.cell? ⟨g, 1, none⟩ = some (.int .u8 x) := by
  obtain ⟨⟨cur, hblk, hsz, hnil, hslc, hlst⟩, hrow, hokh, hbh⟩ := hB
  have hx : x.toNat ∈ [92, 32, 58] := by
    have := of_decide_eq_true hs
    rcases this with rfl | rfl | rfl <;> decide
  obtain ⟨g, n, h1, h2, h3, h4, h5, h6, h7⟩ := hslc x.toNat hx
  exact ⟨g, n, by rw [blk_cell hblk]; exact h1, h3, h5, h6, by rw [h7]; congr 2; omega⟩
theorem BRep.no {W : World} {base h : Nat} {T : List ByteArray} {A : Option Addr} {c : Nat} {ok : Nat → Prop} (hB : BRep W base h [92, 32, 58] T A c ok) {x : Int} (h0 : 0 ≤ x) (h1 : x ≤ 255) (hs : spc x = false) :
    W.cell? ⟨h, x.toNat, none⟩ = some (.slice none 0 0) := by
  obtain ⟨⟨cur, hblk, hsz, hnil, hslc, hlst⟩, hrow, hokh, hbh⟩ := hB
  rw [blk_cell hblk]
  refine hnil x.toNat (by omega) (fun hm => ?_)
  have := of_decide_eq_false hs
  simp only [List.mem_cons, List.not_mem_nil, or_false] at hm
  omega
theorem spN_step (s : ByteArray) {i : Int} (h0 : 0 ≤ i) : spN s (i + 1).toNat = spN s i.toNat + (if spc (bt s i) = true then 1 else 0) := by
  rw [show (i + 1).toNat = i.toNat + 1 by omega]
  conv => lhs; unfold spN
  rw [show ((i.toNat : Nat) : Int) = i by omega]
  split <;> rfl
theorem outN_step (s : ByteArray) {i : Int} (h0 : 0 ≤ i) : outN s (i + 1).toNat = outN s i.toNat ++ (if spc (bt s i) = true then [92, bt s i] else [bt s i]) := by
  rw [show (i + 1).toNat = i.toNat + 1 by omega]
  conv => lhs; unfold outN
  rw [show ((i.toNat : Nat) : Int) = i by omega]
  split <;> rfl
theorem escS_same (s : ByteArray) (h : spN s s.size = 0) : escS s = s := by
  unfold escS
  rw [outN_none s s.size h (Nat.le_refl _), List.take_of_length_le (by rw [bytesOf_length]; exact Nat.le_refl _)]
  unfold strOfNums bytesOf
  rw [List.map_map, show ((fun n : Int => UInt8.ofNat n.toNat) ∘ fun b : UInt8 => (b.toNat : Int)) = id by funext b; simp, List.map_id]
theorem set_two (l : List Int) (m : Nat) (a b : Int) : ((l ++ List.replicate (m + 2) 0).set l.length a).set (l.length + 1) b = (l ++ [a, b]) ++ List.replicate m 0 := by
  rw [List.set_append_right _ _ (Nat.le_refl _), Nat.sub_self, List.replicate_succ, List.set_cons_zero, List.set_append_right _ _ (by omega), Nat.add_sub_cancel_left, List.set_cons_succ, List.replicate_succ, List.set_cons_zero]
  simp
theorem set_one (l : List Int) (m : Nat) (a : Int) : (l ++ List.replicate (m + 1) 0).set l.length a = (l ++ [a]) ++ List.replicate m 0 := by
  rw [List.set_append_right _ _ (Nat.le_refl _), Nat.sub_self, List.replicate_succ, List.set_cons_zero]
  simp
/-- What the buffer holds: what is written of the first bytes, then zeros. -/
structure Buf (w0 w : World) (g n cap : Nat) (l : List Int) (k : Nat) : Prop where
  row : Kd.R (Kd.int .u8) 5 w w0.heap.size (fun q => q = g) (.slice (some ⟨g, 0, none⟩) n cap) (l ++ List.replicate k 0)
  len : l.length + k = n
  low : Below w0.heap.size w0 w
  base : w0.heap.size ≤ g
theorem Buf.start {w w1 : World} {z : Int} {A1 : Option Addr} {c1 : Nat} (hR : Kd.R (Kd.int .u8) 5 w1 w.heap.size (fun k => k = w.heap.size) (.slice A1 (List.replicate z.toNat (0 : Int)).length c1) (List.replicate z.toNat 0)) (hb : Below w.heap.size w w1)
    (hfr : ∃ b, (Value.slice A1 (List.replicate z.toNat (0 : Int)).length c1).ownBlock = some b ∧ w.heap.size ≤ b) : ∃ g, A1 = some ⟨g, 0, none⟩ ∧ Buf w w1 g z.toNat c1 [] z.toNat := by
  obtain ⟨b, hb1, hle⟩ := hfr
  cases A1 with
  | none => cases hb1
  | some ad =>
    obtain ⟨g, rfl⟩ := Kd.R_head hR
    have hg : g = w.heap.size := hR.1 g rfl
    rw [List.length_replicate] at hR
    exact ⟨g, rfl, by rw [List.nil_append, hg]; rw [hg] at hR; exact hR, by simp, hb, by omega⟩
theorem Buf.room {w0 w : World} {g n cap : Nat} {l : List Int} {k : Nat} (h : Buf w0 w g n cap l k) (j : Nat) (hj : j < n) : (w.cell? ⟨g, j, none⟩).isSome = true ∧ w.frozen? ⟨g, j, none⟩ = false := by
  have hr := h.row
  have hln : (l ++ List.replicate k (0 : Int)).length = n := by rw [List.length_append, List.length_replicate]; exact h.len
  rw [← hln] at hr
  obtain ⟨h1, h2⟩ := Kd.R_cell (h1 := fun _ => rfl) (enc := Value.int .u8) 0 hr (j : Int) (by omega) (by omega)
  rw [Int.toNat_natCast] at h1 h2
  exact ⟨by rw [h1]; rfl, h2⟩
theorem Buf.put {w0 w : World} {g n cap : Nat} {l : List Int} {k : Nat} (h : Buf w0 w g n cap l (k + 1)) (x : Int) : Buf w0 (w.setCell ⟨g, l.length, none⟩ (.int .u8 x)) g n cap (l ++ [x]) k := by
  have hr := h.row
  have hln : (l ++ List.replicate (k + 1) (0 : Int)).length = n := by rw [List.length_append, List.length_replicate]; exact h.len
  rw [← hln] at hr
  have h1 := (Kd.R_put (h1 := fun _ => rfl) (enc := Value.int .u8) hr (l.length : Int) x).1
  rw [Int.toNat_natCast, hln, set_one] at h1
  exact ⟨h1, by have := h.len; simp; omega, h.low.setCell (p := ⟨g, l.length, none⟩) h.base _, h.base⟩
theorem copy_event {W w2 : World} {g0 j0 dn dc g n : Nat} {ops : Array Oper} {o : Oper} {a : Act} {Q : Exit → Act → World → Prop} {Kc : Act → World → Prop} {E : Prop} {x y : Operand}
    (hgd : o.guard = none) (ho : o.op = .call { callee := .builtin .copy, args := #[x, y], argTypes := #[35, 35] }) (hx : a.eval x = .slice (some ⟨g0, j0, none⟩) dn dc) (hy : a.eval y = .slice (some ⟨g, 0, none⟩) 2 n)
    (hrun : (Builtin.copy_ #[35, 35] o.type #[.slice (some ⟨g0, j0, none⟩) dn dc, .slice (some ⟨g, 0, none⟩) 2 n]).run Try.prog W = .ok (.int .i64 2) w2) (h : Kc (a.put o.dst (.int .i64 2)) w2) : if Region.wanted o (yielded ops a.tmps) = true then Oper.wp Try.prog o a W Kc Q else E := by
  have hw : Region.wanted o (yielded ops a.tmps) = true := by simp [Region.wanted, hgd]
  rw [if_pos hw]
  unfold Oper.wp execOp
  simp only [ho, resolve, invoke, builtin, Sem.run_bind, Sem.run_pure, Result.andThen_ok, List.map_toArray, List.map_cons, List.map_nil, hx, hy, hrun]
  exact h
theorem run_copy2 (W : World) (ty : TypeId) {g0 j0 dn dc g n : Nat} {x : Int} (hd : 2 ≤ dn) (h0 : W.cell? ⟨g, 0, none⟩ = some (.int .u8 92)) (h1 : W.cell? ⟨g, 1, none⟩ = some (.int .u8 x))
    (hc : ∀ j, j < 2 → (W.cell? ⟨g0, j0 + j, none⟩).isSome = true ∧ W.frozen? ⟨g0, j0 + j, none⟩ = false) :
    (Builtin.copy_ #[35, 35] ty #[.slice (some ⟨g0, j0, none⟩) dn dc, .slice (some ⟨g, 0, none⟩) 2 n]).run Try.prog W = .ok (.int .i64 2) ((W.setCell ⟨g0, j0, none⟩ (.int .u8 92)).setCell ⟨g0, j0 + 1, none⟩ (.int .u8 x)) := by
  have h := run_copy_cells (P := Try.prog) W 35 35 ty 5 g0 j0 dn dc ⟨g, 0, none⟩ 2 n [.int .u8 92, .int .u8 x] Try.underlying35 (by rw [Option.map_eq_some_iff]; obtain ⟨i, hi, he⟩ := Option.map_eq_some_iff.1 info5; simp only [Prod.mk.injEq] at he; exact ⟨i, hi, he.2.1⟩)
    (by simp [Nat.min_def]; omega) ?_ (fun j hj => (hc j hj).1) (fun j hj => (hc j hj).2) (by intro v hv; simp at hv; rcases hv with rfl | rfl <;> rfl)
  · exact h
  · intro j v hv
    match j, hv with
    | 0, hv => injection hv with hv; subst hv; exact h0
    | 1, hv => injection hv with hv; subst hv; exact h1
    | j + 2, hv => simp at hv
theorem Buf.gh {w0 w : World} {g n cap : Nat} {l : List Int} {k base h : Nat} {S : List Nat} {T : List ByteArray} {A : Option Addr} {c : Nat} {ok : Nat → Prop} (hM : Buf w0 w g n cap l k) (hB : BRep w0 base h S T A c ok) (e : g = h) : False := by
  obtain ⟨cur, hblk, _⟩ := hB.tab
  have := blk_lt hblk
  have := hM.base
  omega
theorem Buf.put2 {w0 w : World} {g n cap : Nat} {l : List Int} {k : Nat} {j x : Int} (h : Buf w0 w g n cap l (k + 2)) (hj : j = (l.length : Int)) :
    Buf w0 ((w.drew.setCell ⟨g, j.toNat, none⟩ (.int .u8 92)).setCell ⟨g, j.toNat + 1, none⟩ (.int .u8 x)) g n cap (l ++ [92, x]) k := by
  subst hj
  rw [Int.toNat_natCast]
  have h0 : Buf w0 w.drew g n cap l (k + 1 + 1) := ⟨Kd.R_drew h.row, h.len, below_drew h.low, h.base⟩
  have h1 := h0.put 92
  have h2 := h1.put x
  rw [List.length_append, List.length_singleton, List.append_assoc] at h2
  exact h2
theorem Buf.put1 {w0 w : World} {g n cap : Nat} {l : List Int} {k : Nat} {j x : Int} (h : Buf w0 w g n cap l (k + 1)) (hj : j = (l.length : Int)) : Buf w0 (w.setCell ⟨g, j.toNat, none⟩ (.int .u8 x)) g n cap (l ++ [x]) k := by
  subst hj
  rw [Int.toNat_natCast]
  exact h.put x
theorem Buf.told {w0 w : World} {g n cap : Nat} {l : List Int} (h : Buf w0 w g n cap l 0) : (convert 35 9 (.slice (some ⟨g, 0, none⟩) n cap)).run Try.prog w = .ok (.string (strOfNums l)) w := by
  have hr := h.row
  have hl := h.len
  rw [List.replicate_zero, List.append_nil] at hr
  have hn : n = l.length := by omega
  subst hn
  exact Kd.C_string Try.underlying35 Try.underlying5 Try.underlying9 (Kd.R_reads' hr).2.2
/-- How many of the three bytes stand in the text, by the first ones of them. -/
def cnt3 (a b c : Nat) : Nat → Nat
  | 0 => 0
  | 1 => a
  | 2 => a + b
  | _ => a + b + c
theorem spN_take (s : ByteArray) : ∀ i, i ≤ s.size → spN s i = (s.data.toList.take i).count 58 + (s.data.toList.take i).count 32 + (s.data.toList.take i).count 92
  | 0, _ => by simp [spN]
  | i + 1, h => by
    have hl : i < s.data.toList.length := by rw [Array.length_toList]; exact h
    rw [spN, spN_take s i (by omega), List.take_succ_eq_append_getElem hl, List.count_append, List.count_append, List.count_append]
    have hb : bt s i = ((s.data.toList[i]'hl).toNat : Int) := by
      unfold bt
      rw [dif_pos (show ((i : Int)).toNat < s.size by omega)]
      simp [ByteArray.getElem_eq_getElem_data]
    rw [hb]
    generalize s.data.toList[i]'hl = c
    have h92 : ((c.toNat : Int) = 92) ↔ c = 92 := ⟨fun e => UInt8.toNat.inj (by simp; omega), fun e => by rw [e]; rfl⟩
    have h32 : ((c.toNat : Int) = 32) ↔ c = 32 := ⟨fun e => UInt8.toNat.inj (by simp; omega), fun e => by rw [e]; rfl⟩
    have h58 : ((c.toNat : Int) = 58) ↔ c = 58 := ⟨fun e => UInt8.toNat.inj (by simp; omega), fun e => by rw [e]; rfl⟩
    unfold spc
    simp only [decide_eq_true_eq, h92, h32, h58]
    by_cases e1 : c = 92
    · subst e1; simp; omega
    · by_cases e2 : c = 32
      · subst e2; simp; omega
      · by_cases e3 : c = 58
        · subst e3; simp; omega
        · simp [e1, e2, e3]
theorem spN_count (s : ByteArray) : spN s s.size = Lib.countByte s.data.toList 58 + Lib.countByte s.data.toList 32 + Lib.countByte s.data.toList 92 := by
  rw [spN_take s s.size (Nat.le_refl _), List.take_of_length_le (by rw [Array.length_toList]; exact Nat.le_refl _)]
  rfl
set_option maxRecDepth 100000 in
set_option maxHeartbeats 4000000 in
theorem bsr_calls (h base : Nat) (A : Option Addr) (c : Nat) (ok : Nat → Prop) (s : ByteArray) (w : World) (hB : BRep w base h [92, 32, 58] [oneS 58, oneS 32, oneS 92] A c ok) (hs : s.size ≤ 1000000) :
    Calls Try.prog 129 #[.pointer (some ⟨h, 0, none⟩), .string s] w fun e w' => e = .returned (.string (escS s)) ∧ Below w.heap.size w w' := by
  have hl := blk_cell hB.tab.choose_spec.1 256
  rw [hB.tab.choose_spec.2.2.2.2] at hl
  simp only [List.length_cons, List.length_nil] at hl
  have HB := Aside0.mk hB
  clear hB
  have hneq := fun (W : World) A n c => run_neq_slice_nil (P := Try.prog) W 35 Try.underlying35 A n c
  rcases Nat.lt_or_ge s.size 24 with hlt | hge
  · have c26 : decide ((24 : Int) ≤ (s.size : Int)) = false := decide_eq_false (by omega)
    go_enter Try.func129, Try.ntmps129
    go_wp2_with fail
    go_loop [5, 6, 10] (fun v5 v6 v10 => ∃ (i z : Int) (b : Bool), v10 = .int .i64 i ∧ v5 = .int .i64 z ∧ v6 = .bool b ∧ Aside0 (0 ≤ i ∧ i ≤ s.size ∧ z = s.size + spN s i.toNat ∧ (b = true ↔ 0 < spN s i.toNat)))
      (fun v5 v6 v10 => match v10 with | .int _ i => (s.size - i).toNat | _ => 0)
    case atStart => exact ⟨0, _, false, rfl, rfl, rfl, ⟨Int.le_refl 0, by omega, by simp [spN], by simp [spN]⟩⟩
    case round =>
      obtain ⟨i, z, b, rfl, rfl, rfl, HI⟩ := hrel
      obtain ⟨i0, i1, i2, i3⟩ := HI.out
      have hsp := spN_le s i.toNat
      have hst := spN_step s i0
      rcases Int.lt_or_le i s.size with hi | hi
      · have c58 : decide (i < (s.size : Int)) = true := decide_eq_true hi
        have hx := bt_at s i
        have hr := bt_range s i
        have wi : wrap64 (i + 1) = i + 1 := w64_ (by omega) (by omega)
        have wz : wrap64 (z + 1) = z + 1 := w64_ (by omega) (by omega)
        have p0 : (0 ≤ i) = True := eq_true i0
        have p1 : (i < (s.size : Int)) = True := eq_true hi
        have q0 : (0 ≤ bt s i) = True := eq_true hr.1
        have q1 : (bt s i < 256) = True := eq_true (by omega)
        cases hc : spc (bt s i) with
        | true =>
          obtain ⟨g, n, k1, k2, k3, k4, k5⟩ := HB.out.yes hr.1 hr.2 hc
          rw [hc, if_pos rfl] at hst
          have HK := Aside0.mk (And.intro i0 (And.intro hi (And.intro i2 (And.intro i3 hst))))
          clear i0 i1 i2 i3 hi hr hsp hc k2 k3 k4 k5 hst
          go_wp2_with fail
          go_round
          case rel => exact ⟨i + 1, z + 1, true, by rw [wi], by rw [wz], rfl, ⟨by have := HK.out.1; omega, by have := HK.out.2.1; omega, by have := HK.out.2.2.1; have := HK.out.2.2.2.2; omega, by have := HK.out.2.2.2.2; exact ⟨fun _ => by omega, fun _ => rfl⟩⟩⟩
          case measure =>
            have := HK.out.2.1
            dsimp only
            rw [wi]
            omega
        | false =>
          have k1 := HB.out.no hr.1 hr.2 hc
          rw [hc, if_neg (by simp), Nat.add_zero] at hst
          have HK := Aside0.mk (And.intro i0 (And.intro hi (And.intro i2 (And.intro i3 hst))))
          clear i0 i1 i2 i3 hi hr hsp hc hst
          go_wp2_with fail
          go_round
          case rel => exact ⟨i + 1, z, b, by rw [wi], rfl, rfl, ⟨by have := HK.out.1; omega, by have := HK.out.2.1; omega, by rw [HK.out.2.2.2.2]; exact HK.out.2.2.1, by rw [HK.out.2.2.2.2]; exact HK.out.2.2.2.1⟩⟩
          case measure =>
            have := HK.out.2.1
            dsimp only
            rw [wi]
            omega
      · have c58 : decide (i < (s.size : Int)) = false := decide_eq_false (by omega)
        obtain rfl : i = (s.size : Int) := by omega
        rw [Int.toNat_natCast] at i2 i3
        have HT := Aside0.mk (And.intro i2 i3)
        clear i0 i1 i2 i3 hi hsp hst HI
        cases b with
        | false =>
          go_wp2_with fail
          go_ret
          exact ⟨by rw [escS_same s (by have := HT.out.2; simp at this; omega)]; rfl, (Below.refl _ _)⟩
        | true =>
          have hsp := spN_le s s.size
          have z0 : 0 ≤ z := by have := HT.out.1; omega
          have z1 : z.toNat * 1 ≤ 281474976710656 := by have := HT.out.1; omega
          go_wp2_with (first
            | (at_make; refine Kd.R_make (Kd.int .u8) (w0 := w) (W := w) w.heap.size 5 rfl rfl 35 _ _ rfl z rfl rfl Try.underlying35 (.int .u8 0) 1 info5 rfl (by decide) (by decide) 0 (ok := fun k => k = w.heap.size) (okp := fun _ => False) rfl (fun _ h => h.elim) rfl z0 z1 (Below.refl _ _) (Nat.le_refl _) ?_; intro v1 w1 hR1 hb1 hg1 hfr1; obtain ⟨A1, c1, rfl⟩ := Kd.R_slice hR1; obtain ⟨g, rfl, hM⟩ := Buf.start hR1 hb1 hfr1; have HM := Aside0.mk hM; clear hR1 hb1 hg1 hfr1 hM)
            | fail)
          have hN : ((z.toNat : Nat) : Int) = z := by omega
          go_loopw [13, 14] (fun v13 v14 wr => ∃ (i j : Int) (k : Nat), v14 = .int .i64 i ∧ v13 = .int .i64 j ∧ Aside0 (0 ≤ i ∧ i ≤ s.size ∧ j = (outN s i.toNat).length ∧ Buf w wr g z.toNat c1 (outN s i.toNat) k))
            (fun v13 v14 wr => match v14 with | .int _ i => (s.size - i).toNat | _ => 0)
          case atStart => exact ⟨0, 0, z.toNat, rfl, rfl, ⟨Int.le_refl 0, by omega, rfl, HM.out⟩⟩
          case round =>
            obtain ⟨i, j, k, rfl, rfl, HI⟩ := hrel
            obtain ⟨i0, i1, i2, hM⟩ := HI.out
            have hlen := outN_len s i.toNat
            have hst := outN_step s i0
            have hsn := spN_step s i0
            have hml := hM.len
            have ht1 := HT.out.1
            rcases Int.lt_or_le i s.size with hi | hi
            · have c89 : decide (i < (s.size : Int)) = true := decide_eq_true hi
              have hmm := spN_mono s (s.size - (i + 1).toNat) (i + 1).toNat
              rw [show (i + 1).toNat + (s.size - (i + 1).toNat) = s.size by omega] at hmm
              have hx := bt_at s i
              have hr := bt_range s i
              have wi : wrap64 (i + 1) = i + 1 := w64_ (by omega) (by omega)
              have p0 : (0 ≤ i) = True := eq_true i0
              have p1 : (i < (s.size : Int)) = True := eq_true hi
              have q0 : (0 ≤ bt s i) = True := eq_true hr.1
              have q1 : (bt s i < 256) = True := eq_true (by omega)
              have r0 : (0 ≤ j) = True := eq_true (by omega)
              cases hc : spc (bt s i) with
              | true =>
                rw [hc, if_pos rfl] at hst hsn
                have r1 : (j ≤ z) = True := eq_true (by omega)
                have wj : wrap64 (j + 2) = j + 2 := w64_ (by omega) (by omega)
                have wj' : IntKind.i64.wrap (j + 2) = j + 2 := by rw [IntKind.wrap_i64]; omega
                obtain ⟨g2, n2, k1, k2, k3, k4, k5⟩ := (HB.out.below hM.low).yes hr.1 hr.2 hc
                obtain ⟨k', rfl⟩ : ∃ k', k = k' + 2 := ⟨k - 2, by omega⟩
                have hcp := run_copy2 (W := wr.drew) (dn := z.toNat - j.toNat) (dc := c1 - j.toNat) (g0 := g) (j0 := j.toNat) (n := n2) 3 (by omega) k4 k5 (fun q hq => by have := hM.room (j.toNat + q) (by omega); exact this)
                have hcap := (Kd.R_reads' hM.row).2.1
                have hcne : (c1 = j.toNat) = False := eq_false (by omega)
                have hgh : g ≠ h := fun e => hM.gh HB.out e
                have hks : ((wr.drew.setCell ⟨g, j.toNat, none⟩ (.int .u8 92)).setCell ⟨g, j.toNat + 1, none⟩ (.int .u8 (bt s i))).cell? ⟨h, (bt s i).toNat, none⟩ = some (.slice (some ⟨g2, 0, none⟩) 2 n2) := by
                  rw [World.cell?_of_block (Below.heap_setCell _ ⟨g, j.toNat + 1, none⟩ _ h (Ne.symm hgh)), World.cell?_of_block (Below.heap_setCell _ ⟨g, j.toNat, none⟩ _ h (Ne.symm hgh))]
                  exact k1
                have HK := Aside0.mk (And.intro i0 (And.intro hi (And.intro i2 (And.intro hM hst))))
                clear i0 i1 i2 hi hr hsp hc k2 k3 k4 k5 hst hsn hlen hml ht1 hmm hM HI hcap hgh
                go_wp2_with fail
                go_region_held3 (fun w' => w'.cell? ⟨h, (bt s i).toNat, none⟩ = some (.slice (some ⟨g2, 0, none⟩) 2 n2)) (go_keep) (refine copy_event (by rfl) (by rfl) (by rfl) (by rfl) hcp ?_)
                go_wp2_with fail
                go_roundw
                case rel => exact ⟨i + 1, j + 2, k', by rw [wi], by first | rfl | rw [wj'], ⟨by have := HK.out.1; omega, by have := HK.out.2.1; omega, by rw [HK.out.2.2.2.2]; have := HK.out.2.2.1; simp; omega, by rw [HK.out.2.2.2.2]; exact (HK.out.2.2.2.1.put2 HK.out.2.2.1)⟩⟩
                case measure =>
                  have := HK.out.2.1
                  dsimp only
                  rw [wi]
                  omega
              | false =>
                rw [hc, if_neg (by simp)] at hst
                rw [hc, if_neg (by simp), Nat.add_zero] at hsn
                have r1 : (j < z) = True := eq_true (by omega)
                have r2 : (j.toNat < z.toNat) = True := eq_true (by omega)
                have wj : wrap64 (j + 1) = j + 1 := w64_ (by omega) (by omega)
                have k1 := (HB.out.below hM.low).no hr.1 hr.2 hc
                obtain ⟨k', rfl⟩ : ∃ k', k = k' + 1 := ⟨k - 1, by omega⟩
                have hrm := hM.room j.toNat (by omega)
                obtain ⟨u, hu⟩ := Option.isSome_iff_exists.1 hrm.1
                have hz := hrm.2
                have HK := Aside0.mk (And.intro i0 (And.intro hi (And.intro i2 (And.intro hM hst))))
                clear i0 i1 i2 hi hr hsp hc hst hsn hlen hml ht1 hmm hM HI hrm
                go_wp2_with fail
                go_roundw
                case rel => exact ⟨i + 1, j + 1, k', by rw [wi], by rw [wj], ⟨by have := HK.out.1; omega, by have := HK.out.2.1; omega, by rw [HK.out.2.2.2.2]; have := HK.out.2.2.1; simp; omega, by rw [HK.out.2.2.2.2]; exact (HK.out.2.2.2.1.put1 HK.out.2.2.1)⟩⟩
                case measure =>
                  have := HK.out.2.1
                  dsimp only
                  rw [wi]
                  omega
            · have c89 : decide (i < (s.size : Int)) = false := decide_eq_false (by omega)
              obtain rfl : i = (s.size : Int) := by omega
              rw [Int.toNat_natCast] at i2 hM hlen hml
              have hk0 : k = 0 := by omega
              subst hk0
              have hstr := hM.told
              have HK := Aside0.mk hM.low
              clear i0 i1 i2 hM hlen hst hsn hml ht1 hi hsp HI
              go_wp2_with fail
              go_ret
              exact ⟨rfl, HK.out⟩


  · have c26 : decide ((24 : Int) ≤ (s.size : Int)) = true := decide_eq_true (by omega)
    go_enter Try.func129, Try.ntmps129
    go_wp2_with fail
    obtain ⟨Ar, cr, hAr, hcr, hCr⟩ := Kd.R_reads HB.out.row
    injection hAr with hA1 _ hA3
    subst hA1 hA3
    obtain ⟨g58, n58, p58, _⟩ := HB.out.yes (x := 58) (by decide) (by decide) (by decide)
    obtain ⟨g32, n32, p32, _⟩ := HB.out.yes (x := 32) (by decide) (by decide) (by decide)
    obtain ⟨g92, n92, p92, _⟩ := HB.out.yes (x := 92) (by decide) (by decide) (by decide)
    obtain ⟨ad, rfl, s0⟩ := Kd.at_string hCr 0 (by decide) (by decide)
    obtain ⟨ad', e1, s1⟩ := Kd.at_string hCr 1 (by decide) (by decide)
    injection e1 with e1
    subst e1
    obtain ⟨ad'', e2, s2⟩ := Kd.at_string hCr 2 (by decide) (by decide)
    injection e2 with e2
    subst e2
    obtain ⟨gr, rfl⟩ := Kd.R_head HB.out.row
    have s0 : w.cell? ⟨gr, 0, none⟩ = some (.string ⟨#[58]⟩) := s0
    have s1 : w.cell? ⟨gr, 1, none⟩ = some (.string ⟨#[32]⟩) := s1
    have s2 : w.cell? ⟨gr, 2, none⟩ = some (.string ⟨#[92]⟩) := s2
    have p58 : w.cell? ⟨h, 58, none⟩ = some (.slice (some ⟨g58, 0, none⟩) 2 n58) := p58
    have p32 : w.cell? ⟨h, 32, none⟩ = some (.slice (some ⟨g32, 0, none⟩) 2 n32) := p32
    have p92 : w.cell? ⟨h, 92, none⟩ = some (.slice (some ⟨g92, 0, none⟩) 2 n92) := p92
    have x0 : ∀ h : 0 < (⟨#[58]⟩ : ByteArray).size, (((⟨#[58]⟩ : ByteArray)[0]'h).toNat : Int) = 58 := fun _ => rfl
    have x1 : ∀ h : 0 < (⟨#[32]⟩ : ByteArray).size, (((⟨#[32]⟩ : ByteArray)[0]'h).toNat : Int) = 32 := fun _ => rfl
    have x2 : ∀ h : 0 < (⟨#[92]⟩ : ByteArray).size, (((⟨#[92]⟩ : ByteArray)[0]'h).toNat : Int) = 92 := fun _ => rfl
    obtain ⟨q58, hq58⟩ : ∃ q : Nat, Lib.countByte s.data.toList 58 = q := ⟨_, rfl⟩
    obtain ⟨q32, hq32⟩ : ∃ q : Nat, Lib.countByte s.data.toList 32 = q := ⟨_, rfl⟩
    obtain ⟨q92, hq92⟩ : ∃ q : Nat, Lib.countByte s.data.toList 92 = q := ⟨_, rfl⟩
    have k58 := fun W => Try.strings_Count_one s 58 W
    have k32 := fun W => Try.strings_Count_one s 32 W
    have k92 := fun W => Try.strings_Count_one s 92 W
    simp only [hq58] at k58
    simp only [hq32] at k32
    simp only [hq92] at k92
    have hsum : spN s s.size = q58 + q32 + q92 := by rw [spN_count, hq58, hq32, hq92]
    have hsle := spN_le s s.size
    have m58 : q58 ≤ 1000000 := by omega
    have m32 : q32 ≤ 1000000 := by omega
    have m92 : q92 ≤ 1000000 := by omega
    have HS := Aside0.mk (And.intro hsum hsle)
    clear hq58 hq32 hq92 hsum hsle hCr hcr
    have hB0 := Below.refl w.heap.size w
    go_loopw [5, 6, 32] (fun v5 v6 v32 wr => ∃ (i z : Int) (b : Bool), v32 = .int .i64 i ∧ v5 = .int .i64 z ∧ v6 = .bool b ∧ Aside0 (Below w.heap.size w wr) ∧ Aside0 (0 ≤ i ∧ i ≤ 3 ∧ z = s.size + cnt3 q58 q32 q92 i.toNat ∧ (b = true ↔ 0 < cnt3 q58 q32 q92 i.toNat)))
      (fun v5 v6 v32 _ => match v32 with | .int _ i => (3 - i).toNat | _ => 0)
    case atStart => exact ⟨0, _, false, rfl, rfl, rfl, ⟨hB0⟩, ⟨by decide, by decide, by simp [cnt3], by simp [cnt3]⟩⟩
    case round =>
      obtain ⟨i, z, b, rfl, rfl, rfl, HX, HI⟩ := hrel
      clear hB0
      have lt1 := World.block_lt_of_cell? _ _ s0
      have lt2 := World.block_lt_of_cell? _ _ p58
      have s0 := (HX.out.cell (p := ⟨gr, 0, none⟩) lt1).trans s0
      have s1 := (HX.out.cell (p := ⟨gr, 1, none⟩) lt1).trans s1
      have s2 := (HX.out.cell (p := ⟨gr, 2, none⟩) lt1).trans s2
      have p58 := (HX.out.cell (p := ⟨h, 58, none⟩) lt2).trans p58
      have p32 := (HX.out.cell (p := ⟨h, 32, none⟩) lt2).trans p32
      have p92 := (HX.out.cell (p := ⟨h, 92, none⟩) lt2).trans p92
      have k58 := k58 wr
      have k32 := k32 wr
      have k92 := k92 wr
      clear lt1 lt2
      obtain ⟨i0, i1, i2, i3⟩ := HI.out
      rcases Int.lt_or_le i 3 with hi | hi
      · obtain rfl | rfl | rfl : i = 0 ∨ i = 1 ∨ i = 2 := by omega
        · rcases Nat.eq_zero_or_pos q58 with hq | hq
          · have cq : ((q58 : Int) != 0) = false := by subst hq; rfl
            have HQ := Aside0.mk hq
            clear i0 i1 i2 i3 hi hq
            go_wp2_with (go_at_call 131; refine k58.mono ?_; rintro e w' ⟨rfl, rfl⟩)
            go_roundw
            case rel => exact ⟨1, z, b, rfl, rfl, rfl, HX, ⟨by decide, by decide, by have := HI.out.2.2.1; have := HQ.out; simp [cnt3] at *; omega, by have := HI.out.2.2.2; have hq0 := HQ.out; simp [cnt3, hq0] at this ⊢; exact this⟩⟩
            case measure => decide
          · have cq : ((q58 : Int) != 0) = true := by simp; omega
            have wz : wrap64 (z + q58) = z + q58 := by rw [i2]; exact w64_ (by simp [cnt3]; omega) (by simp [cnt3]; omega)
            have wz' : IntKind.i64.wrap (z + q58) = z + q58 := by rw [IntKind.wrap_i64]; have := i2; simp [cnt3] at this; omega
            have HQ := Aside0.mk hq
            have HZ := Aside0.mk (And.intro wz wz')
            clear i0 i1 i2 i3 hi hq wz wz'
            go_wp2_with (go_at_call 131; refine k58.mono ?_; rintro e w' ⟨rfl, rfl⟩)
            go_quiet (fail)
            go_wp2_with fail
            go_roundw
            case rel => exact ⟨1, z + q58, true, rfl, by first | rfl | rw [HZ.out.1] | (simp; exact HZ.out.1), rfl, ⟨pw_below_drewN HX.out _⟩, ⟨by decide, by decide, by have := HI.out.2.2.1; simp [cnt3] at this ⊢; omega, by have := HQ.out; simp [cnt3]; omega⟩⟩
            case measure => decide
        · rcases Nat.eq_zero_or_pos q32 with hq | hq
          · have cq : ((q32 : Int) != 0) = false := by subst hq; rfl
            have HQ := Aside0.mk hq
            clear i0 i1 i2 i3 hi hq
            go_wp2_with (go_at_call 131; refine k32.mono ?_; rintro e w' ⟨rfl, rfl⟩)
            go_roundw
            case rel => exact ⟨2, z, b, rfl, rfl, rfl, HX, ⟨by decide, by decide, by have := HI.out.2.2.1; have := HQ.out; simp [cnt3] at *; omega, by have := HI.out.2.2.2; have hq0 := HQ.out; simp [cnt3, hq0] at this ⊢; exact this⟩⟩
            case measure => decide
          · have cq : ((q32 : Int) != 0) = true := by simp; omega
            have wz : wrap64 (z + q32) = z + q32 := by rw [i2]; exact w64_ (by simp [cnt3]; omega) (by simp [cnt3]; omega)
            have wz' : IntKind.i64.wrap (z + q32) = z + q32 := by rw [IntKind.wrap_i64]; have := i2; simp [cnt3] at this; omega
            have HQ := Aside0.mk hq
            have HZ := Aside0.mk (And.intro wz wz')
            clear i0 i1 i2 i3 hi hq wz wz'
            go_wp2_with (go_at_call 131; refine k32.mono ?_; rintro e w' ⟨rfl, rfl⟩)
            go_quiet (fail)
            go_wp2_with fail
            go_roundw
            case rel => exact ⟨2, z + q32, true, rfl, by first | rfl | rw [HZ.out.1] | (simp; exact HZ.out.1), rfl, ⟨pw_below_drewN HX.out _⟩, ⟨by decide, by decide, by have := HI.out.2.2.1; simp [cnt3] at this ⊢; omega, by have := HQ.out; simp [cnt3]; omega⟩⟩
            case measure => decide
        · rcases Nat.eq_zero_or_pos q92 with hq | hq
          · have cq : ((q92 : Int) != 0) = false := by subst hq; rfl
            have HQ := Aside0.mk hq
            clear i0 i1 i2 i3 hi hq
            go_wp2_with (go_at_call 131; refine k92.mono ?_; rintro e w' ⟨rfl, rfl⟩)
            go_roundw
            case rel => exact ⟨3, z, b, rfl, rfl, rfl, HX, ⟨by decide, by decide, by have := HI.out.2.2.1; have := HQ.out; simp [cnt3] at *; omega, by have := HI.out.2.2.2; have hq0 := HQ.out; simp [cnt3, hq0] at this ⊢; exact this⟩⟩
            case measure => decide
          · have cq : ((q92 : Int) != 0) = true := by simp; omega
            have wz : wrap64 (z + q92) = z + q92 := by rw [i2]; exact w64_ (by simp [cnt3]; omega) (by simp [cnt3]; omega)
            have wz' : IntKind.i64.wrap (z + q92) = z + q92 := by rw [IntKind.wrap_i64]; have := i2; simp [cnt3] at this; omega
            have HQ := Aside0.mk hq
            have HZ := Aside0.mk (And.intro wz wz')
            clear i0 i1 i2 i3 hi hq wz wz'
            go_wp2_with (go_at_call 131; refine k92.mono ?_; rintro e w' ⟨rfl, rfl⟩)
            go_quiet (fail)
            go_wp2_with fail
            go_roundw
            case rel => exact ⟨3, z + q92, true, rfl, by first | rfl | rw [HZ.out.1] | (simp; exact HZ.out.1), rfl, ⟨pw_below_drewN HX.out _⟩, ⟨by decide, by decide, by have := HI.out.2.2.1; simp [cnt3] at this ⊢; omega, by have := HQ.out; simp [cnt3]; omega⟩⟩
            case measure => decide
      · obtain rfl : i = 3 := by omega
        have HT0 := HI.out
        have HT := Aside0.mk (show z = s.size + spN s s.size ∧ (b = true ↔ 0 < spN s s.size) from by rw [HS.out.1]; exact ⟨HT0.2.2.1, HT0.2.2.2⟩)
        clear i0 i1 i2 i3 hi HI HT0 k58 k32 k92 s0 s1 s2 p58 p32 p92 x0 x1 x2 m58 m32 m92
        obtain ⟨w0, hw0⟩ : ∃ w0, w0 = wr := ⟨_, rfl⟩
        rw [← hw0] at HX ⊢
        clear hw0
        have HFIN := Aside0.mk (fun (w' : World) (hb : Below w0.heap.size w0 w') => below_then HX.out HX.out.size hb)
        have HB0 := Aside0.mk (HB.out.below HX.out)
        clear HX
        cases b with
        | false =>
          go_wp2_with fail
          go_ret
          exact ⟨by rw [escS_same s (by have := HT.out.2; simp at this; omega)]; rfl, HFIN.out _ (Below.refl _ _)⟩
        | true =>
          have hsp := spN_le s s.size
          have z0 : 0 ≤ z := by have := HT.out.1; omega
          have z1 : z.toNat * 1 ≤ 281474976710656 := by have := HT.out.1; omega
          go_wp2_with (first
            | (at_make; refine Kd.R_make (Kd.int .u8) (w0 := w0) (W := w0) w0.heap.size 5 rfl rfl 35 _ _ rfl z rfl rfl Try.underlying35 (.int .u8 0) 1 info5 rfl (by decide) (by decide) 0 (ok := fun k => k = w0.heap.size) (okp := fun _ => False) rfl (fun _ h => h.elim) rfl z0 z1 (Below.refl _ _) (Nat.le_refl _) ?_; intro v1 w1 hR1 hb1 hg1 hfr1; obtain ⟨A1, c1, rfl⟩ := Kd.R_slice hR1; obtain ⟨g, rfl, hM⟩ := Buf.start hR1 hb1 hfr1; have HM := Aside0.mk hM; clear hR1 hb1 hg1 hfr1 hM)
            | fail)
          have hN : ((z.toNat : Nat) : Int) = z := by omega
          go_loopw [13, 14] (fun v13 v14 wr => ∃ (i j : Int) (k : Nat), v14 = .int .i64 i ∧ v13 = .int .i64 j ∧ Aside0 (0 ≤ i ∧ i ≤ s.size ∧ j = (outN s i.toNat).length ∧ Buf w0 wr g z.toNat c1 (outN s i.toNat) k))
            (fun v13 v14 wr => match v14 with | .int _ i => (s.size - i).toNat | _ => 0)
          case atStart => exact ⟨0, 0, z.toNat, rfl, rfl, ⟨Int.le_refl 0, by omega, rfl, HM.out⟩⟩
          case round =>
            obtain ⟨i, j, k, rfl, rfl, HI⟩ := hrel
            obtain ⟨i0, i1, i2, hM⟩ := HI.out
            have hlen := outN_len s i.toNat
            have hst := outN_step s i0
            have hsn := spN_step s i0
            have hml := hM.len
            have ht1 := HT.out.1
            rcases Int.lt_or_le i s.size with hi | hi
            · have c89 : decide (i < (s.size : Int)) = true := decide_eq_true hi
              have hmm := spN_mono s (s.size - (i + 1).toNat) (i + 1).toNat
              rw [show (i + 1).toNat + (s.size - (i + 1).toNat) = s.size by omega] at hmm
              have hx := bt_at s i
              have hr := bt_range s i
              have wi : wrap64 (i + 1) = i + 1 := w64_ (by omega) (by omega)
              have p0 : (0 ≤ i) = True := eq_true i0
              have p1 : (i < (s.size : Int)) = True := eq_true hi
              have q0 : (0 ≤ bt s i) = True := eq_true hr.1
              have q1 : (bt s i < 256) = True := eq_true (by omega)
              have r0 : (0 ≤ j) = True := eq_true (by omega)
              cases hc : spc (bt s i) with
              | true =>
                rw [hc, if_pos rfl] at hst hsn
                have r1 : (j ≤ z) = True := eq_true (by omega)
                have wj : wrap64 (j + 2) = j + 2 := w64_ (by omega) (by omega)
                have wj' : IntKind.i64.wrap (j + 2) = j + 2 := by rw [IntKind.wrap_i64]; omega
                obtain ⟨g2, n2, k1, k2, k3, k4, k5⟩ := (HB0.out.below hM.low).yes hr.1 hr.2 hc
                obtain ⟨k', rfl⟩ : ∃ k', k = k' + 2 := ⟨k - 2, by omega⟩
                have hcp := run_copy2 (W := wr.drew) (dn := z.toNat - j.toNat) (dc := c1 - j.toNat) (g0 := g) (j0 := j.toNat) (n := n2) 3 (by omega) k4 k5 (fun q hq => by have := hM.room (j.toNat + q) (by omega); exact this)
                have hcap := (Kd.R_reads' hM.row).2.1
                have hcne : (c1 = j.toNat) = False := eq_false (by omega)
                have hgh : g ≠ h := fun e => hM.gh HB0.out e
                have hks : ((wr.drew.setCell ⟨g, j.toNat, none⟩ (.int .u8 92)).setCell ⟨g, j.toNat + 1, none⟩ (.int .u8 (bt s i))).cell? ⟨h, (bt s i).toNat, none⟩ = some (.slice (some ⟨g2, 0, none⟩) 2 n2) := by
                  rw [World.cell?_of_block (Below.heap_setCell _ ⟨g, j.toNat + 1, none⟩ _ h (Ne.symm hgh)), World.cell?_of_block (Below.heap_setCell _ ⟨g, j.toNat, none⟩ _ h (Ne.symm hgh))]
                  exact k1
                have HK := Aside0.mk (And.intro i0 (And.intro hi (And.intro i2 (And.intro hM hst))))
                clear i0 i1 i2 hi hr hsp hc k2 k3 k4 k5 hst hsn hlen hml ht1 hmm hM HI hcap hgh
                go_wp2_with fail
                go_region_held3 (fun w' => w'.cell? ⟨h, (bt s i).toNat, none⟩ = some (.slice (some ⟨g2, 0, none⟩) 2 n2)) (go_keep) (refine copy_event (by rfl) (by rfl) (by rfl) (by rfl) hcp ?_)
                go_wp2_with fail
                go_roundw
                case rel => exact ⟨i + 1, j + 2, k', by rw [wi], by first | rfl | rw [wj'], ⟨by have := HK.out.1; omega, by have := HK.out.2.1; omega, by rw [HK.out.2.2.2.2]; have := HK.out.2.2.1; simp; omega, by rw [HK.out.2.2.2.2]; exact (HK.out.2.2.2.1.put2 HK.out.2.2.1)⟩⟩
                case measure =>
                  have := HK.out.2.1
                  dsimp only
                  rw [wi]
                  omega
              | false =>
                rw [hc, if_neg (by simp)] at hst
                rw [hc, if_neg (by simp), Nat.add_zero] at hsn
                have r1 : (j < z) = True := eq_true (by omega)
                have r2 : (j.toNat < z.toNat) = True := eq_true (by omega)
                have wj : wrap64 (j + 1) = j + 1 := w64_ (by omega) (by omega)
                have k1 := (HB0.out.below hM.low).no hr.1 hr.2 hc
                obtain ⟨k', rfl⟩ : ∃ k', k = k' + 1 := ⟨k - 1, by omega⟩
                have hrm := hM.room j.toNat (by omega)
                obtain ⟨u, hu⟩ := Option.isSome_iff_exists.1 hrm.1
                have hz := hrm.2
                have HK := Aside0.mk (And.intro i0 (And.intro hi (And.intro i2 (And.intro hM hst))))
                clear i0 i1 i2 hi hr hsp hc hst hsn hlen hml ht1 hmm hM HI hrm
                go_wp2_with fail
                go_roundw
                case rel => exact ⟨i + 1, j + 1, k', by rw [wi], by rw [wj], ⟨by have := HK.out.1; omega, by have := HK.out.2.1; omega, by rw [HK.out.2.2.2.2]; have := HK.out.2.2.1; simp; omega, by rw [HK.out.2.2.2.2]; exact (HK.out.2.2.2.1.put1 HK.out.2.2.1)⟩⟩
                case measure =>
                  have := HK.out.2.1
                  dsimp only
                  rw [wi]
                  omega
            · have c89 : decide (i < (s.size : Int)) = false := decide_eq_false (by omega)
              obtain rfl : i = (s.size : Int) := by omega
              rw [Int.toNat_natCast] at i2 hM hlen hml
              have hk0 : k = 0 := by omega
              subst hk0
              have hstr := hM.told
              have HK := Aside0.mk hM.low
              clear i0 i1 i2 hM hlen hst hsn hml ht1 hi hsp HI
              go_wp2_with fail
              go_ret
              exact ⟨rfl, HFIN.out _ HK.out⟩


end Go.Proofs.Ytahdgaaedilcmaa.P
/- (*sync.Once).Do with (*strings.Replacer).buildOnce, not yet done, the lock free. -/
namespace Go.Proofs.Ytahdgaaedilcmaa.P
open Go.RowKit
set_option linter.unusedVariables false
theorem bool_load (a : Addr) (x : Int) (w : World) (h : w.cell? a = some (.int .u32 x)) :
    Calls Try.prog 71 #[.pointer (some a)] w fun e w' => e = .returned (.bool (x != 0)) ∧ w' = w := by
  have hl := run_call_load (P := Try.prog) Try.func74 (by kernel_rfl) (by kernel_rfl) (by kernel_rfl) .u32 (by kernel_rfl) h
  go_enter Try.func71, Try.ntmps71
  go_wp2
  go_ret
  exact ⟨rfl, rfl⟩
set_option maxRecDepth 100000 in
set_option maxHeartbeats 1600000 in
theorem once_slow (b : Nat) (Q : World → Prop) (w : World) (h0 : w.cell? ⟨b, 0, none⟩ = some (.int .u32 0)) (h1 : w.cell? ⟨b, 1, none⟩ = some (.int .i32 0)) (f1 : w.frozen? ⟨b, 1, none⟩ = false)
    (hf : Calls Try.prog 66 #[.pointer (some ⟨b, 0, none⟩)] (w.setCell ⟨b, 1, none⟩ (.int .i32 1)) fun e w' => e = .returned (.tuple #[]) ∧ Q w')
    (hQ : ∀ w', Q w' → w'.cell? ⟨b, 0, none⟩ = some (.int .u32 0) ∧ w'.cell? ⟨b, 1, none⟩ = some (.int .i32 1) ∧ w'.frozen? ⟨b, 0, none⟩ = false ∧ w'.frozen? ⟨b, 1, none⟩ = false) :
    Calls Try.prog 72 #[.pointer (some ⟨b, 0, none⟩), .func (.func 66) #[.pointer (some ⟨b, 0, none⟩)] #[]] w fun e w' => e = .returned (.tuple #[]) ∧
      ∃ w1, Q w1 ∧ w' = (w1.drew.setCell ⟨b, 0, none⟩ (.int .u32 1)).setCell ⟨b, 1, none⟩ (.int .i32 0) := by
  have h01 : (w.setCell ⟨b, 1, none⟩ (.int .i32 1)).cell? ⟨b, 0, none⟩ = some (.int .u32 0) := (World.cell?_setCell_other _ ⟨b, 1, none⟩ ⟨b, 0, none⟩ _ (by simp)).trans h0
  have hnot : ∀ (x : Bool) (w : World), (Op.unary .not (.bool x)).run Try.prog w = .ok (.bool (!x)) w := fun _ _ => rfl
  go_enter_defers Try.func72, Try.ntmps72
  go_wp2_with (go_at_call 75; refine (lock_free ⟨b, 1, none⟩ _ h1 f1).mono ?_; rintro e w' ⟨rfl, rfl⟩)
  refine (bool_load ⟨b, 0, none⟩ 0 _ h01).mono ?_
  rintro e w' ⟨rfl, rfl⟩
  go_wp2_with fail
  refine hf.mono ?_
  rintro e w1 ⟨rfl, hq⟩
  obtain ⟨q0, q1, z0, z1⟩ := hQ w1 hq
  go_wp2_with fail
  refine leaves_cons (f := 77) (args := #[.pointer (some ⟨b, 0, none⟩), .bool true]) (by simp) (by simp [go_sem]) ?_
  refine (store_deferred ⟨b, 0, none⟩ (.int .u32 0) .returning _ q0 (by simp [z0])).mono ?_
  rintro e u' w'' ⟨rfl, rfl, rfl⟩
  refine leaves_cons (f := 76) (args := #[.pointer (some ⟨b, 1, none⟩)]) (by simp [settle]) (by simp [go_sem]) ?_
  refine (unlock_deferred ⟨b, 1, none⟩ _ _ ?_ (by simp [z1])).mono ?_
  · refine (World.cell?_setCell_other _ ⟨b, 0, none⟩ ⟨b, 1, none⟩ _ (by simp)).trans ?_
    rw [World.cell?_drew]
    exact q1
  rintro e u' w'' ⟨rfl, rfl, rfl⟩
  simp [Leaves, settle, results, Try.results72]
  exact ⟨w1, hq, rfl⟩
theorem once_do (b : Nat) (Q : World → Prop) (w : World) (h0 : w.cell? ⟨b, 0, none⟩ = some (.int .u32 0)) (h1 : w.cell? ⟨b, 1, none⟩ = some (.int .i32 0)) (f1 : w.frozen? ⟨b, 1, none⟩ = false)
    (hf : Calls Try.prog 66 #[.pointer (some ⟨b, 0, none⟩)] (w.setCell ⟨b, 1, none⟩ (.int .i32 1)) fun e w' => e = .returned (.tuple #[]) ∧ Q w')
    (hQ : ∀ w', Q w' → w'.cell? ⟨b, 0, none⟩ = some (.int .u32 0) ∧ w'.cell? ⟨b, 1, none⟩ = some (.int .i32 1) ∧ w'.frozen? ⟨b, 0, none⟩ = false ∧ w'.frozen? ⟨b, 1, none⟩ = false) :
    Calls Try.prog 65 #[.pointer (some ⟨b, 0, none⟩), .func (.func 66) #[.pointer (some ⟨b, 0, none⟩)] #[]] w fun e w' => e = .returned (.tuple #[]) ∧
      ∃ w1, Q w1 ∧ w' = (w1.drew.setCell ⟨b, 0, none⟩ (.int .u32 1)).setCell ⟨b, 1, none⟩ (.int .i32 0) := by
  have hnot : ∀ (x : Bool) (w : World), (Op.unary .not (.bool x)).run Try.prog w = .ok (.bool (!x)) w := fun _ _ => rfl
  go_enter Try.func65, Try.ntmps65
  go_wp2_with fail
  refine (bool_load ⟨b, 0, none⟩ 0 _ h0).mono ?_
  rintro e w' ⟨rfl, rfl⟩
  go_wp2_with fail
  refine (once_slow b Q _ h0 h1 f1 hf hQ).mono ?_
  rintro e w' ⟨rfl, w1, hq, rfl⟩
  go_wp2_with fail
  go_end0
  exact ⟨rfl, w1, hq, rfl⟩
end Go.Proofs.Ytahdgaaedilcmaa.P
/- depfile.written: a replacer is made, its table is built once, a text is written by it. -/
namespace Go.Proofs.Ytahdgaaedilcmaa.P
open Go.RowKit Go.Proofs.YtahdgaaedilcmaaW.PrintWords Go.Proofs.YtahdgaaedilcmaaW.PrintLast Go.Proofs.YtahdgaaedilcmaaW.PrintMore
set_option linter.unusedVariables false
/-- The table, where one older block alone has turned. -/
theorem BRep.other {W W1 : World} {base h b : Nat} {S : List Nat} {T : List ByteArray} {A : Option Addr} {c : Nat} {ok : Nat → Prop} (hB : BRep W base h S T A c ok) (hs : W.heap.size ≤ W1.heap.size) (hk : ∀ k, k < W.heap.size → k ≠ b → W1.heap[k]? = W.heap[k]?) (hb : b < base)
    (h0 : W.cell? ⟨b, 0, none⟩ ≠ some (.int .u8 92)) : BRep W1 base h S T A c ok := by
  obtain ⟨⟨cur, hblk, hsz, hnil, hslc, hlst⟩, hrow, hokh, hbh⟩ := hB
  have hlt := blk_lt hblk
  refine ⟨⟨cur, (hk h hlt (by omega)).trans hblk, hsz, hnil, fun k hkS => ?_, hlst⟩, ?_, hokh, hbh⟩
  · obtain ⟨g, n, h1, h2, h3, h4, h5, h6, h7⟩ := hslc k hkS
    have hg : g ≠ b := fun e => h0 (by rw [← e]; exact h6)
    exact ⟨g, n, h1, h2, h3, h4, by omega, (World.cell?_of_block (hk g h5 hg)).trans h6, (World.cell?_of_block (hk g h5 hg)).trans h7⟩
  · refine Kd.R_mono (Kd.R_step (Kd.R_bound hrow) (fun k hk' hlt' => hk k hlt' (fun e => ?_))) (fun k hk' => hk'.1)
    have := hk'.2.1
    omega
def sixT : List ByteArray := [⟨#[92]⟩, ⟨#[92, 92]⟩, ⟨#[32]⟩, ⟨#[92, 32]⟩, ⟨#[58]⟩, ⟨#[92, 58]⟩]
/-- What a replacer holds: whether the table is built, the lock, the table, the pairs. -/
def replCells (d m : Int) (r l : Value) : Array Value := #[.int .u32 d, .int .i32 m, .int .u32 0, r, l]
theorem built_repl (a : Option Addr) (n c : Nat) : Try.prog.built 108 [(2, .slice a n c)] = some (replCells 0 0 .nilIface (.slice a n c)) := by kernel_rfl
theorem six_C (W : World) : Kd.C Kd.string (W.alloc (.cells #[.string ⟨#[92]⟩, .string ⟨#[92, 92]⟩, .string ⟨#[32]⟩, .string ⟨#[92, 32]⟩, .string ⟨#[58]⟩, .string ⟨#[92, 58]⟩] 9)) (some ⟨W.heap.size, 0, none⟩) 6 sixT := by
  have hb := blk_new W (.cells #[.string ⟨#[92]⟩, .string ⟨#[92, 92]⟩, .string ⟨#[32]⟩, .string ⟨#[92, 32]⟩, .string ⟨#[58]⟩, .string ⟨#[92, 58]⟩] 9)
  refine ⟨rfl, by decide, fun _ => ⟨_, rfl, fun j p hj => ⟨[.string p], rfl, rfl, fun i u hu => ?_⟩⟩⟩
  match i, hu with
  | 0, hu =>
    injection hu with hu
    subst hu
    match j, hj with
    | 0, hj => injection hj with hj; subst hj; exact blk_cell hb 0
    | 1, hj => injection hj with hj; subst hj; exact blk_cell hb 1
    | 2, hj => injection hj with hj; subst hj; exact blk_cell hb 2
    | 3, hj => injection hj with hj; subst hj; exact blk_cell hb 3
    | 4, hj => injection hj with hj; subst hj; exact blk_cell hb 4
    | 5, hj => injection hj with hj; subst hj; exact blk_cell hb 5
    | j + 6, hj => simp [sixT] at hj
structure Pairs (w : World) (x : Nat) : Prop where
  p0 : w.cell? ⟨x, 0, none⟩ = some (.string ⟨#[92]⟩)
  p1 : w.cell? ⟨x, 1, none⟩ = some (.string ⟨#[92, 92]⟩)
  p2 : w.cell? ⟨x, 2, none⟩ = some (.string ⟨#[32]⟩)
  p3 : w.cell? ⟨x, 3, none⟩ = some (.string ⟨#[92, 32]⟩)
  p4 : w.cell? ⟨x, 4, none⟩ = some (.string ⟨#[58]⟩)
  p5 : w.cell? ⟨x, 5, none⟩ = some (.string ⟨#[92, 58]⟩)
theorem Pairs.step {w w1 : World} {x : Nat} (h : Pairs w x) (hk : w1.heap[x]? = w.heap[x]?) : Pairs w1 x :=
  ⟨(World.cell?_of_block hk).trans h.p0, (World.cell?_of_block hk).trans h.p1, (World.cell?_of_block hk).trans h.p2, (World.cell?_of_block hk).trans h.p3, (World.cell?_of_block hk).trans h.p4, (World.cell?_of_block hk).trans h.p5⟩
theorem pairs_of {w : World} {base : Nat} {ok : Nat → Prop} {v : Value} (h : Kd.R Kd.string 9 w base ok v sixT) : ∃ x c, v = .slice (some ⟨x, 0, none⟩) 6 c ∧ Pairs w x := by
  obtain ⟨A, c, rfl, hc, hC⟩ := Kd.R_reads h
  obtain ⟨ad, rfl, s0⟩ := Kd.at_string hC 0 (by decide) (by decide)
  obtain ⟨x, rfl⟩ := Kd.R_head h
  obtain ⟨_, e, s1⟩ := Kd.at_string hC 1 (by decide) (by decide)
  injection e with e; subst e
  obtain ⟨_, e, s2⟩ := Kd.at_string hC 2 (by decide) (by decide)
  injection e with e; subst e
  obtain ⟨_, e, s3⟩ := Kd.at_string hC 3 (by decide) (by decide)
  injection e with e; subst e
  obtain ⟨_, e, s4⟩ := Kd.at_string hC 4 (by decide) (by decide)
  injection e with e; subst e
  obtain ⟨_, e, s5⟩ := Kd.at_string hC 5 (by decide) (by decide)
  injection e with e; subst e
  exact ⟨x, c, rfl, s0, s1, s2, s3, s4, s5⟩
theorem spread_event {W : World} {base m c : Nat} {A : Option Addr} {ys : List ByteArray} {x : Operand} {ops : Array Oper} {rest : List Oper} {o : Oper} {a : Act} {Q : Exit → Act → World → Prop}
    (hgd : o.guard = none) (ho : o.op = .call { callee := .builtin .append, args := #[.const (.slice none 0 0), x], argTypes := #[30, 30] }) (hx : a.eval x = .slice A m c) (hC : Kd.string.C W A m ys) (hbase : base ≤ W.heap.size) (hl : m * 16 ≤ 140737488355328)
    (h : ∀ v1 w1, Kd.R Kd.string 9 w1 base (fun k => W.heap.size ≤ k) v1 ys → W.grownBy w1 none → wpList Try.prog ops Q rest (a.put o.dst v1) w1) : wpList Try.prog ops Q (o :: rest) a W :=
  Kd.R_append_rows (P := Try.prog) Kd.string (Rr := Kd.string.K W) (w0 := W) (W := W) base hgd (.const (.slice none 0 0)) x 30 9 (.string ⟨#[]⟩) 16 ho Try.underlying30 info9 rfl (by decide) (by omega)
    (.slice none 0 0) [] ys A m c (fun k => W.heap.size ≤ k) (fun _ => False) rfl hx (Kd.R_nil _ _ _ _ _) hC (fun x cs hc => hc) (fun _ hk => hk.elim) (fun k hk => hk) (Below.refl _ _) hbase (by simpa using hl)
    (fun v1 w1 h1 hbl hg hat => h v1 w1 (by simpa using h1) hg)
def NewRep (w : World) (e : Ending) (w' : World) : Prop := ∃ b x cx, e = .returned (.pointer (some ⟨b, 0, none⟩)) ∧ w'.heap[b]? = some (.cells (replCells 0 0 .nilIface (.slice (some ⟨x, 0, none⟩) 6 cx)) 108 (0, 0)) ∧ Pairs w' x ∧ x < b ∧ w.heap.size ≤ b ∧ Below w.heap.size w w'
set_option maxRecDepth 100000 in
set_option maxHeartbeats 1000000 in
theorem newrep_calls (A : Option Addr) (c : Nat) (w : World) (hC : Kd.string.C w A 6 sixT) :
    Calls Try.prog 59 #[.slice A 6 c] w (NewRep w) := by
  have HC := Aside0.mk hC
  clear hC
  have hbl := fun (W : World) (a : Option Addr) (n c : Nat) => run_build (P := Try.prog) W 108 #[(2, .slice a n c)] #[.int .u32 0, .int .i32 0, .int .u32 0, .nilIface, .slice a n c] (built_repl a n c)
  go_enter Try.func59, Try.ntmps59
  go_wp2_with (first
    | (at_builtin; refine spread_event (base := w.heap.size) rfl rfl rfl HC.out (Nat.le_refl _) (by decide) ?_; intro v1 w1 hR hg; have hB := pw_below_grown (Below.refl w.heap.size w) _ (Nat.le_refl _) hg (fun k hk => by cases hk); obtain ⟨x, cx, rfl, hP⟩ := pairs_of hR; have hx := World.block_lt_of_cell? _ _ hP.p0; have HP := Aside0.mk (And.intro hP (And.intro hB hx)); clear hP hB hx hg hR)
    | fail)
  go_ret
  refine ⟨w1.heap.size, x, cx, rfl, blk_new w1 _, HP.out.1.step ?_, HP.out.2.2, HP.out.2.1.size, HP.out.2.1.alloc HP.out.2.1.size _⟩
  exact Below.heap_alloc w1 _ x HP.out.2.2
/-- The replacer at block b, its table built. -/
def Built (b : Nat) (w' : World) : Prop := ∃ base h A c ok, b < base ∧ BRep w' base h [92, 32, 58] [oneS 58, oneS 32, oneS 92] A c ok ∧ w'.heap[b]? = some (.cells (replCells 0 1 (.iface 131 (.pointer (some ⟨h, 0, none⟩))) (.slice none 0 0)) 108 (0, 0))
theorem replCells_at {w : World} {b : Nat} {d m : Int} {r l : Value} (h : w.heap[b]? = some (.cells (replCells d m r l) 108 (0, 0))) :
    w.cell? ⟨b, 0, none⟩ = some (.int .u32 d) ∧ w.cell? ⟨b, 1, none⟩ = some (.int .i32 m) ∧ w.cell? ⟨b, 3, none⟩ = some r ∧ w.cell? ⟨b, 4, none⟩ = some l ∧ ∀ j, w.frozen? ⟨b, j, none⟩ = false :=
  ⟨blk_cell h 0, blk_cell h 1, blk_cell h 3, blk_cell h 4, fun j => blk_frozen h j⟩
set_option maxRecDepth 100000 in
set_option maxHeartbeats 1000000 in
theorem buildOnce_calls (b x c : Nat) (w : World) (hb : w.heap[b]? = some (.cells (replCells 0 1 .nilIface (.slice (some ⟨x, 0, none⟩) 6 c)) 108 (0, 0))) (hP : Pairs w x) :
    Calls Try.prog 66 #[.pointer (some ⟨b, 0, none⟩)] w fun e w' => e = .returned (.tuple #[]) ∧ (Built b w' ∧ Below b w w') := by
  obtain ⟨q0, q1, q3, q4, qf⟩ := replCells_at hb
  have hc := build_calls b x c w q4 hP.p0 hP.p1 hP.p2 hP.p3 hP.p4 hP.p5
  have HH := Aside0.mk hb
  have hlt := blk_lt hb
  clear hb hP q0 q1 q3 q4 qf
  go_enter Try.func66, Try.ntmps66
  go_wp2_with fail
  refine hc.mono ?_
  rintro e w1 ⟨h, A, cA, ok, rfl, hB, hb1⟩
  have hb1' := (hb1.block b hlt).trans HH.out
  obtain ⟨q0, q1, q3, q4, qf⟩ := replCells_at hb1'
  have f3 := qf 3
  have f4 := qf 4
  have HK := Aside0.mk (And.intro hB (And.intro hb1 (And.intro hb1' q0)))
  clear hB hb1 hb1' q0 q1 qf hc
  go_wp2_with fail
  go_end0
  obtain ⟨hB, hb1, hb1', q0⟩ := HK.out
  have h3 := set_row (i := 3) (.iface 131 (.pointer (some ⟨h, 0, none⟩))) hb1'
  have h4 := set_row (i := 4) (.slice none 0 0) h3
  refine ⟨rfl, ⟨w.heap.size, h, A, cA, ok, hlt, hB.other (b := b) (by simp) (fun k hk hne => ?_) hlt (by rw [q0]; simp), h4⟩, ?_⟩
  · rw [Below.heap_setCell _ ⟨b, 4, none⟩ _ k hne, Below.heap_setCell _ ⟨b, 3, none⟩ _ k hne]
  · exact ((hb1.mono (Nat.le_of_lt hlt)).setCell (p := ⟨b, 3, none⟩) (Nat.le_refl _) _).setCell (p := ⟨b, 4, none⟩) (Nat.le_refl _) _
theorem method_repl (h : Nat) (W : World) : (method 288 131 (.pointer (some ⟨h, 0, none⟩)) "Replace").run Try.prog W = .ok (129, .pointer (some ⟨h, 0, none⟩)) W := by kernel_rfl
set_option maxRecDepth 100000 in
set_option maxHeartbeats 1000000 in
theorem replace_calls (b x c : Nat) (s : ByteArray) (w : World) (hb : w.heap[b]? = some (.cells (replCells 0 0 .nilIface (.slice (some ⟨x, 0, none⟩) 6 c)) 108 (0, 0))) (hP : Pairs w x) (hx : x < b) (hs : s.size ≤ 1000000) :
    Calls Try.prog 60 #[.pointer (some ⟨b, 0, none⟩), .string s] w fun e w' => e = .returned (.string (escS s)) ∧ Below b w w' := by
  obtain ⟨q0, q1, q3, q4, qf⟩ := replCells_at hb
  have hb' := set_row (i := 1) (.int .i32 1) hb
  have hP' : Pairs (w.setCell ⟨b, 1, none⟩ (.int .i32 1)) x := hP.step (Below.heap_setCell _ ⟨b, 1, none⟩ _ x (Nat.ne_of_lt hx))
  have hbo := buildOnce_calls b x c _ hb' hP'
  have hdo := once_do b (fun w' => Built b w' ∧ Below b (w.setCell ⟨b, 1, none⟩ (.int .i32 1)) w') w q0 q1 (qf 1) hbo (fun w' hw => by
    obtain ⟨⟨base, h, A, cA, ok, _, _, hb2⟩, _⟩ := hw
    obtain ⟨z0, z1, _, _, zf⟩ := replCells_at hb2
    exact ⟨z0, z1, zf 0, zf 1⟩)
  have hB0 : Below b w (w.setCell ⟨b, 1, none⟩ (.int .i32 1)) := (Below.refl b w).setCell (p := ⟨b, 1, none⟩) (Nat.le_refl _) _
  have HB0 := Aside0.mk hB0
  have hlt := blk_lt hb
  clear hb hP q0 q1 q3 q4 qf hb' hP' hbo hB0
  go_enter Try.func60, Try.ntmps60
  go_wp2_with fail
  refine hdo.mono ?_
  rintro e w' ⟨rfl, w1, ⟨⟨base, h, A, cA, ok, hlb, hB, hb1⟩, hbl⟩, rfl⟩
  have hb2 := set_row (i := 1) (.int .i32 0) (set_row (i := 0) (.int .u32 1) (show w1.drew.heap[b]? = _ from hb1))
  obtain ⟨W2, hW2⟩ : ∃ W2, W2 = (w1.drew.setCell ⟨b, 0, none⟩ (.int .u32 1)).setCell ⟨b, 1, none⟩ (.int .i32 0) := ⟨_, rfl⟩
  have hsz : W2.heap.size = w1.heap.size := by rw [hW2]; simp
  have hB2 : BRep W2 base h [92, 32, 58] [oneS 58, oneS 32, oneS 92] A cA ok := hB.other (b := b) (by omega) (fun k hk hne => by rw [hW2, Below.heap_setCell _ ⟨b, 1, none⟩ _ k hne, Below.heap_setCell _ ⟨b, 0, none⟩ _ k hne]; rfl) hlb (by rw [(replCells_at hb1).1]; simp)
  have hBl : Below b w W2 := by
    rw [hW2]
    exact ((below_drew (HB0.out.trans hbl)).setCell (p := ⟨b, 0, none⟩) (Nat.le_refl _) _).setCell (p := ⟨b, 1, none⟩) (Nat.le_refl _) _
  rw [← hW2] at hb2 ⊢
  have q3 : W2.cell? ⟨b, 3, none⟩ = some (.iface 131 (.pointer (some ⟨h, 0, none⟩))) := blk_cell hb2 3
  have hbs := bsr_calls h base A cA ok s W2 hB2 hs
  have HK := Aside0.mk (And.intro hBl (Nat.le_trans (Nat.le_of_lt hlt) hBl.size))
  clear hb2 hW2 hsz hB2 hBl hB hb1 hbl hdo hlb
  have hme := fun (W : World) => method_repl h W
  go_wp2_with fail
  refine hbs.mono ?_
  rintro e w3 ⟨rfl, hb3⟩
  go_wp2_with fail
  go_ret
  exact ⟨rfl, HK.out.1.trans (hb3.mono HK.out.2)⟩
/-- A text as it is written. -/
theorem written_calls (s : ByteArray) (w : World) (hs : s.size ≤ 1000000) :
    Calls Try.prog 49 #[.string s] w fun e w' => e = .returned (.string (escS s)) ∧ Below w.heap.size w w' := by
  go_enter Try.func49, Try.ntmps49
  go_wp2_with fail
  refine (newrep_calls _ 6 _ (six_C w)).mono ?_
  rintro e w1 ⟨b, x, cx, rfl, hb1, hP, hx, hle, hB⟩
  have hlt := blk_lt hb1
  have hB1 := ((Below.refl w.heap.size w).alloc (Nat.le_refl _) (.cells #[.string ⟨#[92]⟩, .string ⟨#[92, 92]⟩, .string ⟨#[32]⟩, .string ⟨#[92, 32]⟩, .string ⟨#[58]⟩, .string ⟨#[92, 58]⟩] 9)).trans (hB.mono (by simp))
  have hle2 : w.heap.size ≤ b := by have := hle; simp at this; omega
  have HK := Aside0.mk (And.intro hB1 (And.intro hlt hle2))
  have hrc := replace_calls b x cx s w1 hb1 hP hx hs
  clear hb1 hP hx hle hB hB1 hlt hle2
  go_wp2_with fail
  refine hrc.mono ?_
  rintro e w2 ⟨rfl, hb2⟩
  go_wp2_with fail
  go_ret
  exact ⟨rfl, HK.out.1.trans (hb2.mono HK.out.2.2)⟩
end Go.Proofs.Ytahdgaaedilcmaa.P
