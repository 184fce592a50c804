/- Folded: GTreeS, GTreeL, GListed. -/
import Derived.Test.YtkldaghhfnpcjaaGTree
import Derived.Test.YtkldaghhfnpcjaaGSort
import Derived.Laws.IdiomRangeMap
import Derived.RangeFuncNested
import Derived.RangeFuncBound
import Derived.RangeFuncCalls
import Derived.RangeFuncLeaves
import Derived.RangeFuncBox
import Derived.Shelf.Abstract
import Derived.Shelf.RegionOpen
import Derived.OwnWalkIn
import Derived.TacticsInMore
import Derived.LoopNIn
import Derived.LoopIn
/- The source tree: what changed behind a mark. -/
namespace Go.Proofs.Ytkldaghhfnpcjaa.P
open Go.RowKit Go.Maps Go.Proofs.YtkldaghhfnpcjaaW.PrintWords Go.Proofs.YtkldaghhfnpcjaaW.PrintLast Go.Proofs.YtkldaghhfnpcjaaW.PrintMore Go.Proofs.Ytkldaghhfnpcjaa.Pl
set_option linter.unusedVariables false
set_option linter.unusedSimpArgs false
/-- append(l, x) of one text -/
theorem txt_push {W : World} {n base : Nat} (hn : W.heap.size = n) {s y : Operand} {v : Value} {xs : List ByteArray} {x : ByteArray} {ok : Nat → Prop} {ops : Array Oper} {rest : List Oper} {o : Oper} {a : Act} {Q : Exit → Act → World → Prop}
    (hgd : o.guard = none) (ho : o.op = .call { callee := .builtin .append, args := #[s, y], argTypes := #[31, 31] }) (hs : a.eval s = v) (hy : a.eval y = .slice (some ⟨n, 0, none⟩) 1 1)
    (hR : Kd.R Kd.string 9 W base ok v xs) (hbase : base ≤ W.heap.size) (hl : (xs.length + 1) * 16 ≤ 140737488355328)
    (h : ∀ v1 w1, Kd.R Kd.string 9 w1 base (fun k => ok k ∨ W.heap.size ≤ k) v1 (xs ++ [x]) → W.grownBy w1 v.ownBlock → wpList Try.prog ops Q rest (a.put o.dst v1) w1) : wpList Try.prog ops Q (o :: rest) a (W.alloc (.cells #[.string x] 9)) := by
  subst hn
  exact Kd.R_append Kd.string (w0 := W) (W := W) base hgd s y 31 9 (.string ⟨#[]⟩) 16 ho Try.underlying31 info9 rfl (by decide) (by omega) v xs x [.string x] (fun k => ok k ∨ W.heap.size ≤ k) (fun _ => False) hs hy rfl (fun _ hk => hk.elim) (fun _ hk => .inr hk)
    (Kd.R_mono hR (fun _ hk => .inl hk)) (Below.refl _ _) hbase hl (fun v1 w1 h1 _ hg _ => h v1 w1 h1 hg)
/-- paths, and whether they are told -/
def Tells (w : World) (R : List ByteArray × Bool) (e : Ending) (w' : World) : Prop := ∃ v, e = .returned (.tuple #[v, .bool R.2]) ∧ Kd.R Kd.string 9 w' w.heap.size (fun _ => True) v R.1 ∧ Below w.heap.size w w'
theorem below_sorted {w wr w' : World} {ok : Nat → Prop} {v : Value} {l : List ByteArray} (hB : Below w.heap.size w wr) (hR : Kd.R Kd.string 9 wr w.heap.size ok v l) (hg : wr.grownBy w' v.ownBlock) : Below w.heap.size w w' :=
  pw_below_grown hB _ hB.size hg (fun k hk => ((Kd.R_bound hR).1 k hk).2.1)
set_option maxRecDepth 100000 in
set_option maxHeartbeats 2000000 in
theorem behind_calls {w : World} {p : Nat} {m : Option Nat} (S : TS) (hb : w.heap[p]? = some (.cells (treeCells S.cs m) 50 (0, 0))) (hC : S.cs.length ≤ 1000000) (mark : Int) :
    Calls Try.prog 40 #[.pointer (some ⟨p, 0, none⟩), .int .i64 mark] w (Tells w (sinceT S mark)) := by
  obtain ⟨c32, _, cr, _⟩ := tree_cells hb
  have HB := Aside0.mk hb
  have HCR := Aside0.mk cr
  have hplt := blk_lt hb
  obtain ⟨N, hN⟩ : ∃ N, S.cs.length = N := ⟨_, rfl⟩
  rw [hN] at c32 hC
  clear hb cr
  by_cases h1 : mark < 0
  · have HE := Aside0.mk (show sinceT S mark = ([], false) from by unfold sinceT; rw [if_neg (by omega)])
    have k1 : decide (mark < 0) = true := decide_eq_true h1
    clear hN
    go_enter Try.func40, Try.ntmps40
    go_wp2_with fail
    go_ret2
    exact ⟨_, by rw [HE.out]; rfl, by rw [HE.out]; exact Kd.R_nil _ _ _ _ _, Below.refl _ _⟩
  have k1 : decide (mark < 0) = false := decide_eq_false h1
  by_cases h2 : (N : Int) < mark
  · have HE := Aside0.mk (show sinceT S mark = ([], false) from by unfold sinceT; rw [if_neg (by omega)])
    have k2 : decide ((N : Int) < mark) = true := decide_eq_true h2
    clear hN
    go_enter Try.func40, Try.ntmps40
    go_wp2_with fail
    go_ret2
    exact ⟨_, by rw [HE.out]; rfl, by rw [HE.out]; exact Kd.R_nil _ _ _ _ _, Below.refl _ _⟩
  have k2 : decide ((N : Int) < mark) = false := decide_eq_false h2
  have wsub : wrap64 ((N : Int) - mark) = (N : Int) - mark := w64_ (by omega) (by omega)
  by_cases h3 : 32 < (N : Int) - mark
  · have HE := Aside0.mk (show sinceT S mark = ([], false) from by unfold sinceT; rw [if_neg (by omega)])
    have k3 : decide (32 < (N : Int) - mark) = true := decide_eq_true h3
    clear hN
    go_enter Try.func40, Try.ntmps40
    go_wp2_with fail
    go_ret2
    exact ⟨_, by rw [HE.out]; rfl, by rw [HE.out]; exact Kd.R_nil _ _ _ _ _, Below.refl _ _⟩
  have k3 : decide (32 < (N : Int) - mark) = false := decide_eq_false h3
  obtain ⟨mk, rfl⟩ : ∃ mk : Nat, mark = mk := ⟨mark.toNat, by omega⟩
  have HE := Aside0.mk (show sinceT S (mk : Int) = (srt (S.cs.drop mk), true) from by unfold sinceT; rw [if_pos (by omega)]; rfl)
  have HN := Aside0.mk hN
  have k2n : decide (N < mk) = false := decide_eq_false (by omega)
  have hmk : mk ≤ N := by omega
  have hmk2 : N ≤ mk + 32 := by omega
  clear hN h1 h2 h3 wsub
  go_enter Try.func40, Try.ntmps40
  go_wp2_with fail
  have hB0 := Below.refl w.heap.size w
  have hR0 : Kd.R Kd.string 9 w w.heap.size (fun _ => True) (.slice none 0 0) ((S.cs.drop mk).take (mk - mk)) := by rw [Nat.sub_self, List.take_zero]; exact Kd.R_nil _ _ _ _ _
  go_loopg [6, 7] (N - mk + 1) (fun n v6 kv wr => ∃ k : Nat, kv = .int .i64 (k : Int) ∧ Aside0 (mk ≤ k ∧ k + n = N + 1) ∧ Aside0 (Below w.heap.size w wr) ∧ Aside0 (Kd.R Kd.string 9 wr w.heap.size (fun _ => True) v6 ((S.cs.drop mk).take (k - mk))))
  case atStart => exact ⟨mk, rfl, ⟨Nat.le_refl _, by omega⟩, ⟨hB0⟩, ⟨hR0⟩⟩
  case round =>
    obtain ⟨k, rfl, ⟨hk1, hk2⟩, HBW, HR⟩ := hrel
    clear hB0 hR0
    have c32 := (HBW.out.cell (p := ⟨p, 32, none⟩) hplt).trans c32
    by_cases c1 : k < N
    case neg =>
      have c1b : decide ((k : Int) < (N : Int)) = false := decide_eq_false (by omega)
      have hR := HR.out
      rw [List.take_of_length_le (by rw [List.length_drop, HN.out]; omega)] at hR
      have hsl := sort_calls hR (by rw [List.length_drop, HN.out]; omega)
      have HR2 := Aside0.mk hR
      clear hR
      go_wp2_with fail
      refine hsl.mono ?_
      rintro e w2 ⟨rfl, hR2, hg2⟩
      have hB2 := below_sorted HBW.out HR2.out hg2
      have hcl := compact_calls hR2 (by rw [List.length_drop, HN.out]; omega)
      have HR3 := Aside0.mk (And.intro hR2 hB2)
      clear hsl hR2 hg2 hB2
      go_wp2_with fail
      refine hcl.mono ?_
      rintro e w3 ⟨v3, rfl, hR3, hg3⟩
      have hB3 := below_sorted HR3.out.2 HR3.out.1 hg3
      clear hcl
      go_wp2_with fail
      go_ret2
      exact ⟨_, by rw [HE.out]; rfl, by rw [HE.out]; exact hR3, hB3⟩
    have c1b : decide ((k : Int) < (N : Int)) = true := decide_eq_true (by omega)
    have hmod : (k : Int).tmod 32 = ((k % 32 : Nat) : Int) := by rw [Int.tmod_eq_emod_of_nonneg (by omega)]; rfl
    have hklt : k % 32 < 32 := Nat.mod_lt _ (by decide)
    have hkl : k < S.cs.length := by rw [HN.out]; exact c1
    have hcell := (HBW.out.cell (p := ⟨p, k % 32, none⟩) hplt).trans (HCR.out (k % 32) hklt)
    rw [List.getD_eq_getElem?_getD, ring_get S.cs hkl (by rw [HN.out]; omega), List.getElem?_eq_getElem hkl, Option.getD_some] at hcell
    have htk : (S.cs.drop mk).take (k + 1 - mk) = (S.cs.drop mk).take (k - mk) ++ [S.cs[k]] := by
      rw [show k + 1 - mk = (k - mk) + 1 by omega, List.take_succ_eq_append_getElem (by rw [List.length_drop]; omega), List.getElem_drop]
      congr 2
      simp only [show mk + (k - mk) = k by omega]
    have hxl : ((S.cs.drop mk).take (k - mk)).length ≤ 1000000 := by rw [List.length_take, List.length_drop]; omega
    obtain ⟨x, hx⟩ : ∃ x, S.cs[k] = x := ⟨_, rfl⟩
    rw [hx] at hcell htk
    have HTK := Aside0.mk htk
    have i0 : (0 : Int) ≤ ((k % 32 : Nat) : Int) := by omega
    have i1 : ((k % 32 : Nat) : Int) < 32 := by omega
    have hwsz := HBW.out.size
    generalize hq : k % 32 = q at *
    clear hx htk hq
    go_wp2_with (first | (at_builtin; refine txt_push (base := w.heap.size) rfl rfl rfl rfl rfl (Kd.R_mono HR.out (fun _ h => h)) hwsz (by omega) ?_; intro v1 w1 hR1 hg1))
    have hB1 := pw_below_grown HBW.out _ hwsz hg1 (fun k hk => ((Kd.R_bound HR.out).1 k hk).2.1)
    have hR1' := Kd.R_mono hR1 (fun _ _ => (trivial : True))
    clear hR1 hg1
    go_wp2_with fail
    go_roundg (gk - 1)
    case measure => omega
    case rel => exact ⟨k + 1, by first | rfl | (rw [w64_ (by omega) (by omega)]; rfl) | simp, ⟨by omega, by omega⟩, ⟨hB1⟩, ⟨by rw [HTK.out]; exact hR1'⟩⟩
theorem since_calls {w : World} {base p : Nat} {ok : Nat → Prop} {S : TS} (h : TMem w base ok p S) (mark : Int) :
    Calls Try.prog 25 #[.pointer (some ⟨p, 0, none⟩), .int .i64 mark] w (Tells w (sinceT S mark)) := by
  obtain ⟨m, hb, _⟩ := h.blk
  have hc := behind_calls S hb h.few mark
  clear h hb
  go_enter Try.func25, Try.ntmps25
  go_wp2_with fail
  refine hc.mono ?_
  rintro e w' ⟨v, rfl, hR, hB⟩
  clear hc
  go_wp2_with fail
  go_ret2
  exact ⟨_, rfl, hR, hB⟩
end Go.Proofs.Ytkldaghhfnpcjaa.P
/- The source tree: List. -/
namespace Go.Proofs.Ytkldaghhfnpcjaa.P
open Go.RowKit Go.Maps Go.Proofs.YtkldaghhfnpcjaaW.PrintWords Go.Proofs.YtkldaghhfnpcjaaW.PrintLast Go.Proofs.YtkldaghhfnpcjaaW.PrintMore Go.Proofs.Ytkldaghhfnpcjaa.Pl
set_option linter.unusedVariables false
set_option linter.unusedSimpArgs false
theorem ss_list (S : TS) (h : FS S.fs) (pre : ByteArray) : SS (listT S pre) := (List.pairwise_map.2 h).sublist (List.filter_sublist)
theorem mem_list (S : TS) (pre s : ByteArray) : s ∈ listT S pre ↔ (fget S.fs s).isSome = true ∧ startsB s pre = true := by
  unfold listT
  rw [List.mem_filter, fget_some_iff]
theorem prefix_starts (s pre : ByteArray) : (Lib.hasPrefix s.data.toList pre.data.toList) = startsB s pre := by
  unfold startsB
  unfold Lib.hasPrefix L
  rw [Bool.eq_iff_iff, beq_iff_eq, List.isPrefixOf_iff_prefix, List.prefix_iff_eq_take]
  exact eq_comm
theorem sorted_list {S : TS} (h : FS S.fs) {xs : List ByteArray} {pre : ByteArray} (hn : xs.Nodup) (hm : ∀ s, s ∈ xs ↔ s ∈ listT S pre) : msrt xs = listT S pre := by
  rw [msrt_srt hn]
  exact ss_uniq _ _ (ss_srt xs) (ss_list S h pre) (fun z => by rw [mem_srt, hm])
/-- an iterator over paths: a function over one box that holds a row -/
def Lists (w : World) (l : List ByteArray) (e : Ending) (w' : World) : Prop :=
  ∃ (b : Nat) (v : Value), e = .returned (.func (.func 44) #[] #[.pointer (some ⟨b, 0, none⟩)]) ∧ w'.heap[b]? = some (.cells #[v] 31 (0, 0)) ∧ w.heap.size ≤ b ∧ Kd.R Kd.string 9 w' w.heap.size (fun _ => True) v l ∧ Below w.heap.size w w'
theorem values_calls (A : Option Addr) (n c : Nat) (w : World) : Calls Try.prog 30 #[.slice A n c] w fun e w' => e = .returned (.func (.func 44) #[] #[.pointer (some ⟨w.heap.size, 0, none⟩)]) ∧ w' = w.alloc (.cells #[.slice A n c] 31) := by
  go_enter Try.func30, Try.ntmps30
  go_wp2
  go_ret
  exact ⟨rfl, rfl⟩
theorem list_end {w wr : World} {S : TS} {xs : List ByteArray} {pre : ByteArray} {v : Value} (hB : Below w.heap.size w wr) (hf : FS S.fs) (hR : Kd.R Kd.string 9 wr w.heap.size (fun _ => True) v xs) (hn : xs.Nodup) (hm : ∀ s, s ∈ xs ↔ s ∈ listT S pre) {w2 : World}
    (h : Sorted wr w.heap.size (fun _ => True) v (msrt xs) w2) : Lists w (listT S pre) (.returned (.func (.func 44) #[] #[.pointer (some ⟨w2.heap.size, 0, none⟩)])) (w2.alloc (.cells #[v] 31)) := by
  obtain ⟨hR2, hg2⟩ := h
  have hB2 := below_sorted hB hR hg2
  rw [sorted_list hf hn hm] at hR2
  exact ⟨w2.heap.size, v, rfl, blk_new w2 _, hB2.size, Kd.R_alloc hR2 _, hB2.alloc hB2.size _⟩
set_option maxRecDepth 100000 in
set_option maxHeartbeats 2000000 in
theorem tlist_calls {w : World} {base p : Nat} {ok : Nat → Prop} {S : TS} (h : TMem w base ok p S) (pre : ByteArray) :
    Calls Try.prog 15 #[.pointer (some ⟨p, 0, none⟩), .string pre] w (Lists w (listT S pre)) := by
  obtain ⟨m, hb, hm⟩ := h.blk
  have c33 := (tree_cells hb).2.1
  have HG := Aside0.mk h.good
  have hbn : ∀ k, ok k → k < w.heap.size := fun k hk => (h.bound k hk).2
  rcases hm with ⟨rfl, hf⟩ | ⟨b, rfl, hne, hokb, hM⟩
  · have hnl : listT S pre = [] := by unfold listT; rw [hf]; rfl
    have hsl := fun (W : World) => sort_calls (w := W) (base := w.heap.size) (ok := fun _ => True) (Kd.R_nil Kd.string 9 W w.heap.size (fun _ => True)) (by decide)
    have hrn := fun (W : World) => run_range_nilMap (P := Try.prog) W 48 9 9 Try.underlying48
    have hrx := fun (W : World) ty => run_next_nilMap (P := Try.prog) W ty 0 0 #[]
    have HNL := Aside0.mk hnl
    clear hb h hf hnl
    go_enter Try.func15, Try.ntmps15
    go_wp2_with fail
    refine wp_loop_rounds 1 ?_
    rw [rounds_succ]
    go_wp2_with fail
    refine (hsl _).mono ?_
    rintro e w2 ⟨rfl, hS⟩
    clear hsl
    go_wp2_with fail
    refine (values_calls _ _ _ _).mono ?_
    rintro e w3 ⟨rfl, rfl⟩
    go_wp2_with fail
    go_ret
    exact list_end (xs := []) ((Below.refl _ w).alloc (Nat.le_refl _) _) HG.out.rise (Kd.R_nil _ _ _ _ _) List.nodup_nil (fun s => by rw [HNL.out]) hS
  · have HM := Aside0.mk hM
    have HO := Aside0.mk (hbn b hokb)
    clear hb h hM hokb hbn
    go_enter Try.func15, Try.ntmps15
    go_wp2_with (first | (at_range; refine range_event rfl rfl Try.underlying48 rfl HM.out ?_; intro w0 cnt hr0 hg0 hs0 hc0))
    go_frame
    have hM0 : Aside0 ((Below w.heap.size w w0) ∧ ([] : List ByteArray).Nodup ∧ (∀ s, s ∈ ([] : List ByteArray) ↔ ((fget S.fs s).isSome = true ∧ (fV S.fs s).isSome = false ∧ startsB s pre = true)) ∧ ([] : List ByteArray).length + cnt ≤ 256) := by
      refine ⟨pw_below_grown (Below.refl _ w) _ (Nat.le_refl _) hg0 (fun k hk => by cases hk), List.nodup_nil, fun s => ⟨(fun h => by cases h), fun h => ?_⟩, by have := HG.out.few; simp; omega⟩
      have h1 := h.1
      have h2 := h.2.1
      unfold fV at h2
      cases hg : fget S.fs s with
      | none => rw [hg] at h1; cases h1
      | some u => rw [hg] at h2; cases h2
    have HS0 := Aside0.mk hs0
    clear hg0 hs0 hc0
    go_loopg [5] (cnt + 1) (fun n v5 wr => ∃ (xs : List ByteArray) (lf : ByteArray → Bool) (c : Nat), Aside0 (n = c + 1) ∧ Aside0 (RangeV wr b w.heap.size S.fs.length (fV S.fs) lf c) ∧ Aside0 (Kd.R Kd.string 9 wr (w.heap.size + 1) (fun _ => True) v5 xs) ∧
      Aside0 ((Below w.heap.size w wr) ∧ xs.Nodup ∧ (∀ s, s ∈ xs ↔ ((fget S.fs s).isSome = true ∧ lf s = false ∧ startsB s pre = true)) ∧ xs.length + c ≤ 256))
    case atStart => exact ⟨[], _, cnt, ⟨rfl⟩, ⟨hr0⟩, ⟨Kd.R_nil _ _ _ _ _⟩, hM0⟩
    case round =>
      obtain ⟨xs, lf, c, hn, HR, HX, HI⟩ := hrel
      clear hr0 hM0
      obtain ⟨A5, c5, rfl⟩ := Kd.R_slice HX.out
      go_wp2_with (first | (at_next; refine next_event rfl rfl rfl HR.out ?_ ?_))
      · intro hd
        have hxl := HI.out.2.2.2
        have HE := Aside0.mk (show ∀ s, s ∈ xs ↔ s ∈ listT S pre from fun s => by
          rw [HI.out.2.2.1 s, mem_list]
          refine ⟨fun h => ⟨h.1, h.2.2⟩, fun h => ⟨h.1, hd s ?_, h.2⟩⟩
          obtain ⟨y, hy, e⟩ := List.mem_map.1 (fget_some_iff.1 h.1)
          have := isP_size (HG.out.short y hy).1
          rw [e] at this
          unfold maxLen
          omega)
        have HX2 := Aside0.mk (Kd.R_lower (base' := w.heap.size) HX.out (Nat.le_succ _))
        have hsl := sort_calls HX2.out (by omega)
        clear hd hxl
        go_wp2_with fail
        refine hsl.mono ?_
        rintro e w2 ⟨rfl, hS⟩
        clear hsl
        go_wp2_with fail
        refine (values_calls _ _ _ _).mono ?_
        rintro e w3 ⟨rfl, rfl⟩
        go_wp2_with fail
        go_ret
        exact list_end HI.out.1 HG.out.rise HX2.out HI.out.2.1 HE.out hS
      · intro s v w1 c' hs hlf hfs hr1 hlt hg1 hsz hen
        obtain ⟨u, hu, rfl⟩ : ∃ u, fget S.fs s = some u ∧ v = .string u := by
          unfold fV at hfs
          cases hg : fget S.fs s with
          | none => rw [hg] at hfs; cases hfs
          | some u => rw [hg] at hfs; exact ⟨u, rfl, (Option.some.inj hfs).symm⟩
        have hB1 := HI.out.1
        have hrl := HR.out.lt
        have hBw1 : Below w.heap.size w w1 := pw_below_grown hB1 _ hB1.size hg1 (fun k hk => by injection hk with hk; omega)
        have hX1 : Kd.R Kd.string 9 w1 (w.heap.size + 1) (fun _ => True) (.slice A5 xs.length c5) xs := by
          exact Kd.R_mono (Kd.R_grown (Kd.R_bound HX.out) hg1 (fun k hk e => by have := hk.2.1; injection e with e; omega)) (fun _ _ => trivial)
        have hpx := Try.strings_HasPrefix s pre w1
        rw [prefix_starts] at hpx
        have hlen := HI.out.2.2.2
        have hlf1 : ∀ t, ((lf t && !decide (t = s)) = false) ↔ (lf t = false ∨ t = s) := fun t => by cases lf t <;> simp
        cases hsb : startsB s pre with
        | false =>
          rw [hsb] at hpx
          have HF := Aside0.mk (show (xs.Nodup ∧ (∀ t, t ∈ xs ↔ ((fget S.fs t).isSome = true ∧ (lf t && !decide (t = s)) = false ∧ startsB t pre = true)) ∧ xs.length + c' ≤ 256) from by
            refine ⟨HI.out.2.1, fun t => ?_, by omega⟩
            rw [HI.out.2.2.1 t, hlf1 t]
            constructor
            · exact fun h => ⟨h.1, .inl h.2.1, h.2.2⟩
            · rintro ⟨h1, h2 | h2, h3⟩
              · exact ⟨h1, h2, h3⟩
              · rw [h2, hsb] at h3; cases h3)
          have HR1 := Aside0.mk hr1
          have HX1 := Aside0.mk hX1
          have HN := Aside0.mk (And.intro hn.out hlt)
          clear hs hlf hr1 hlt hg1 hsz hu hrl hX1 hlen hlf1 hsb
          go_wp2_with fail
          refine hpx.mono ?_
          rintro e w2 ⟨rfl, rfl⟩
          clear hpx
          go_wp2_with fail
          go_roundg (c' + 1)
          case measure => have := HN.out; omega
          case rel => exact ⟨xs, _, c', ⟨rfl⟩, HR1, HX1, ⟨hBw1, HF.out⟩⟩
        | true =>
          rw [hsb] at hpx
          have HF := Aside0.mk (show ((xs ++ [s]).Nodup ∧ (∀ t, t ∈ xs ++ [s] ↔ ((fget S.fs t).isSome = true ∧ (lf t && !decide (t = s)) = false ∧ startsB t pre = true)) ∧ (xs ++ [s]).length + c' ≤ 256) from by
            have hsx : s ∉ xs := fun h => by rw [(HI.out.2.2.1 s).1 h |>.2.1] at hlf; cases hlf
            refine ⟨?_, fun t => ?_, by simp; omega⟩
            · rw [List.nodup_append]
              exact ⟨HI.out.2.1, by simp, fun a ha b hb e => by rw [List.mem_singleton.1 hb] at e; exact hsx (e ▸ ha)⟩
            · rw [List.mem_append, HI.out.2.2.1 t, hlf1 t, List.mem_singleton]
              constructor
              · rintro (h | h)
                · exact ⟨h.1, .inl h.2.1, h.2.2⟩
                · subst h; exact ⟨by rw [hu]; rfl, .inr rfl, hsb⟩
              · rintro ⟨h1, h2 | h2, h3⟩
                · exact .inl ⟨h1, h2, h3⟩
                · exact .inr h2)
          have hbase : w.heap.size + 1 ≤ w1.heap.size := by omega
          have HR1 := Aside0.mk hr1
          have HN := Aside0.mk (And.intro hn.out hlt)
          have HB1 := Aside0.mk hBw1
          clear hs hlf hr1 hlt hg1 hu hlf1 hsb hB1 hBw1 hsz
          go_wp2_with fail
          refine hpx.mono ?_
          rintro e w2 ⟨rfl, rfl⟩
          clear hpx
          go_wp2_with (first | (at_builtin; refine txt_push (base := w.heap.size + 1) rfl rfl rfl rfl rfl hX1 hbase (by omega) ?_; intro v2 w3 hR2 hg2))
          have hown := fun k hk => ((Kd.R_bound hX1).1 k hk).2.1
          have hB3 := pw_below_grown HB1.out _ (by omega) hg2 (fun k hk => by have := hown k hk; omega)
          have hr3 := HR1.out.kept hg2 (fun e => by have h1 := hown b e.symm; have h2 := HO.out; omega) (fun e => by have := hown _ e.symm; omega)
          have hR3 := Kd.R_mono hR2 (fun _ _ => (trivial : True))
          clear hR2 hg2 hX1 hown
          go_wp2_with fail
          go_roundg (c' + 1)
          case measure => have := HN.out; omega
          case rel => exact ⟨xs ++ [s], _, c', ⟨rfl⟩, ⟨hr3⟩, ⟨hR3⟩, ⟨hB3, HF.out⟩⟩
end Go.Proofs.Ytkldaghhfnpcjaa.P
/- The paths that a tree lists, gone over by a loop over its iterator. -/
namespace Go.Proofs.Ytkldaghhfnpcjaa.P
open Go.RowKit Go.Shelf Go.Maps Go.Proofs.YtkldaghhfnpcjaaW.PrintWords Go.Proofs.YtkldaghhfnpcjaaW.PrintLast Go.Proofs.YtkldaghhfnpcjaaW.PrintMore Go.Proofs.Ytkldaghhfnpcjaa.Pl
set_option linter.unusedVariables false
set_option linter.unusedSimpArgs false
attribute [local go_sem] Oper.semAt_some
theorem run_equalIn_func_nil {P : Program} (w : World) (d : Nat) (t : TypeId) {ps rs : Array TypeId} {v : Bool} (hu : P.underlying t = some (.func ps rs v)) (fn : Fn) (first cap : Array Value) : (Op.equalIn (d + 1) t (.func fn first cap) .nilFunc).run P w = .ok false w := by
  simp [Op.equalIn, run_underlying hu]
theorem run_eql_func_nil {P : Program} (w : World) (t : TypeId) {ps rs : Array TypeId} {v : Bool} (hu : P.underlying t = some (.func ps rs v)) (fn : Fn) (first cap : Array Value) :
    (binOp .eql t (.func fn first cap) .nilFunc).run P w = .ok (.bool false) w := by
  simp only [binOp]
  simp [Op.equal, Op.maxDepth, run_equalIn_func_nil w 9999 t hu fn first cap]
theorem row_kept {W W' : World} {base : Nat} {v : Value} {l : List ByteArray} (h : Kd.R Kd.string 9 W base (fun _ => True) v l) (hk : ∀ k, v.ownBlock = some k → W'.heap[k]? = W.heap[k]?) : Kd.R Kd.string 9 W' base (fun _ => True) v l := by
  have ho := Kd.own_of_R h
  refine Kd.R_of_own ⟨ho.1, ?_⟩ (fun _ _ => trivial)
  rcases ho.2 with h1 | ⟨g, cap, cur, rfl, hb, hg, h2⟩
  · exact .inl h1
  · exact .inr ⟨g, cap, cur, rfl, hb, (hk g rfl).trans hg, h2⟩
/-- append(l, x) of one text, in a round -/
theorem txt_push_in {F : Fence} {n : Nat} {W : World} {n0 base : Nat} (hn : W.heap.size = n0) {s y : Operand} {v : Value} {xs : List ByteArray} {x : ByteArray} {ops : Array Oper} {rest : List Oper} {o : Oper} {a : Act} {Q : Exit → Act → World → Prop}
    (hgd : o.guard = none) (ho : o.op = .call { callee := .builtin .append, args := #[s, y], argTypes := #[31, 31] }) (hs : a.eval s = v) (hy : a.eval y = .slice (some ⟨n0, 0, none⟩) 1 1)
    (hR : W.ownsRow base 9 1 v xs.length (encs Value.string xs)) (hbase : base ≤ W.heap.size) (hl : (xs.length + 1) * 16 ≤ 140737488355328)
    (h : ∀ v1 w1, w1.ownsRow base 9 1 v1 (xs.length + 1) (encs Value.string xs ++ [.string x]) → (W.alloc (.cells #[.string x] 9)).grownBy w1 v.ownBlock → wpListIn F n Try.prog ops Q rest (a.put o.dst v1) w1) : wpListIn F n Try.prog ops Q (o :: rest) a (W.alloc (.cells #[.string x] 9)) := by
  subst hn
  obtain ⟨i9, hi9, hzz⟩ := Option.map_eq_some_iff.1 info9
  simp only [Prod.mk.injEq] at hzz
  obtain ⟨z9, s9, y9⟩ := hzz
  have hown : (W.alloc (.cells #[.string x] 9)).ownsRow base 9 1 v xs.length (encs Value.string xs) := by
    refine hR.kept (World.grownBy_alloc W _ none) ?_
    rcases hR.2 with ⟨rfl, _⟩ | _
    · exact .inl rfl
    · rename_i hx
      obtain ⟨g, cap, cur, rfl, _⟩ := hx
      exact .inr (by simp [Value.ownBlock])
  exact wpListIn_append_own _ hgd s y 31 ho base 9 i9 (.string ⟨#[]⟩) 1 16 Try.underlying31 hi9 z9 s9 y9 rfl (by decide) v xs.length _ hs hown ⟨W.heap.size, 0, none⟩ 1 1 [.string x] hy rfl (cell_one_new _ _ _) (by simp [Value.oneCell']) (by unfold maxLen; omega) (by omega) (by simp; omega) (fun v1 w1 h1 h2 _ => h v1 w1 h1 h2)
theorem own_lower {W : World} {base e size n : Nat} {v : Value} {xs : List Value} (h : W.ownsRow base e size v n xs) : W.ownsRow 0 e size v n xs :=
  ⟨h.1, h.2.imp id (fun ⟨g, cap, cur, e1, _, h2⟩ => ⟨g, cap, cur, e1, Nat.zero_le _, h2⟩)⟩
/-- what a round keeps: the row's own block -/
def RowKp (v : Value) (A B : World) : Prop := ∀ k, v.ownBlock = some k → B.heap[k]? = A.heap[k]?
set_option maxRecDepth 100000 in
set_option maxHeartbeats 2000000 in
theorem values1_in (n : Nat) (lp Bs : Nat) (v : Value) (l : List ByteArray) (base : Nat) (hl : l.length ≤ 1000000) (J Jx : List ByteArray → World → Prop)
    (hY : ∀ pre x W, J pre W → pre.length < l.length → YieldAt Fence.wide (n - 1) Try.prog lp #[.string x] W fun e W' =>
      (e = .returned (.bool true) ∧ J (pre ++ [x]) W' ∧ RowKp v W W') ∨ (e = .returned (.bool false) ∧ Jx (pre ++ [x]) W'))
    (W : World) (hBs : W.cell? ⟨Bs, 0, none⟩ = some v) (hR : Kd.R Kd.string 9 W base (fun _ => True) v l) (h0 : J [] W) :
    CallsIn Fence.wide n Try.prog 44 #[.func (.yield lp) #[] #[], .pointer (some ⟨Bs, 0, none⟩)] W fun e W' => (∃ v, e = .returned v) ∧
      ((∃ ys, ys = l ∧ J ys W') ∨ (∃ pre, pre <+: l ∧ Jx pre W')) := by
  obtain ⟨A, c, hv⟩ := Kd.R_slice hR
  refine callsIn_of_wp Try.func44 rfl trivial ?_ rfl
  simp only [Try.ntmps44, List.size_toArray, List.length_cons, List.length_nil, Nat.reduceAdd, Nat.reduceSub, Array.replicate_succ, Array.replicate_zero, List.push_toArray, List.append_toArray, List.nil_append, List.cons_append]
  rw [hv] at hBs
  gi_wp2
  have hk0 : RowKp v W W := fun _ _ => rfl
  gi_loopw [7] (fun i wr => ∃ k : Nat, k ≤ l.length ∧ i = .int .i64 (k : Int) ∧ J (l.take k) wr ∧ RowKp v W wr)
    (fun i _ => l.length - (intOf i).toNat)
  case atStart => exact ⟨0, Nat.zero_le _, rfl, h0, hk0⟩
  case round =>
    obtain ⟨k, hk, rfl, hJs, hnx⟩ := hrel
    by_cases hlt : k < l.length
    · obtain ⟨A2, c2, hv2, hc2, hC⟩ := Kd.R_reads (row_kept hR hnx)
      obtain ⟨ad, e, hx⟩ := Kd.at_string hC (k : Int) (by omega) (by omega)
      rw [hv] at hv2
      injection hv2 with e1 e2 e3
      subst e1
      subst e3
      subst e
      obtain ⟨x, hxe⟩ : ∃ x, rdOf ByteArray.empty l (k : Int) = x := ⟨_, rfl⟩
      rw [hxe, Int.toNat_natCast] at hx
      have htk : l.take (k + 1) = l.take k ++ [x] := by
        rw [List.take_succ_eq_append_getElem hlt, ← hxe]
        unfold rdOf
        rw [Int.toNat_natCast, List.getD_eq_getElem?_getD, List.getElem?_eq_getElem hlt]
        rfl
      obtain ⟨fn, tmps, assign, body, hy, hRY⟩ := hY (l.take k) x wr hJs (by rw [List.length_take]; omega)
      have HT := Aside0.mk htk
      have p1 : decide ((k : Int) < (l.length : Int)) = true := decide_eq_true (by omega)
      have i0 : (0 : Int) ≤ (k : Int) := by omega
      have i1 : (k : Int) < (l.length : Int) := by omega
      have hw : wrap64 ((k : Int) + 1) = (k : Int) + 1 := w64_ (by omega) (by omega)
      clear htk hxe hC hc2
      gi_wp2
      refine ⟨fun h => (by cases h), ?_⟩
      refine hRY.mono ?_
      rintro e W3 (⟨rfl, hJ3, hk3⟩ | ⟨rfl, hJx3⟩)
      · gi_wp2
        go_roundw
        case rel => exact ⟨k + 1, by omega, by first | rfl | simp | (rw [hw]; rfl), by rw [HT.out]; exact hJ3, fun q hq => (hk3 q hq).trans (hnx q hq)⟩
        case measure => first | (simp [intOf]; omega) | (simp [intOf, hw]; omega)
      · gi_wp2
        refine bodyPost_ret (results_none rfl _ _ _) rfl ?_
        exact ⟨⟨_, rfl⟩, .inr ⟨_, by rw [← HT.out]; exact List.take_prefix _ _, hJx3⟩⟩
    · have p1 : decide ((k : Int) < (l.length : Int)) = false := decide_eq_false (by omega)
      have HK := Aside0.mk (show l.take k = l from List.take_of_length_le (by omega))
      gi_wp2
      go_end0
      exact ⟨⟨_, rfl⟩, .inl ⟨_, HK.out, hJs⟩⟩
theorem values_stops (n : Nat) (Bs base : Nat) (v : Value) (l : List ByteArray) (hl : l.length ≤ 1000000) (w : World) (hBs : Bs < w.heap.size) (hvb : ∀ k, v.ownBlock = some k → k < w.heap.size)
    (hc : w.cell? ⟨Bs, 0, none⟩ = some v) (hR : Kd.R Kd.string 9 w base (fun _ => True) v l) :
    SeqStopsK Fence.wide n Try.prog 44 #[.pointer (some ⟨Bs, 0, none⟩)] (fun x : ByteArray => #[Value.string x]) (RowKp v) (fun ys => ys = l) (fun pre => pre <+: l) l.length w := fun lp J Jx W hW _ _ hY h0 =>
  values1_in n lp Bs v l base hl J Jx hY W ((hW.cell (p := ⟨Bs, 0, none⟩) hBs).trans hc) (row_kept hR (fun k hk => hW.block k (hvb k hk))) h0
theorem leaves_mark1 {F : Fence} {n : Nat} {P : Program} {fn : Func} {tmps : Array Value} {R : Ending → World → Prop} {J : World → Prop} {D : Nat} {W : World}
    (hD : W.heap[D]? = some (.deferred (some []))) (hJ : J (W.putObj D (.deferred none)))
    (hr : ∀ W', J W' → ∃ v, (results fn tmps).run P W' = .ok v W' ∧ R (.returned v) W') : LeavesInM F n P fn tmps R [{ target := .collected D, args := #[] }] .returning W :=
  ⟨by simp, .inl ⟨_, _, rfl, run_takeDeferred hD, hr _ hJ⟩⟩
/-- paths, and that they were handed out -/
def Listed (w : World) (l : List ByteArray) (e : Ending) (w' : World) : Prop := ∃ v, e = .returned (.tuple #[v, .bool true]) ∧ Kd.R Kd.string 9 w' w.heap.size (fun _ => True) v l ∧ Below w.heap.size w w'
theorem Turn.below_more {ok : Nat → Prop} {a b c : World} (h : Turn ok a b) (hb : Below a.heap.size b c) : Turn ok a c :=
  ⟨hb.os.trans h.os, hb.tape.trans h.tape, hb.output.trans h.output, Nat.le_trans h.size hb.size, fun k hk hn => (hb.block k hk).trans (h.block k hk hn)⟩
theorem ownFrom_turn {β : Type} {B N : Nat} {w₀ : World} (hB : w₀.heap.size ≤ N) : OwnFrom N (fun (_ : β) W => Turn (· = B) w₀ W) :=
  fun _ _ _ row hs hg hr => hs.trans (ok2 := fun k => row = some k) (Turn.grown hg (fun _ h => h)) (fun k hk => .inr (Nat.le_trans hB (hr k hk).1))
set_option maxRecDepth 100000 in
set_option maxHeartbeats 4000000 in
theorem listed_calls {w : World} {tp : Value} {pre : ByteArray} {l : List ByteArray} (hl : l.length ≤ 256)
    (hc : ∀ W, Below w.heap.size w W → Calls Try.prog 15 #[tp, .string pre] W (Lists W l)) (ht : tp = .pointer none ∨ ∃ p, tp = .pointer (some ⟨p, 0, none⟩)) :
    Calls Try.prog 14 #[tp, .string pre] w (Listed w l) := by
  have hres : ∀ (tmps : Array Value) (h4 : tmps[4]?.getD undef = .pointer (some ⟨w.heap.size, 0, none⟩)) (h5 : tmps[5]?.getD undef = .pointer (some ⟨w.heap.size + 1, 0, none⟩)) (v : Value) (W' : World), W'.cell? ⟨w.heap.size, 0, none⟩ = some v → (∃ A n c, v = .slice A n c) → W'.cell? ⟨w.heap.size + 1, 0, none⟩ = some (.bool true) →
      (results Try.f14 tmps).run Try.prog W' = .ok (.tuple #[v, .bool true]) W' := by
    rintro tmps h4 h5 v W' h1 ⟨A, n, c, rfl⟩ h2
    simp [results, Try.f14, go_sem, h1, h2, h4, h5]
  have hres := Aside0.mk hres
  refine (callsIn_wide (n := 6)).1 (callsIn_of_wp_marks Try.func14 rfl trivial ?_ rfl)
  simp only [Try.ntmps14, List.size_toArray, List.length_cons, List.length_nil, Nat.reduceAdd, Nat.reduceSub, Array.replicate_succ, Array.replicate_zero, List.push_toArray, List.append_toArray, List.nil_append, List.cons_append]
  rw [wpIn_wide]
  obtain ⟨W0, hW0⟩ : ∃ W0, ((w.alloc (.cells #[.slice none 0 0] 31)).alloc (.cells #[.bool false] 4)).alloc (.cells #[.slice none 0 0] 31) = W0 := ⟨_, rfl⟩
  have hB0 : Below w.heap.size w W0 := by rw [← hW0]; exact (((Below.refl _ w).alloc (Nat.le_refl _) _).alloc (by simp) _).alloc (by simp; omega) _
  have hs0 : W0.heap.size = w.heap.size + 3 := by rw [← hW0]; simp
  have b0 : Boxed W0 w.heap.size 31 (.slice none 0 0) := by rw [← hW0]; exact ((Boxed.new w 31 _).alloc _).alloc _
  have b1 : Boxed W0 (w.heap.size + 1) 4 (.bool false) := by
    rw [← hW0]
    have := (Boxed.new (w.alloc (.cells #[.slice none 0 0] 31)) 4 (.bool false)).alloc (.cells #[.slice none 0 0] 31)
    rwa [World.size_alloc] at this
  have b2 : Boxed W0 (w.heap.size + 2) 31 (.slice none 0 0) := by
    rw [← hW0]
    have := Boxed.new ((w.alloc (.cells #[.slice none 0 0] 31)).alloc (.cells #[.bool false] 4)) 31 (.slice none 0 0)
    rwa [World.size_alloc, World.size_alloc] at this
  have hcl := hc W0 hB0
  have H0 := Aside0.mk (And.intro hB0 (And.intro hs0 (And.intro b0 (And.intro b1 b2))))
  clear hc hB0 hs0 b0 b1 b2
  rcases ht with rfl | ⟨p, rfl⟩
  all_goals
    go_wp2_with fail
    try rw [hW0]
    refine hcl.mono ?_
    rintro e w1 ⟨b, v, rfl, hbx, hble, hR, hB1⟩
    have hnf := fun (W : World) fn first cap => run_eql_func_nil (P := Try.prog) W 35 Try.underlying35 fn first cap
    have hbx : Boxed w1 b 31 v := hbx
    have hb0 : Boxed w1 w.heap.size 31 (.slice none 0 0) := (hB1.block _ H0.out.2.2.1.lt).trans H0.out.2.2.1
    have hb1 : Boxed w1 (w.heap.size + 1) 4 (.bool false) := (hB1.block _ H0.out.2.2.2.1.lt).trans H0.out.2.2.2.1
    have hb2 : Boxed w1 (w.heap.size + 2) 31 (.slice none 0 0) := (hB1.block _ H0.out.2.2.2.2.lt).trans H0.out.2.2.2.2
    have hvb : ∀ k, v.ownBlock = some k → W0.heap.size ≤ k ∧ k < w1.heap.size := fun k hk => ⟨((Kd.R_bound hR).1 k hk).2.1, by
      rcases (Kd.own_of_R hR).2 with ⟨rfl, _⟩ | ⟨g, cap, cur, rfl, _, hg, _⟩
      · cases hk
      · cases hk; exact (Array.getElem?_eq_some_iff.1 hg).1⟩
    have H1 := Aside0.mk (And.intro hbx (And.intro hR (And.intro hB1 (And.intro hb0 (And.intro hb1 (And.intro hb2 hvb))))))
    clear hcl hW0 hbx hble hR hB1 hb0 hb1 hb2 hvb
    go_wp2_with fail
    refine (wpIn_wide (n := 6)).1 ?_
    apply wpIn_rangeFunc_ownF (F := Fence.wide) (n := 6) rfl (by decide) (gf := 44) (lb := #[.pointer (some ⟨b, 0, none⟩)]) rfl trivial (enters_of Try.func44 (by kernel_rfl) rfl)
      (values_stops (6 - 1) b W0.heap.size v l (by omega) _ H1.out.1.lt (fun k hk => (H1.out.2.2.2.2.2.2 k hk).2) H1.out.1.cell H1.out.2.1)
      (fun h1 h2 k hk => (h2 k hk).trans (h1 k hk)) (fun W q o o' hq _ _ _ k hk => World.putObj_heap_other (by have := (H1.out.2.2.2.2.2.2 k hk).2; omega)) (Below.refl _ _) (fun _ => rfl)
      (fun pr W => (∃ u, Boxed W (w.heap.size + 2) 31 u ∧ W.ownsRow w1.heap.size 9 1 u pr.length (encs Value.string pr) ∧ True) ∧ Turn (· = w.heap.size + 2) w1 W) (fun _ _ _ => False)
      (OwnFrom.and (Own.from (holdsRow_own w1.heap.size (w.heap.size + 2) 31 9 1 List.length (encs Value.string) (fun _ _ => True)) _) (ownFrom_turn (Nat.le_refl _)))
      (fun _ => ownFrom_pure _ (fun _ => False)) ⟨⟨_, H1.out.2.2.2.2.2.1, ⟨rfl, .inl ⟨rfl, rfl⟩⟩, trivial⟩, Turn.refl _ _⟩
    case hassign =>
      intro lp x W K hK
      gi_wp2
      exact hK
    case hbody =>
      rintro lp pr x W ⟨⟨u, hub, hur, -⟩, hT⟩ hlt
      have hRu : Kd.R Kd.string 9 W w1.heap.size (fun _ => True) u pr := Kd.R_of_own hur (fun _ _ => trivial)
      obtain ⟨A, c, rfl⟩ := Kd.R_slice hRu
      have hcell := hub.cell
      have hsz := H1.out.2.2.2.2.2.1.lt
      have hWs := hT.size
      have HB := Aside0.mk (And.intro hub (And.intro hur hT))
      clear hRu hub hT
      have h256 : ∀ q : Nat, q = pr.length + 1 → decide ((256 : Int) < (q : Int)) = false := fun q hq => decide_eq_false (by omega)
      gi_wp2_with (first | (gi_at_builtin; refine txt_push_in (base := w1.heap.size) (W := W) (xs := pr) (v := .slice A pr.length c) rfl rfl rfl rfl rfl HB.out.2.1 (by omega) (by omega) ?_; intro v' w3 hown' hg3; (obtain ⟨g', cap', rfl⟩ := ownsRow_succ hown'); have HA := Aside0.mk (Boxed.appended HB.out.1 (by decide) (own_lower HB.out.2.1) (Nat.zero_le _) (Nat.zero_le _) (own_lower hown') hg3); have HO := Aside0.mk (And.intro hown' hg3); have hc3 := HA.out.1.cell; have hf3 := HA.out.1.frozen; have hc4 := HA.out.2.1.cell; clear hown' hg3))
      have hBN : Below w1.heap.size W w3 := pw_below_grown ((Below.refl _ W).alloc hWs _) _ (by simp; omega) HO.out.2 (fun k hk => ((Kd.R_bound (Kd.R_of_own HB.out.2.1 (fun _ _ => trivial) : Kd.R Kd.string 9 W w1.heap.size (fun _ => True) _ pr)).1 k hk).2.1)
      have hge : w1.heap.size ≤ g' := by
        rcases HO.out.1.2 with ⟨e, _⟩ | ⟨g, cap, cur, e, h1, _⟩
        · cases e
        · cases e; exact h1
      refine ⟨HA.out.2.2.2.1, fun k hk => ?_, ⟨_, HA.out.2.1, ?_, trivial⟩, (HB.out.2.2.below_more hBN).setCell _ _ rfl⟩
      · have := H1.out.2.2.2.2.2.2 k hk
        have h3 := H0.out.2.1
        exact (Below.heap_setCell _ _ _ k (by show k ≠ _; simp; omega)).trans (hBN.block k this.2)
      · rw [List.length_append, List.length_singleton, show encs Value.string (pr ++ [x]) = encs Value.string pr ++ [.string x] by simp [encs]]
        exact HO.out.1.kept (grownBy_setCell' w3 (w.heap.size + 2) _) (.inr (by simp [Value.ownBlock]; omega))
    case hstop =>
      intro D c pr W _ _ hx _
      exact hx.elim
    case hdone =>
      rintro D xs W hD rfl ⟨⟨u, hub, hur, -⟩, hT⟩ hK
      have hRu : Kd.R Kd.string 9 W w1.heap.size (fun _ => True) u xs := Kd.R_of_own hur (fun _ _ => trivial)
      obtain ⟨A, c, rfl⟩ := Kd.R_slice hRu
      have hx0 : Boxed W w.heap.size 31 (.slice none 0 0) := (hT.block _ H1.out.2.2.2.1.lt (by omega)).trans H1.out.2.2.2.1
      have hx1 : Boxed W (w.heap.size + 1) 4 (.bool false) := (hT.block _ H1.out.2.2.2.2.1.lt (by omega)).trans H1.out.2.2.2.2.1
      have hcell := hub.cell
      have hc0 := hx0.cell
      have hf0 := hx0.frozen
      have hcz := (hx1.other (B' := w.heap.size) (by omega) (.slice A xs.length c)).cell
      have hfz := (hx1.other (B' := w.heap.size) (by omega) (.slice A xs.length c)).frozen
      have HF := Aside0.mk (And.intro hRu (And.intro hT (And.intro hK (And.intro hx0 (And.intro hx1 hD)))))
      clear hRu hT hK hx0 hx1 hub hur hD
      go_wp2_with fail
      have hk0 : w.heap.size + 3 ≤ w1.heap.size := by have h1 := H0.out.2.1; have h2 := H1.out.2.2.1.size; omega
      have hgt := fun k hk => ((Kd.R_bound HF.out.1).1 k hk).2.1
      have hD2 : ((W.setCell ⟨w.heap.size, 0, none⟩ (.slice A xs.length c)).setCell ⟨w.heap.size + 1, 0, none⟩ (.bool true)).heap[D]? = some (.deferred (some [])) :=
        (Below.heap_setCell _ _ _ D (by show D ≠ _; have := HF.out.2.2.2.2.2; simp; omega)).trans ((Below.heap_setCell _ _ _ D (by show D ≠ _; have := HF.out.2.2.2.2.2; simp; omega)).trans HF.out.2.2.1)
      refine leaves_mark1 (J := fun W' => Boxed W' w.heap.size 31 (.slice A xs.length c) ∧ Boxed W' (w.heap.size + 1) 4 (.bool true) ∧ Kd.R Kd.string 9 W' w1.heap.size (fun _ => True) (.slice A xs.length c) xs ∧ Below w.heap.size w W') hD2 ⟨?_, ?_, ?_, ?_⟩ ?_
      · exact (World.putObj_heap_other (by have := HF.out.2.2.2.2.2; omega)).trans ((HF.out.2.2.2.1.set _).other (by omega) _)
      · exact (World.putObj_heap_other (by have := HF.out.2.2.2.2.2; omega)).trans ((HF.out.2.2.2.2.1.other (by omega) _).set _)
      · refine row_kept HF.out.1 (fun k hk => ?_)
        have h1 := hgt k hk
        have h2 : k ≠ D := by
          rcases (Kd.own_of_R HF.out.1).2 with ⟨e, _⟩ | ⟨g, cap, cur, e, _, hg, _⟩
          · rw [e] at hk; cases hk
          · rw [e] at hk
            injection hk with hk
            have hk : g = k := hk
            subst hk
            rintro rfl
            rw [hg] at HF
            have := HF.out.2.2.1
            injection this with this
            cases this
        exact (World.putObj_heap_other (by omega)).trans ((Below.heap_setCell _ _ _ k (by show k ≠ _; simp; omega)).trans (Below.heap_setCell _ _ _ k (by show k ≠ _; simp; omega)))
      · have hBW : Below w.heap.size w W := (H0.out.1.trans (H1.out.2.2.1.mono (by have := H0.out.2.1; omega))).trans (HF.out.2.1.below (fun k hk => by omega) (by omega))
        refine ((hBW.setCell (p := ⟨w.heap.size, 0, none⟩) (Nat.le_refl _) (.slice A xs.length c)).setCell (p := ⟨w.heap.size + 1, 0, none⟩) (by simp) (.bool true)).trans ?_
        exact belowK_b (w := w) (Nat.le_refl _) _ D _ _ (by have := HF.out.2.2.2.2.2; omega) hD2 rfl rfl
      · rintro W' ⟨j0, j1, j2, j3⟩
        exact ⟨_, hres.out _ rfl rfl _ W' j0.cell ⟨A, _, c, rfl⟩ j1.cell, _, rfl, Kd.R_lower j2 (by omega), j3⟩
end Go.Proofs.Ytkldaghhfnpcjaa.P
