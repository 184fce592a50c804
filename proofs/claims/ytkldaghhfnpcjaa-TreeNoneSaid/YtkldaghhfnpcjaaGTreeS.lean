/- The source tree: what changed behind a mark. -/
import Derived.Test.YtkldaghhfnpcjaaGTree
import Derived.Test.YtkldaghhfnpcjaaGSort
namespace Go.Proofs.Ytkldaghhfnpcjaa.P
open Go.RowKit Go.Maps Go.Proofs.YtkldaghhfnpcjaaW.PrintWords Go.Proofs.YtkldaghhfnpcjaaW.PrintLast Go.Proofs.YtkldaghhfnpcjaaW.PrintMore Go.Proofs.Ytkldaghhfnpcjaa.Pl
set_option linter.unusedVariables false
set_option linter.unusedSimpArgs false
/-- append(l, x) of one text -/
theorem txt_push {W : World} {n base : Nat} (hn : W.heap.size = n) {s y : Operand} {v : Value} {xs : List ByteArray} {x : ByteArray} {ok : Nat → Prop} {ops : Array Oper} {rest : List Oper} {o : Oper} {a : Act} {Q : Exit → Act → World → Prop}
    (hgd : o.guard = none) (ho : o.op = .call { callee := .builtin .append, args := #[s, y], argTypes := #[31, 31] }) (hs : a.eval s = v) (hy : a.eval y = .slice (some ⟨n, 0, none⟩) 1 1)
    (hR : Kd.R Kd.string 9 W base ok v xs) (hbase : base ≤ W.heap.size) (hl : (xs.length + 1) * 16 ≤ 140737488355328)
    (h : ∀ v1 w1, Kd.R Kd.string 9 w1 base (fun k => ok k ∨ W.heap.size ≤ k) v1 (xs ++ [x]) → W.grownBy w1 v.ownBlock → wpList Try.prog ops Q rest (a.put o.dst v1) w1) : wpList Try.prog ops Q (o :: rest) a (W.alloc (.cells #[.string x] 9)) := by
  subst hn
  exact Kd.R_append Kd.string (w0 := W) (W := W) base hgd s y 31 9 (.string ⟨#[]⟩) 16 ho Try.underlying31 info9 rfl (by decide) (by omega) v xs x [.string x] (fun k => ok k ∨ W.heap.size ≤ k) (fun _ => False) hs hy rfl (fun _ hk => hk.elim) (fun _ hk => .inr hk)
    (Kd.R_mono hR (fun _ hk => .inl hk)) (Below.refl _ _) hbase hl (fun v1 w1 h1 _ hg _ => h v1 w1 h1 hg)
/-- paths, and whether they are told -/
def Tells (w : World) (R : List ByteArray × Bool) (e : Ending) (w' : World) : Prop := ∃ v, e = .returned (.tuple #[v, .bool R.2]) ∧ Kd.R Kd.string 9 w' w.heap.size (fun _ => True) v R.1 ∧ Below w.heap.size w w'
theorem below_sorted {w wr w' : World} {ok : Nat → Prop} {v : Value} {l : List ByteArray} (hB : Below w.heap.size w wr) (hR : Kd.R Kd.string 9 wr w.heap.size ok v l) (hg : wr.grownBy w' v.ownBlock) : Below w.heap.size w w' :=
  pw_below_grown hB _ hB.size hg (fun k hk => ((Kd.R_bound hR).1 k hk).2.1)
set_option maxRecDepth 100000 in
set_option maxHeartbeats 2000000 in
theorem behind_calls {w : World} {p : Nat} {m : Option Nat} (S : TS) (hb : w.heap[p]? = some (.cells (treeCells S.cs m) 50 (0, 0))) (hC : S.cs.length ≤ 1000000) (mark : Int) :
    Calls Try.prog 40 #[.pointer (some ⟨p, 0, none⟩), .int .i64 mark] w (Tells w (sinceT S mark)) := by
  obtain ⟨c32, _, cr, _⟩ := tree_cells hb
  have HB := Aside0.mk hb
  have HCR := Aside0.mk cr
  have hplt := blk_lt hb
  obtain ⟨N, hN⟩ : ∃ N, S.cs.length = N := ⟨_, rfl⟩
  rw [hN] at c32 hC
  clear hb cr
  by_cases h1 : mark < 0
  · have HE := Aside0.mk (show sinceT S mark = ([], false) from by unfold sinceT; rw [if_neg (by omega)])
    have k1 : decide (mark < 0) = true := decide_eq_true h1
    clear hN
    go_enter Try.func40, Try.ntmps40
    go_wp2_with fail
    go_ret2
    exact ⟨_, by rw [HE.out]; rfl, by rw [HE.out]; exact Kd.R_nil _ _ _ _ _, Below.refl _ _⟩
  have k1 : decide (mark < 0) = false := decide_eq_false h1
  by_cases h2 : (N : Int) < mark
  · have HE := Aside0.mk (show sinceT S mark = ([], false) from by unfold sinceT; rw [if_neg (by omega)])
    have k2 : decide ((N : Int) < mark) = true := decide_eq_true h2
    clear hN
    go_enter Try.func40, Try.ntmps40
    go_wp2_with fail
    go_ret2
    exact ⟨_, by rw [HE.out]; rfl, by rw [HE.out]; exact Kd.R_nil _ _ _ _ _, Below.refl _ _⟩
  have k2 : decide ((N : Int) < mark) = false := decide_eq_false h2
  have wsub : wrap64 ((N : Int) - mark) = (N : Int) - mark := w64_ (by omega) (by omega)
  by_cases h3 : 32 < (N : Int) - mark
  · have HE := Aside0.mk (show sinceT S mark = ([], false) from by unfold sinceT; rw [if_neg (by omega)])
    have k3 : decide (32 < (N : Int) - mark) = true := decide_eq_true h3
    clear hN
    go_enter Try.func40, Try.ntmps40
    go_wp2_with fail
    go_ret2
    exact ⟨_, by rw [HE.out]; rfl, by rw [HE.out]; exact Kd.R_nil _ _ _ _ _, Below.refl _ _⟩
  have k3 : decide (32 < (N : Int) - mark) = false := decide_eq_false h3
  obtain ⟨mk, rfl⟩ : ∃ mk : Nat, mark = mk := ⟨mark.toNat, by omega⟩
  have HE := Aside0.mk (show sinceT S (mk : Int) = (srt (S.cs.drop mk), true) from by unfold sinceT; rw [if_pos (by omega)]; rfl)
  have HN := Aside0.mk hN
  have k2n : decide (N < mk) = false := decide_eq_false (by omega)
  have hmk : mk ≤ N := by omega
  have hmk2 : N ≤ mk + 32 := by omega
  clear hN h1 h2 h3 wsub
  go_enter Try.func40, Try.ntmps40
  go_wp2_with fail
  have hB0 := Below.refl w.heap.size w
  have hR0 : Kd.R Kd.string 9 w w.heap.size (fun _ => True) (.slice none 0 0) ((S.cs.drop mk).take (mk - mk)) := by rw [Nat.sub_self, List.take_zero]; exact Kd.R_nil _ _ _ _ _
  go_loopg [6, 7] (N - mk + 1) (fun n v6 kv wr => ∃ k : Nat, kv = .int .i64 (k : Int) ∧ Aside0 (mk ≤ k ∧ k + n = N + 1) ∧ Aside0 (Below w.heap.size w wr) ∧ Aside0 (Kd.R Kd.string 9 wr w.heap.size (fun _ => True) v6 ((S.cs.drop mk).take (k - mk))))
  case atStart => exact ⟨mk, rfl, ⟨Nat.le_refl _, by omega⟩, ⟨hB0⟩, ⟨hR0⟩⟩
  case round =>
    obtain ⟨k, rfl, ⟨hk1, hk2⟩, HBW, HR⟩ := hrel
    clear hB0 hR0
    have c32 := (HBW.out.cell (p := ⟨p, 32, none⟩) hplt).trans c32
    by_cases c1 : k < N
    case neg =>
      have c1b : decide ((k : Int) < (N : Int)) = false := decide_eq_false (by omega)
      have hR := HR.out
      rw [List.take_of_length_le (by rw [List.length_drop, HN.out]; omega)] at hR
      have hsl := sort_calls hR (by rw [List.length_drop, HN.out]; omega)
      have HR2 := Aside0.mk hR
      clear hR
      go_wp2_with fail
      refine hsl.mono ?_
      rintro e w2 ⟨rfl, hR2, hg2⟩
      have hB2 := below_sorted HBW.out HR2.out hg2
      have hcl := compact_calls hR2 (by rw [List.length_drop, HN.out]; omega)
      have HR3 := Aside0.mk (And.intro hR2 hB2)
      clear hsl hR2 hg2 hB2
      go_wp2_with fail
      refine hcl.mono ?_
      rintro e w3 ⟨v3, rfl, hR3, hg3⟩
      have hB3 := below_sorted HR3.out.2 HR3.out.1 hg3
      clear hcl
      go_wp2_with fail
      go_ret2
      exact ⟨_, by rw [HE.out]; rfl, by rw [HE.out]; exact hR3, hB3⟩
    have c1b : decide ((k : Int) < (N : Int)) = true := decide_eq_true (by omega)
    have hmod : (k : Int).tmod 32 = ((k % 32 : Nat) : Int) := by rw [Int.tmod_eq_emod_of_nonneg (by omega)]; rfl
    have hklt : k % 32 < 32 := Nat.mod_lt _ (by decide)
    have hkl : k < S.cs.length := by rw [HN.out]; exact c1
    have hcell := (HBW.out.cell (p := ⟨p, k % 32, none⟩) hplt).trans (HCR.out (k % 32) hklt)
    rw [List.getD_eq_getElem?_getD, ring_get S.cs hkl (by rw [HN.out]; omega), List.getElem?_eq_getElem hkl, Option.getD_some] at hcell
    have htk : (S.cs.drop mk).take (k + 1 - mk) = (S.cs.drop mk).take (k - mk) ++ [S.cs[k]] := by
      rw [show k + 1 - mk = (k - mk) + 1 by omega, List.take_succ_eq_append_getElem (by rw [List.length_drop]; omega), List.getElem_drop]
      congr 2
      simp only [show mk + (k - mk) = k by omega]
    have hxl : ((S.cs.drop mk).take (k - mk)).length ≤ 1000000 := by rw [List.length_take, List.length_drop]; omega
    obtain ⟨x, hx⟩ : ∃ x, S.cs[k] = x := ⟨_, rfl⟩
    rw [hx] at hcell htk
    have HTK := Aside0.mk htk
    have i0 : (0 : Int) ≤ ((k % 32 : Nat) : Int) := by omega
    have i1 : ((k % 32 : Nat) : Int) < 32 := by omega
    have hwsz := HBW.out.size
    generalize hq : k % 32 = q at *
    clear hx htk hq
    go_wp2_with (first | (at_builtin; refine txt_push (base := w.heap.size) rfl rfl rfl rfl rfl (Kd.R_mono HR.out (fun _ h => h)) hwsz (by omega) ?_; intro v1 w1 hR1 hg1))
    have hB1 := pw_below_grown HBW.out _ hwsz hg1 (fun k hk => ((Kd.R_bound HR.out).1 k hk).2.1)
    have hR1' := Kd.R_mono hR1 (fun _ _ => (trivial : True))
    clear hR1 hg1
    go_wp2_with fail
    go_roundg (gk - 1)
    case measure => omega
    case rel => exact ⟨k + 1, by first | rfl | (rw [w64_ (by omega) (by omega)]; rfl) | simp, ⟨by omega, by omega⟩, ⟨hB1⟩, ⟨by rw [HTK.out]; exact hR1'⟩⟩
theorem since_calls {w : World} {base p : Nat} {ok : Nat → Prop} {S : TS} (h : TMem w base ok p S) (mark : Int) :
    Calls Try.prog 25 #[.pointer (some ⟨p, 0, none⟩), .int .i64 mark] w (Tells w (sinceT S mark)) := by
  obtain ⟨m, hb, _⟩ := h.blk
  have hc := behind_calls S hb h.few mark
  clear h hb
  go_enter Try.func25, Try.ntmps25
  go_wp2_with fail
  refine hc.mono ?_
  rintro e w' ⟨v, rfl, hR, hB⟩
  clear hc
  go_wp2_with fail
  go_ret2
  exact ⟨_, rfl, hR, hB⟩
end Go.Proofs.Ytkldaghhfnpcjaa.P
