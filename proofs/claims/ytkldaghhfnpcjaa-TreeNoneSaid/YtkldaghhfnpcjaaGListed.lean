/- The paths that a tree lists, gone over by a loop over its iterator. -/
import Derived.RangeFuncNested
import Derived.RangeFuncBound
import Derived.RangeFuncCalls
import Derived.RangeFuncLeaves
import Derived.RangeFuncBox
import Derived.Shelf.Abstract
import Derived.Shelf.RegionOpen
import Derived.OwnWalkIn
import Derived.TacticsInMore
import Derived.LoopNIn
import Derived.LoopIn
import Derived.Test.YtkldaghhfnpcjaaGTreeL
namespace Go.Proofs.Ytkldaghhfnpcjaa.P
open Go.RowKit Go.Shelf Go.Maps Go.Proofs.YtkldaghhfnpcjaaW.PrintWords Go.Proofs.YtkldaghhfnpcjaaW.PrintLast Go.Proofs.YtkldaghhfnpcjaaW.PrintMore Go.Proofs.Ytkldaghhfnpcjaa.Pl
set_option linter.unusedVariables false
set_option linter.unusedSimpArgs false
attribute [local go_sem] Oper.semAt_some
theorem run_equalIn_func_nil {P : Program} (w : World) (d : Nat) (t : TypeId) {ps rs : Array TypeId} {v : Bool} (hu : P.underlying t = some (.func ps rs v)) (fn : Fn) (first cap : Array Value) : (Op.equalIn (d + 1) t (.func fn first cap) .nilFunc).run P w = .ok false w := by
  simp [Op.equalIn, run_underlying hu]
theorem run_eql_func_nil {P : Program} (w : World) (t : TypeId) {ps rs : Array TypeId} {v : Bool} (hu : P.underlying t = some (.func ps rs v)) (fn : Fn) (first cap : Array Value) :
    (binOp .eql t (.func fn first cap) .nilFunc).run P w = .ok (.bool false) w := by
  simp only [binOp]
  simp [Op.equal, Op.maxDepth, run_equalIn_func_nil w 9999 t hu fn first cap]
theorem row_kept {W W' : World} {base : Nat} {v : Value} {l : List ByteArray} (h : Kd.R Kd.string 9 W base (fun _ => True) v l) (hk : ∀ k, v.ownBlock = some k → W'.heap[k]? = W.heap[k]?) : Kd.R Kd.string 9 W' base (fun _ => True) v l := by
  have ho := Kd.own_of_R h
  refine Kd.R_of_own ⟨ho.1, ?_⟩ (fun _ _ => trivial)
  rcases ho.2 with h1 | ⟨g, cap, cur, rfl, hb, hg, h2⟩
  · exact .inl h1
  · exact .inr ⟨g, cap, cur, rfl, hb, (hk g rfl).trans hg, h2⟩
/-- append(l, x) of one text, in a round -/
theorem txt_push_in {F : Fence} {n : Nat} {W : World} {n0 base : Nat} (hn : W.heap.size = n0) {s y : Operand} {v : Value} {xs : List ByteArray} {x : ByteArray} {ops : Array Oper} {rest : List Oper} {o : Oper} {a : Act} {Q : Exit → Act → World → Prop}
    (hgd : o.guard = none) (ho : o.op = .call { callee := .builtin .append, args := #[s, y], argTypes := #[31, 31] }) (hs : a.eval s = v) (hy : a.eval y = .slice (some ⟨n0, 0, none⟩) 1 1)
    (hR : W.ownsRow base 9 1 v xs.length (encs Value.string xs)) (hbase : base ≤ W.heap.size) (hl : (xs.length + 1) * 16 ≤ 140737488355328)
    (h : ∀ v1 w1, w1.ownsRow base 9 1 v1 (xs.length + 1) (encs Value.string xs ++ [.string x]) → (W.alloc (.cells #[.string x] 9)).grownBy w1 v.ownBlock → wpListIn F n Try.prog ops Q rest (a.put o.dst v1) w1) : wpListIn F n Try.prog ops Q (o :: rest) a (W.alloc (.cells #[.string x] 9)) := by
  subst hn
  obtain ⟨i9, hi9, hzz⟩ := Option.map_eq_some_iff.1 info9
  simp only [Prod.mk.injEq] at hzz
  obtain ⟨z9, s9, y9⟩ := hzz
  have hown : (W.alloc (.cells #[.string x] 9)).ownsRow base 9 1 v xs.length (encs Value.string xs) := by
    refine hR.kept (World.grownBy_alloc W _ none) ?_
    rcases hR.2 with ⟨rfl, _⟩ | _
    · exact .inl rfl
    · rename_i hx
      obtain ⟨g, cap, cur, rfl, _⟩ := hx
      exact .inr (by simp [Value.ownBlock])
  exact wpListIn_append_own _ hgd s y 31 ho base 9 i9 (.string ⟨#[]⟩) 1 16 Try.underlying31 hi9 z9 s9 y9 rfl (by decide) v xs.length _ hs hown ⟨W.heap.size, 0, none⟩ 1 1 [.string x] hy rfl (cell_one_new _ _ _) (by simp [Value.oneCell']) (by unfold maxLen; omega) (by omega) (by simp; omega) (fun v1 w1 h1 h2 _ => h v1 w1 h1 h2)
theorem own_lower {W : World} {base e size n : Nat} {v : Value} {xs : List Value} (h : W.ownsRow base e size v n xs) : W.ownsRow 0 e size v n xs :=
  ⟨h.1, h.2.imp id (fun ⟨g, cap, cur, e1, _, h2⟩ => ⟨g, cap, cur, e1, Nat.zero_le _, h2⟩)⟩
/-- what a round keeps: the row's own block -/
def RowKp (v : Value) (A B : World) : Prop := ∀ k, v.ownBlock = some k → B.heap[k]? = A.heap[k]?
set_option maxRecDepth 100000 in
set_option maxHeartbeats 2000000 in
theorem values1_in (n : Nat) (lp Bs : Nat) (v : Value) (l : List ByteArray) (base : Nat) (hl : l.length ≤ 1000000) (J Jx : List ByteArray → World → Prop)
    (hY : ∀ pre x W, J pre W → pre.length < l.length → YieldAt Fence.wide (n - 1) Try.prog lp #[.string x] W fun e W' =>
      (e = .returned (.bool true) ∧ J (pre ++ [x]) W' ∧ RowKp v W W') ∨ (e = .returned (.bool false) ∧ Jx (pre ++ [x]) W'))
    (W : World) (hBs : W.cell? ⟨Bs, 0, none⟩ = some v) (hR : Kd.R Kd.string 9 W base (fun _ => True) v l) (h0 : J [] W) :
    CallsIn Fence.wide n Try.prog 44 #[.func (.yield lp) #[] #[], .pointer (some ⟨Bs, 0, none⟩)] W fun e W' => (∃ v, e = .returned v) ∧
      ((∃ ys, ys = l ∧ J ys W') ∨ (∃ pre, pre <+: l ∧ Jx pre W')) := by
  obtain ⟨A, c, hv⟩ := Kd.R_slice hR
  refine callsIn_of_wp Try.func44 rfl trivial ?_ rfl
  simp only [Try.ntmps44, List.size_toArray, List.length_cons, List.length_nil, Nat.reduceAdd, Nat.reduceSub, Array.replicate_succ, Array.replicate_zero, List.push_toArray, List.append_toArray, List.nil_append, List.cons_append]
  rw [hv] at hBs
  gi_wp2
  have hk0 : RowKp v W W := fun _ _ => rfl
  gi_loopw [7] (fun i wr => ∃ k : Nat, k ≤ l.length ∧ i = .int .i64 (k : Int) ∧ J (l.take k) wr ∧ RowKp v W wr)
    (fun i _ => l.length - (intOf i).toNat)
  case atStart => exact ⟨0, Nat.zero_le _, rfl, h0, hk0⟩
  case round =>
    obtain ⟨k, hk, rfl, hJs, hnx⟩ := hrel
    by_cases hlt : k < l.length
    · obtain ⟨A2, c2, hv2, hc2, hC⟩ := Kd.R_reads (row_kept hR hnx)
      obtain ⟨ad, e, hx⟩ := Kd.at_string hC (k : Int) (by omega) (by omega)
      rw [hv] at hv2
      injection hv2 with e1 e2 e3
      subst e1
      subst e3
      subst e
      obtain ⟨x, hxe⟩ : ∃ x, rdOf ByteArray.empty l (k : Int) = x := ⟨_, rfl⟩
      rw [hxe, Int.toNat_natCast] at hx
      have htk : l.take (k + 1) = l.take k ++ [x] := by
        rw [List.take_succ_eq_append_getElem hlt, ← hxe]
        unfold rdOf
        rw [Int.toNat_natCast, List.getD_eq_getElem?_getD, List.getElem?_eq_getElem hlt]
        rfl
      obtain ⟨fn, tmps, assign, body, hy, hRY⟩ := hY (l.take k) x wr hJs (by rw [List.length_take]; omega)
      have HT := Aside0.mk htk
      have p1 : decide ((k : Int) < (l.length : Int)) = true := decide_eq_true (by omega)
      have i0 : (0 : Int) ≤ (k : Int) := by omega
      have i1 : (k : Int) < (l.length : Int) := by omega
      have hw : wrap64 ((k : Int) + 1) = (k : Int) + 1 := w64_ (by omega) (by omega)
      clear htk hxe hC hc2
      gi_wp2
      refine ⟨fun h => (by cases h), ?_⟩
      refine hRY.mono ?_
      rintro e W3 (⟨rfl, hJ3, hk3⟩ | ⟨rfl, hJx3⟩)
      · gi_wp2
        go_roundw
        case rel => exact ⟨k + 1, by omega, by first | rfl | simp | (rw [hw]; rfl), by rw [HT.out]; exact hJ3, fun q hq => (hk3 q hq).trans (hnx q hq)⟩
        case measure => first | (simp [intOf]; omega) | (simp [intOf, hw]; omega)
      · gi_wp2
        refine bodyPost_ret (results_none rfl _ _ _) rfl ?_
        exact ⟨⟨_, rfl⟩, .inr ⟨_, by rw [← HT.out]; exact List.take_prefix _ _, hJx3⟩⟩
    · have p1 : decide ((k : Int) < (l.length : Int)) = false := decide_eq_false (by omega)
      have HK := Aside0.mk (show l.take k = l from List.take_of_length_le (by omega))
      gi_wp2
      go_end0
      exact ⟨⟨_, rfl⟩, .inl ⟨_, HK.out, hJs⟩⟩
theorem values_stops (n : Nat) (Bs base : Nat) (v : Value) (l : List ByteArray) (hl : l.length ≤ 1000000) (w : World) (hBs : Bs < w.heap.size) (hvb : ∀ k, v.ownBlock = some k → k < w.heap.size)
    (hc : w.cell? ⟨Bs, 0, none⟩ = some v) (hR : Kd.R Kd.string 9 w base (fun _ => True) v l) :
    SeqStopsK Fence.wide n Try.prog 44 #[.pointer (some ⟨Bs, 0, none⟩)] (fun x : ByteArray => #[Value.string x]) (RowKp v) (fun ys => ys = l) (fun pre => pre <+: l) l.length w := fun lp J Jx W hW _ _ hY h0 =>
  values1_in n lp Bs v l base hl J Jx hY W ((hW.cell (p := ⟨Bs, 0, none⟩) hBs).trans hc) (row_kept hR (fun k hk => hW.block k (hvb k hk))) h0
theorem leaves_mark1 {F : Fence} {n : Nat} {P : Program} {fn : Func} {tmps : Array Value} {R : Ending → World → Prop} {J : World → Prop} {D : Nat} {W : World}
    (hD : W.heap[D]? = some (.deferred (some []))) (hJ : J (W.putObj D (.deferred none)))
    (hr : ∀ W', J W' → ∃ v, (results fn tmps).run P W' = .ok v W' ∧ R (.returned v) W') : LeavesInM F n P fn tmps R [{ target := .collected D, args := #[] }] .returning W :=
  ⟨by simp, .inl ⟨_, _, rfl, run_takeDeferred hD, hr _ hJ⟩⟩
/-- paths, and that they were handed out -/
def Listed (w : World) (l : List ByteArray) (e : Ending) (w' : World) : Prop := ∃ v, e = .returned (.tuple #[v, .bool true]) ∧ Kd.R Kd.string 9 w' w.heap.size (fun _ => True) v l ∧ Below w.heap.size w w'
theorem Turn.below_more {ok : Nat → Prop} {a b c : World} (h : Turn ok a b) (hb : Below a.heap.size b c) : Turn ok a c :=
  ⟨hb.os.trans h.os, hb.tape.trans h.tape, hb.output.trans h.output, Nat.le_trans h.size hb.size, fun k hk hn => (hb.block k hk).trans (h.block k hk hn)⟩
theorem ownFrom_turn {β : Type} {B N : Nat} {w₀ : World} (hB : w₀.heap.size ≤ N) : OwnFrom N (fun (_ : β) W => Turn (· = B) w₀ W) :=
  fun _ _ _ row hs hg hr => hs.trans (ok2 := fun k => row = some k) (Turn.grown hg (fun _ h => h)) (fun k hk => .inr (Nat.le_trans hB (hr k hk).1))
set_option maxRecDepth 100000 in
set_option maxHeartbeats 4000000 in
theorem listed_calls {w : World} {tp : Value} {pre : ByteArray} {l : List ByteArray} (hl : l.length ≤ 256)
    (hc : ∀ W, Below w.heap.size w W → Calls Try.prog 15 #[tp, .string pre] W (Lists W l)) (ht : tp = .pointer none ∨ ∃ p, tp = .pointer (some ⟨p, 0, none⟩)) :
    Calls Try.prog 14 #[tp, .string pre] w (Listed w l) := by
  have hres : ∀ (tmps : Array Value) (h4 : tmps[4]?.getD undef = .pointer (some ⟨w.heap.size, 0, none⟩)) (h5 : tmps[5]?.getD undef = .pointer (some ⟨w.heap.size + 1, 0, none⟩)) (v : Value) (W' : World), W'.cell? ⟨w.heap.size, 0, none⟩ = some v → (∃ A n c, v = .slice A n c) → W'.cell? ⟨w.heap.size + 1, 0, none⟩ = some (.bool true) →
      (results Try.f14 tmps).run Try.prog W' = .ok (.tuple #[v, .bool true]) W' := by
    rintro tmps h4 h5 v W' h1 ⟨A, n, c, rfl⟩ h2
    simp [results, Try.f14, go_sem, h1, h2, h4, h5]
  have hres := Aside0.mk hres
  refine (callsIn_wide (n := 6)).1 (callsIn_of_wp_marks Try.func14 rfl trivial ?_ rfl)
  simp only [Try.ntmps14, List.size_toArray, List.length_cons, List.length_nil, Nat.reduceAdd, Nat.reduceSub, Array.replicate_succ, Array.replicate_zero, List.push_toArray, List.append_toArray, List.nil_append, List.cons_append]
  rw [wpIn_wide]
  obtain ⟨W0, hW0⟩ : ∃ W0, ((w.alloc (.cells #[.slice none 0 0] 31)).alloc (.cells #[.bool false] 4)).alloc (.cells #[.slice none 0 0] 31) = W0 := ⟨_, rfl⟩
  have hB0 : Below w.heap.size w W0 := by rw [← hW0]; exact (((Below.refl _ w).alloc (Nat.le_refl _) _).alloc (by simp) _).alloc (by simp; omega) _
  have hs0 : W0.heap.size = w.heap.size + 3 := by rw [← hW0]; simp
  have b0 : Boxed W0 w.heap.size 31 (.slice none 0 0) := by rw [← hW0]; exact ((Boxed.new w 31 _).alloc _).alloc _
  have b1 : Boxed W0 (w.heap.size + 1) 4 (.bool false) := by
    rw [← hW0]
    have := (Boxed.new (w.alloc (.cells #[.slice none 0 0] 31)) 4 (.bool false)).alloc (.cells #[.slice none 0 0] 31)
    rwa [World.size_alloc] at this
  have b2 : Boxed W0 (w.heap.size + 2) 31 (.slice none 0 0) := by
    rw [← hW0]
    have := Boxed.new ((w.alloc (.cells #[.slice none 0 0] 31)).alloc (.cells #[.bool false] 4)) 31 (.slice none 0 0)
    rwa [World.size_alloc, World.size_alloc] at this
  have hcl := hc W0 hB0
  have H0 := Aside0.mk (And.intro hB0 (And.intro hs0 (And.intro b0 (And.intro b1 b2))))
  clear hc hB0 hs0 b0 b1 b2
  rcases ht with rfl | ⟨p, rfl⟩
  all_goals
    go_wp2_with fail
    try rw [hW0]
    refine hcl.mono ?_
    rintro e w1 ⟨b, v, rfl, hbx, hble, hR, hB1⟩
    have hnf := fun (W : World) fn first cap => run_eql_func_nil (P := Try.prog) W 35 Try.underlying35 fn first cap
    have hbx : Boxed w1 b 31 v := hbx
    have hb0 : Boxed w1 w.heap.size 31 (.slice none 0 0) := (hB1.block _ H0.out.2.2.1.lt).trans H0.out.2.2.1
    have hb1 : Boxed w1 (w.heap.size + 1) 4 (.bool false) := (hB1.block _ H0.out.2.2.2.1.lt).trans H0.out.2.2.2.1
    have hb2 : Boxed w1 (w.heap.size + 2) 31 (.slice none 0 0) := (hB1.block _ H0.out.2.2.2.2.lt).trans H0.out.2.2.2.2
    have hvb : ∀ k, v.ownBlock = some k → W0.heap.size ≤ k ∧ k < w1.heap.size := fun k hk => ⟨((Kd.R_bound hR).1 k hk).2.1, by
      rcases (Kd.own_of_R hR).2 with ⟨rfl, _⟩ | ⟨g, cap, cur, rfl, _, hg, _⟩
      · cases hk
      · cases hk; exact (Array.getElem?_eq_some_iff.1 hg).1⟩
    have H1 := Aside0.mk (And.intro hbx (And.intro hR (And.intro hB1 (And.intro hb0 (And.intro hb1 (And.intro hb2 hvb))))))
    clear hcl hW0 hbx hble hR hB1 hb0 hb1 hb2 hvb
    go_wp2_with fail
    refine (wpIn_wide (n := 6)).1 ?_
    apply wpIn_rangeFunc_ownF (F := Fence.wide) (n := 6) rfl (by decide) (gf := 44) (lb := #[.pointer (some ⟨b, 0, none⟩)]) rfl trivial (enters_of Try.func44 (by kernel_rfl) rfl)
      (values_stops (6 - 1) b W0.heap.size v l (by omega) _ H1.out.1.lt (fun k hk => (H1.out.2.2.2.2.2.2 k hk).2) H1.out.1.cell H1.out.2.1)
      (fun h1 h2 k hk => (h2 k hk).trans (h1 k hk)) (fun W q o o' hq _ _ _ k hk => World.putObj_heap_other (by have := (H1.out.2.2.2.2.2.2 k hk).2; omega)) (Below.refl _ _) (fun _ => rfl)
      (fun pr W => (∃ u, Boxed W (w.heap.size + 2) 31 u ∧ W.ownsRow w1.heap.size 9 1 u pr.length (encs Value.string pr) ∧ True) ∧ Turn (· = w.heap.size + 2) w1 W) (fun _ _ _ => False)
      (OwnFrom.and (Own.from (holdsRow_own w1.heap.size (w.heap.size + 2) 31 9 1 List.length (encs Value.string) (fun _ _ => True)) _) (ownFrom_turn (Nat.le_refl _)))
      (fun _ => ownFrom_pure _ (fun _ => False)) ⟨⟨_, H1.out.2.2.2.2.2.1, ⟨rfl, .inl ⟨rfl, rfl⟩⟩, trivial⟩, Turn.refl _ _⟩
    case hassign =>
      intro lp x W K hK
      gi_wp2
      exact hK
    case hbody =>
      rintro lp pr x W ⟨⟨u, hub, hur, -⟩, hT⟩ hlt
      have hRu : Kd.R Kd.string 9 W w1.heap.size (fun _ => True) u pr := Kd.R_of_own hur (fun _ _ => trivial)
      obtain ⟨A, c, rfl⟩ := Kd.R_slice hRu
      have hcell := hub.cell
      have hsz := H1.out.2.2.2.2.2.1.lt
      have hWs := hT.size
      have HB := Aside0.mk (And.intro hub (And.intro hur hT))
      clear hRu hub hT
      have h256 : ∀ q : Nat, q = pr.length + 1 → decide ((256 : Int) < (q : Int)) = false := fun q hq => decide_eq_false (by omega)
      gi_wp2_with (first | (gi_at_builtin; refine txt_push_in (base := w1.heap.size) (W := W) (xs := pr) (v := .slice A pr.length c) rfl rfl rfl rfl rfl HB.out.2.1 (by omega) (by omega) ?_; intro v' w3 hown' hg3; (obtain ⟨g', cap', rfl⟩ := ownsRow_succ hown'); have HA := Aside0.mk (Boxed.appended HB.out.1 (by decide) (own_lower HB.out.2.1) (Nat.zero_le _) (Nat.zero_le _) (own_lower hown') hg3); have HO := Aside0.mk (And.intro hown' hg3); have hc3 := HA.out.1.cell; have hf3 := HA.out.1.frozen; have hc4 := HA.out.2.1.cell; clear hown' hg3))
      have hBN : Below w1.heap.size W w3 := pw_below_grown ((Below.refl _ W).alloc hWs _) _ (by simp; omega) HO.out.2 (fun k hk => ((Kd.R_bound (Kd.R_of_own HB.out.2.1 (fun _ _ => trivial) : Kd.R Kd.string 9 W w1.heap.size (fun _ => True) _ pr)).1 k hk).2.1)
      have hge : w1.heap.size ≤ g' := by
        rcases HO.out.1.2 with ⟨e, _⟩ | ⟨g, cap, cur, e, h1, _⟩
        · cases e
        · cases e; exact h1
      refine ⟨HA.out.2.2.2.1, fun k hk => ?_, ⟨_, HA.out.2.1, ?_, trivial⟩, (HB.out.2.2.below_more hBN).setCell _ _ rfl⟩
      · have := H1.out.2.2.2.2.2.2 k hk
        have h3 := H0.out.2.1
        exact (Below.heap_setCell _ _ _ k (by show k ≠ _; simp; omega)).trans (hBN.block k this.2)
      · rw [List.length_append, List.length_singleton, show encs Value.string (pr ++ [x]) = encs Value.string pr ++ [.string x] by simp [encs]]
        exact HO.out.1.kept (grownBy_setCell' w3 (w.heap.size + 2) _) (.inr (by simp [Value.ownBlock]; omega))
    case hstop =>
      intro D c pr W _ _ hx _
      exact hx.elim
    case hdone =>
      rintro D xs W hD rfl ⟨⟨u, hub, hur, -⟩, hT⟩ hK
      have hRu : Kd.R Kd.string 9 W w1.heap.size (fun _ => True) u xs := Kd.R_of_own hur (fun _ _ => trivial)
      obtain ⟨A, c, rfl⟩ := Kd.R_slice hRu
      have hx0 : Boxed W w.heap.size 31 (.slice none 0 0) := (hT.block _ H1.out.2.2.2.1.lt (by omega)).trans H1.out.2.2.2.1
      have hx1 : Boxed W (w.heap.size + 1) 4 (.bool false) := (hT.block _ H1.out.2.2.2.2.1.lt (by omega)).trans H1.out.2.2.2.2.1
      have hcell := hub.cell
      have hc0 := hx0.cell
      have hf0 := hx0.frozen
      have hcz := (hx1.other (B' := w.heap.size) (by omega) (.slice A xs.length c)).cell
      have hfz := (hx1.other (B' := w.heap.size) (by omega) (.slice A xs.length c)).frozen
      have HF := Aside0.mk (And.intro hRu (And.intro hT (And.intro hK (And.intro hx0 (And.intro hx1 hD)))))
      clear hRu hT hK hx0 hx1 hub hur hD
      go_wp2_with fail
      have hk0 : w.heap.size + 3 ≤ w1.heap.size := by have h1 := H0.out.2.1; have h2 := H1.out.2.2.1.size; omega
      have hgt := fun k hk => ((Kd.R_bound HF.out.1).1 k hk).2.1
      have hD2 : ((W.setCell ⟨w.heap.size, 0, none⟩ (.slice A xs.length c)).setCell ⟨w.heap.size + 1, 0, none⟩ (.bool true)).heap[D]? = some (.deferred (some [])) :=
        (Below.heap_setCell _ _ _ D (by show D ≠ _; have := HF.out.2.2.2.2.2; simp; omega)).trans ((Below.heap_setCell _ _ _ D (by show D ≠ _; have := HF.out.2.2.2.2.2; simp; omega)).trans HF.out.2.2.1)
      refine leaves_mark1 (J := fun W' => Boxed W' w.heap.size 31 (.slice A xs.length c) ∧ Boxed W' (w.heap.size + 1) 4 (.bool true) ∧ Kd.R Kd.string 9 W' w1.heap.size (fun _ => True) (.slice A xs.length c) xs ∧ Below w.heap.size w W') hD2 ⟨?_, ?_, ?_, ?_⟩ ?_
      · exact (World.putObj_heap_other (by have := HF.out.2.2.2.2.2; omega)).trans ((HF.out.2.2.2.1.set _).other (by omega) _)
      · exact (World.putObj_heap_other (by have := HF.out.2.2.2.2.2; omega)).trans ((HF.out.2.2.2.2.1.other (by omega) _).set _)
      · refine row_kept HF.out.1 (fun k hk => ?_)
        have h1 := hgt k hk
        have h2 : k ≠ D := by
          rcases (Kd.own_of_R HF.out.1).2 with ⟨e, _⟩ | ⟨g, cap, cur, e, _, hg, _⟩
          · rw [e] at hk; cases hk
          · rw [e] at hk
            injection hk with hk
            have hk : g = k := hk
            subst hk
            rintro rfl
            rw [hg] at HF
            have := HF.out.2.2.1
            injection this with this
            cases this
        exact (World.putObj_heap_other (by omega)).trans ((Below.heap_setCell _ _ _ k (by show k ≠ _; simp; omega)).trans (Below.heap_setCell _ _ _ k (by show k ≠ _; simp; omega)))
      · have hBW : Below w.heap.size w W := (H0.out.1.trans (H1.out.2.2.1.mono (by have := H0.out.2.1; omega))).trans (HF.out.2.1.below (fun k hk => by omega) (by omega))
        refine ((hBW.setCell (p := ⟨w.heap.size, 0, none⟩) (Nat.le_refl _) (.slice A xs.length c)).setCell (p := ⟨w.heap.size + 1, 0, none⟩) (by simp) (.bool true)).trans ?_
        exact belowK_b (w := w) (Nat.le_refl _) _ D _ _ (by have := HF.out.2.2.2.2.2; omega) hD2 rfl rfl
      · rintro W' ⟨j0, j1, j2, j3⟩
        exact ⟨_, hres.out _ rfl rfl _ W' j0.cell ⟨A, _, c, rfl⟩ j1.cell, _, rfl, Kd.R_lower j2 (by omega), j3⟩
end Go.Proofs.Ytkldaghhfnpcjaa.P
