/- PathParts' own function, walked: for every text and every number. -/
import Derived.Test.YtpphdmpnnnimdaaGAbove
import Derived.Test.YtpphdmpnnnimdaaPlParts
import Derived.Test.YtpphdmpnnnimdaaG4
import Derived.Test.YtpphdmpnnnimdaaPxf12
import Derived.Test.YtpphdmpnnnimdaaPxf19
namespace Go.Proofs.Ytpphdmpnnnimdaa.P
open Go.RowKit Go.Shelf Go.Proofs.YtpphdmpnnnimdaaW.PrintWords Go.Proofs.YtpphdmpnnnimdaaW.PrintLast Go.Proofs.YtpphdmpnnnimdaaW.PrintMore
set_option linter.unusedVariables false
attribute [local go_sem] Oper.semAt_some

theorem run_eql_func_nil {P : Program} (w : World) (t : TypeId) {ps rs : Array TypeId} {v : Bool} (hu : P.underlying t = some (.func ps rs v)) (fn : Fn) (first cap : Array Value) :
    (binOp .eql t (.func fn first cap) .nilFunc).run P w = .ok (.bool false) w := by
  simp only [binOp]
  simp [Op.equal, Op.maxDepth, run_equalIn_func_nil w 9999 t hu fn first cap]
theorem above_calls (s : ByteArray) (w : World) :
    Calls Try.prog 23 #[.string s] w fun e w' => e = .returned (.func (.func 34) #[] #[.pointer (some ⟨w.heap.size, 0, none⟩)]) ∧ w' = w.alloc (.cells #[.string s] 9) := by
  go_enter Try.func23, Try.ntmps23
  go_wp2
  go_ret
  exact ⟨rfl, rfl⟩
theorem pre_more {α : Type} {l xs : List α} (h : l <+: xs) (x d : α) : l ++ [x] <+: xs ↔ l.length < xs.length ∧ x = xs.getD l.length d := by
  obtain ⟨r, rfl⟩ := h
  cases r with
  | nil =>
    rw [List.append_nil]
    exact ⟨fun h => absurd h.length_le (by simp), fun h => absurd h.1 (Nat.lt_irrefl _)⟩
  | cons y r =>
    rw [List.prefix_append_right_inj]
    simp
theorem mark_own {β : Type} {B D : Nat} (hD : D < B) : OwnFrom B (fun (_ : β) (W : World) => W.heap[D]? = some (.deferred (some []))) :=
  fun _ A C row hs hg hr => (hg.block D (Array.getElem?_eq_some_iff.1 hs).1 (fun e => by have := (hr D e.symm).1; omega)).trans hs
/-- The marks of the rounds that are over: blocks of their own, each below the one ahead of it. -/
def Marks (lo : Nat) (W : World) : Nat → List Deferred → Prop
  | _, [] => True
  | hi, d :: ds => ∃ D, d = { target := .collected D, args := #[] } ∧ lo ≤ D ∧ D < hi ∧ W.heap[D]? = some (.deferred (some [])) ∧ Marks lo W D ds
theorem Marks.kept {lo : Nat} {W W' : World} : ∀ {ds : List Deferred} {hi : Nat}, Marks lo W hi ds → (∀ k, lo ≤ k → k < hi → W'.heap[k]? = W.heap[k]?) → Marks lo W' hi ds
  | [], _, _, _ => trivial
  | _ :: _, _, ⟨D, e, h1, h2, h3, h4⟩, hb => ⟨D, e, h1, h2, (hb D h1 h2).trans h3, h4.kept (fun k hl hk => hb k hl (by omega))⟩
theorem Marks.lower {lo lo' : Nat} {W : World} (h : lo' ≤ lo) : ∀ {ds : List Deferred} {hi : Nat}, Marks lo W hi ds → Marks lo' W hi ds
  | [], _, _ => trivial
  | _ :: _, _, ⟨D, e, h1, h2, h3, h4⟩ => ⟨D, e, by omega, h2, h3, Marks.lower h h4⟩
theorem Marks.more {lo : Nat} {W : World} : ∀ {ds : List Deferred} {hi hi' : Nat}, Marks lo W hi ds → hi ≤ hi' → Marks lo W hi' ds
  | [], _, _, _, _ => trivial
  | _ :: _, _, _, ⟨D, e, h1, h2, h3, h4⟩, h => ⟨D, e, h1, by omega, h3, h4⟩
theorem leaves_marks {F : Fence} {n : Nat} {P : Program} {fn : Func} {tmps : Array Value} {R : Ending → World → Prop} {w : World} {Br : Nat}
    (hr : ∀ W', Below w.heap.size w W' → W'.cell? ⟨Br, 0, none⟩ = some (.bool true) → ∃ v, (results fn tmps).run P W' = .ok v W' ∧ R (.returned v) W') :
    ∀ (ds : List Deferred) (hi : Nat) (W : World), Marks w.heap.size W hi ds → Below w.heap.size w W → W.cell? ⟨Br, 0, none⟩ = some (.bool true) → LeavesInM F n P fn tmps R ds .returning W
  | [], _, W, _, hb, hc => hr W hb hc
  | d :: ds, hi, W, ⟨D, e, h1, h2, h3, h4⟩, hb, hc => by
    subst e
    refine ⟨by simp, .inl ⟨_, _, rfl, run_takeDeferred h3, leaves_marks hr ds D _ ?_ ?_ ?_⟩⟩
    · exact h4.kept (fun k _ hk => World.putObj_heap_other (by omega))
    · exact hb.trans (belowK_b (w := w) (Nat.le_refl _) W D _ _ h1 h3 rfl rfl)
    · exact cell_kept hc (grownBy_putObj' _ D (.deferred none)) (fun r e => by cases e; exact ⟨_, h3, rfl⟩)

/-- The frame between two turns. -/
inductive PtSt (s : ByteArray) (left : Int) (b0 B9 BA : Nat) (wl : World) : Int → Act → World → Prop
  | mk (t : Int) (ds : List Deferred) (wr : World) (hb : Below wl.heap.size wl wr) (hm : Marks wl.heap.size wr wr.heap.size ds) (u2 u5 u6 u7 u8 u12 u13 u14 u15 u16 u17 u18 u19 u20 u21 u22 u23 u24 u25 u26 u27 u28 u29 u30 u31 u32 u33 u34 u35 u36 u37 u38 u39 u40 u41 u42 u43 u44 u45 u46 u47 u48 u49 u50 u51 u52 u53 u54 u55 u56 u57 u58 u59 u60 u61 u62 u63 u64 u65 u66 u67 u68 u69 u70 u71 u72 u73 u74 u75 u76 u77 u78 u79 u80 u81 u82 u83 u84 u85 u86 u87 u88 u89 u90 u91 : Value) :
    PtSt s left b0 B9 BA wl t { tmps := #[.string s, .int .i64 left, u2, .pointer (some ⟨b0, 0, none⟩), .pointer (some ⟨b0 + 1, 0, none⟩), u5, u6, u7, u8, .pointer (some ⟨B9, 0, none⟩), .func (.func 34) #[] #[.pointer (some ⟨BA, 0, none⟩)], .int .i64 t, u12, u13, u14, u15, u16, u17, u18, u19, u20, u21, u22, u23, u24, u25, u26, u27, u28, u29, u30, u31, u32, u33, u34, u35, u36, u37, u38, u39, u40, u41, u42, u43, u44, u45, u46, u47, u48, u49, u50, u51, u52, u53, u54, u55, u56, u57, u58, u59, u60, u61, u62, u63, u64, u65, u66, u67, u68, u69, u70, u71, u72, u73, u74, u75, u76, u77, u78, u79, u80, u81, u82, u83, u84, u85, u86, u87, u88, u89, u90, u91], defers := ds } wr
/-- What memory holds ahead of the loop, and keeps. -/
structure PtMem (s : ByteArray) (left : Int) (b0 B9 BA : Nat) (Aw : Option Addr) (cw : Nat) (want : List ByteArray) (wl : World) : Prop where
  bl : Boxed wl b0 3 (.int .i64 left)
  br : Boxed wl (b0 + 1) 4 (.bool false)
  bw : Boxed wl B9 31 (.slice Aw want.length cw)
  ba : Boxed wl BA 9 (.string s)
  row : Kd.C Kd.string wl Aw want.length want
set_option maxRecDepth 100000 in
set_option maxHeartbeats 4000000 in
theorem pathParts_walk (s : ByteArray) (left : Int) (w : World) :
    Calls Try.prog 6 #[.string s, .int .i64 left] w fun e w' => e = .returned (.bool true) ∧ Below w.heap.size w w' := by
  have hres : ∀ (tmps : Array Value) (hs : tmps[4]?.getD undef = .pointer (some ⟨w.heap.size + 1, 0, none⟩)) (W' : World), W'.cell? ⟨w.heap.size + 1, 0, none⟩ = some (.bool true) →
      (results Try.f6 tmps).run Try.prog W' = .ok (.bool true) W' := by
    intro tmps hs W' hc
    simp [results, Try.f6, go_sem, hc, hs]
  have hres := Aside0.mk hres
  refine (callsIn_wide (n := 6)).1 (callsIn_of_wp_marks Try.func6 rfl trivial ?_ rfl)
  simp only [Try.ntmps6, List.size_toArray, List.length_cons, List.length_nil, Nat.reduceAdd, Nat.reduceSub, Array.replicate_succ, Array.replicate_zero, List.push_toArray, List.append_toArray, List.nil_append, List.cons_append]
  rw [wpIn_wide]
  go_wp2_with fail
  refine (brickyardlaw09_works.calls true _ rfl).mono ?_
  rintro e w1 ⟨rfl, hb1⟩
  obtain ⟨W0, hW0⟩ : ∃ W0, (w.alloc (.cells #[.int .i64 left] 3)).alloc (.cells #[.bool false] 4) = W0 := ⟨_, rfl⟩
  have hlf : W0.heap[w.heap.size]? = some (.cells #[.int .i64 left] 3 (0, 0)) := by
    rw [← hW0]
    exact ((Below.refl _ _).alloc (Nat.le_refl _) _ |>.block _ (by simp)).trans (World.alloc_heap_new w _)
  have hrs : W0.heap[w.heap.size + 1]? = some (.cells #[.bool false] 4 (0, 0)) := by
    rw [← hW0]
    have := World.alloc_heap_new (w.alloc (.cells #[.int .i64 left] 3)) (.cells #[.bool false] 4)
    rwa [World.size_alloc] at this
  have hs0 : W0.heap.size = w.heap.size + 2 := by rw [← hW0]; simp
  have hb0 : Below w.heap.size w W0 := by rw [← hW0]; exact ((Below.refl _ w).alloc (Nat.le_refl _) _).alloc (by simp) _
  rw [hW0] at hb1
  clear hW0
  have hsz : s.size > 1048576 ∨ s.size ≤ 1048576 := by omega
  have hLF : Boxed w1 w.heap.size 3 (.int .i64 left) := (hb1.block _ (by omega)).trans hlf
  have hRS : Boxed w1 (w.heap.size + 1) 4 (.bool false) := (hb1.block _ (by omega)).trans hrs
  have hs1 : w.heap.size + 2 ≤ w1.heap.size := by have := hb1.size; omega
  have hB1 : Below w.heap.size w w1 := hb0.trans (hb1.mono (by omega))
  clear hlf hrs hs0 hb0 hb1
  rcases hsz with hlong | hshort
  · have hl1 : decide ((s.size : Int) > 1048576) = true := decide_eq_true (by omega)
    have hA := Aside0.mk (And.intro hLF (And.intro hRS (And.intro hs1 (And.intro hB1 hlong))))
    clear hLF hRS hs1 hB1 hlong
    go_wp2_with fail
    refine (brickyardlaw09_long.calls _ true _ (by rw [← hl1]; rfl)).mono ?_
    rintro e w2 ⟨rfl, hd2⟩
    have hb2 := hd2.below
    clear hd2
    have hRS2 : Boxed w2 (w.heap.size + 1) 4 (.bool false) := (hb2.block _ hA.out.2.1.lt).trans hA.out.2.1
    have hc2 := hRS2.cell
    have hf2 := hRS2.frozen
    have hA2 := Aside0.mk hb2
    clear hb2
    go_wp2_with fail
    refine leaves_marks (Br := w.heap.size + 1) (fun W' hb hc => ⟨_, hres.out _ rfl W' hc, rfl, hb⟩) [] 0 _ trivial ?_ (World.cell?_setCell_same' _ _ _ (by rw [hc2]; rfl))
    exact (hA.out.2.2.2.1.trans (hA2.out.mono (by have := hA.out.2.2.1; omega))).setCell (p := ⟨w.heap.size + 1, 0, none⟩) (by simp) _
  · have hl1 : decide ((s.size : Int) > 1048576) = false := decide_eq_false (by omega)
    obtain ⟨k1, E1⟩ := Pl.ev_some (Pl.parent_ev s (by omega))
    obtain ⟨k2, E2⟩ := Pl.ev_some (Pl.refparent_ev s (by omega))
    obtain ⟨k3, E3⟩ := Pl.ev_some (Pl.is_ev s)
    obtain ⟨k4, E4⟩ := Pl.ev_some (Pl.refis_ev s)
    obtain ⟨bs, B1, B2⟩ := Pl.bases s (by omega)
    obtain ⟨k5, E5⟩ := Pl.ev_some B1
    obtain ⟨k6, E6⟩ := Pl.ev_some B2
    obtain ⟨want, hwl, hups, B3⟩ := Pl.above_ev s (by omega)
    obtain ⟨k7, E7⟩ := Pl.ev_some B3
    generalize Pl.isL (Pl.L s) = isb at E3 E4
    generalize (Pl.upL (Pl.L s)).2 = okb at E1 E2
    generalize Pl.B (Pl.upL (Pl.L s)).1 = upb at E1 E2
    clear B1 B2 B3
    have hwl2 : want.length ≤ 1048576 := by omega
    clear hwl
    have HA := Aside0.mk (And.intro hLF (And.intro hRS (And.intro hs1 (And.intro hB1 (And.intro hshort (And.intro hwl2 hups))))))
    have HE := Aside0.mk (And.intro E1 (And.intro E2 (And.intro E3 (And.intro E4 (And.intro E5 (And.intro E6 E7))))))
    clear hLF hRS hs1 hB1 hshort hwl2 hups E1 E2 E3 E4 E5 E6 E7
    go_wp2_with fail
    refine (brickyardlaw09_long.calls _ false _ (by rw [← hl1]; rfl)).mono ?_
    rintro e w2 ⟨rfl, hd2⟩
    have hb2 := Aside0.mk (HA.out.2.2.2.1.trans (hd2.below.mono (by have := HA.out.2.2.1; omega)))
    have hk2 := Aside0.mk (hd2.below)
    clear hd2
    go_wp2_with fail
    refine (path_Parent.calls k1 _ _ _ _ HE.out.1).mono ?_
    rintro e w3 ⟨rfl, hd3⟩
    have hk3 := Aside0.mk (hk2.out.trans (hd3.below.mono hk2.out.size))
    clear hd3 hk2
    go_wp2_with fail
    refine (brickyardref09_Parent.calls k2 _ _ _ _ HE.out.2.1).mono ?_
    rintro e w4 ⟨rfl, hd4⟩
    have hk4 := Aside0.mk (hk3.out.trans (hd4.mono hk3.out.size))
    clear hd4 hk3
    go_wp2_with fail
    refine (path_Is.calls k3 _ _ _ HE.out.2.2.1).mono ?_
    rintro e w5 ⟨rfl, hd5⟩
    have hk5 := Aside0.mk (hk4.out.trans (hd5.below.mono hk4.out.size))
    clear hd5 hk4
    go_wp2_with fail
    refine (brickyardref09_Is.calls k4 _ _ _ HE.out.2.2.2.1).mono ?_
    rintro e w6 ⟨rfl, hd6⟩
    have hk6 := Aside0.mk (hk5.out.trans (hd6.mono hk5.out.size))
    clear hd6 hk5
    go_wp2_with fail
    refine (path_Base.calls k5 _ _ _ HE.out.2.2.2.2.1).mono ?_
    rintro e w7 ⟨rfl, hd7⟩
    have hk7 := Aside0.mk (hk6.out.trans (hd7.below.mono hk6.out.size))
    clear hd7 hk6
    go_wp2_with fail
    refine (brickyardref09_Base.calls k6 _ _ _ HE.out.2.2.2.2.2.1).mono ?_
    rintro e w8 ⟨rfl, hd8⟩
    have hk8 := Aside0.mk (hk7.out.trans (hd8.mono hk7.out.size))
    clear hd8 hk7
    go_wp2_with fail
    refine (brickyardref09_Above.calls k7 _ _ _ HE.out.2.2.2.2.2.2).mono ?_
    rintro e w9 ⟨vw, rfl, hRw, hd9⟩
    obtain ⟨Aw, cw, rfl⟩ := Kd.R_slice hRw
    have hk9 := Aside0.mk (hk8.out.trans (hd9.mono hk8.out.size))
    have HR := Aside0.mk (And.intro hRw hd9)
    clear hRw hd9 hk8
    have he := fun (W : World) fn f c => run_eql_func_nil (P := Try.prog) W 38 Try.underlying38 fn f c
    go_wp2_with fail
    refine (above_calls _ _).mono ?_
    rintro e w10 ⟨rfl, rfl⟩
    have hs9 : w.heap.size + 2 ≤ w9.heap.size := by have := HA.out.2.2.1; have := hk9.out.size; omega
    obtain ⟨wl, hwl⟩ : ∃ wl, (w9.alloc (.cells #[.slice Aw want.length cw] 31)).alloc (.cells #[.string s] 9) = wl := ⟨_, rfl⟩
    have hszl : wl.heap.size = w9.heap.size + 2 := by rw [← hwl]; simp
    have hBl : Below w9.heap.size w9 wl := by rw [← hwl]; exact ((Below.refl _ _).alloc (Nat.le_refl _) _).alloc (by simp) _
    have hM : PtMem s left w.heap.size w9.heap.size (w9.heap.size + 1) Aw cw want wl := by
      have b1 := hBl.block
      refine ⟨(b1 _ (by omega)).trans ((hk9.out.block _ (by have := HA.out.2.2.1; omega)).trans HA.out.1), (b1 _ (by omega)).trans ((hk9.out.block _ (by have := HA.out.2.2.1; omega)).trans HA.out.2.1), ?_, ?_, ?_⟩
      · rw [← hwl]; exact (Boxed.new _ _ _).alloc _
      · rw [← hwl]
        have := Boxed.new (w9.alloc (.cells #[.slice Aw want.length cw] 31)) 9 (.string s)
        rwa [World.size_alloc] at this
      · exact Kd.C_below (Kd.R_reads' HR.out.1).2.2 hBl
    have hBwl : Below w.heap.size w wl := HA.out.2.2.2.1.trans ((hk9.out.mono (by have := HA.out.2.2.1; omega)).trans (hBl.mono (by omega)))
    have HL := Aside0.mk (And.intro hM (And.intro hszl (And.intro hBwl hs9)))
    clear hM hszl hBwl hs9 hBl
    go_wp2_with fail
    refine wp_loop_ghost (fun n a wr => ∃ t : Int, t + (n : Int) = 2 ∧ 0 ≤ t ∧ PtSt s left w.heap.size w9.heap.size (w9.heap.size + 1) wl t a wr) 2 ⟨0, rfl, Int.le_refl 0, PtSt.mk 0 [] wl (Below.refl _ _) trivial _ _ _ _ _ _ _ _ _ _ _ _ _ _ _ _ _ _ _ _ _ _ _ _ _ _ _ _ _ _ _ _ _ _ _ _ _ _ _ _ _ _ _ _ _ _ _ _ _ _ _ _ _ _ _ _ _ _ _ _ _ _ _ _ _ _ _ _ _ _ _ _ _ _ _ _ _ _ _ _ _ _ _ _ _⟩ ?_
    rintro n a wr ⟨t, ht, ht0, hst⟩
    obtain ⟨ds, _, hb, hm, u2, u5, u6, u7, u8, u12, u13, u14, u15, u16, u17, u18, u19, u20, u21, u22, u23, u24, u25, u26, u27, u28, u29, u30, u31, u32, u33, u34, u35, u36, u37, u38, u39, u40, u41, u42, u43, u44, u45, u46, u47, u48, u49, u50, u51, u52, u53, u54, u55, u56, u57, u58, u59, u60, u61, u62, u63, u64, u65, u66, u67, u68, u69, u70, u71, u72, u73, u74, u75, u76, u77, u78, u79, u80, u81, u82, u83, u84, u85, u86, u87, u88, u89, u90, u91⟩ := hst
    have hsw := hb.size
    have bR : Boxed wr (w.heap.size + 1) 4 (.bool false) := (hb.block _ (by have := HL.out.1.br.lt; omega)).trans HL.out.1.br
    have bW : Boxed wr w9.heap.size 31 (.slice Aw want.length cw) := (hb.block _ HL.out.1.bw.lt).trans HL.out.1.bw
    have bL : Boxed wr w.heap.size 3 (.int .i64 left) := (hb.block _ HL.out.1.bl.lt).trans HL.out.1.bl
    have bA : Boxed wr (w9.heap.size + 1) 9 (.string s) := (hb.block _ HL.out.1.ba.lt).trans HL.out.1.ba
    have bC : Kd.C Kd.string wr Aw want.length want := Kd.C_below HL.out.1.row hb
    have hWr := Aside0.mk (And.intro hb (And.intro hm (And.intro hsw (And.intro bR (And.intro bW (And.intro bL (And.intro bA bC)))))))
    rcases Int.lt_or_le t 2 with ht2 | ht2
    · have c1 : decide (t < 2) = true := decide_eq_true (by omega)
      have w1t : wrap64 (t + 1) = t + 1 := Pl.w64 (by omega) (by omega)
      have HT := Aside0.mk (And.intro ht (And.intro ht0 ht2))
      clear ht ht0 ht2
      clear hb hm hsw bR bW bL bA bC
      go_wp2_with fail
      have hlt1 := Aside0.mk (show w9.heap.size + 1 < (wr.alloc (.cells #[.int .i64 0] 3)).heap.size by have := hWr.out.2.2.2.2.2.2.1.lt; simp; omega)
      have hBx := Aside0.mk (show Boxed (wr.alloc (.cells #[.int .i64 0] 3)) wr.heap.size 3 (.int .i64 0) from Boxed.new wr 3 _)
      have hBw := Aside0.mk (show Below wr.heap.size wr (wr.alloc (.cells #[.int .i64 0] 3)) from (Below.refl _ wr).alloc (Nat.le_refl _) _)
      have hBa := Aside0.mk (hWr.out.2.2.2.2.2.2.1.alloc (.cells #[.int .i64 0] 3)).cell
      refine (wpIn_wide (n := 6)).1 ?_
      apply wpIn_rangeFunc_ownF (F := Fence.wide) (n := 6) rfl (by decide) (gf := 34) (lb := #[.pointer (some ⟨w9.heap.size + 1, 0, none⟩)]) rfl trivial (enters_of Try.func34 (by kernel_rfl) rfl)
        (above_stops (6 - 1) (w9.heap.size + 1) s want HA.out.2.2.2.2.2.2 (fun _ _ => True) _ hlt1.out hBa.out) (fun _ _ => trivial) (fun _ _ _ _ _ _ _ _ => trivial) (Below.refl _ _) (fun _ => rfl)
        (fun pre W => (pre <+: want ∧ Boxed W wr.heap.size 3 (.int .i64 (pre.length : Int))) ∧ Below wr.heap.size wr W) (fun _ pre _ => ¬ pre <+: want)
        (OwnFrom.and (OwnFrom.and (ownFrom_pure _ (fun pre => pre <+: want)) (Own.from (boxed_own _ _ _) _)) (ownFrom_below (Nat.le_refl _) (by simp)))
        (fun _ => ownFrom_pure _ (fun pre => ¬ pre <+: want)) ⟨⟨List.nil_prefix, hBx.out⟩, hBw.out⟩
      case hassign =>
        intro l x W K hK
        gi_wp2
        exact hK
      case hbody =>
        rintro l pre x W ⟨⟨hp, hbx⟩, hB⟩ hlt
        have hC := Kd.C_below hWr.out.2.2.2.2.2.2.2 hB
        have bW2 : Boxed W w9.heap.size 31 (.slice Aw want.length cw) := (hB.block _ hWr.out.2.2.2.2.1.lt).trans hWr.out.2.2.2.2.1
        have bR2 : Boxed W (w.heap.size + 1) 4 (.bool false) := (hB.block _ hWr.out.2.2.2.1.lt).trans hWr.out.2.2.2.1
        obtain ⟨i, hi⟩ : ∃ i : Int, i = (pre.length : Int) := ⟨_, rfl⟩
        rw [← hi] at hbx
        have p : 0 ≤ i := by omega
        have q : i < (want.length : Int) := by omega
        obtain ⟨ad, e, hx⟩ := Kd.at_string hC i p q
        have hcw := bW2.cell
        rw [e] at hcw
        have h12 := hbx.cell
        have h12f := hbx.frozen
        have hcr := bR2.cell
        have hcrf := bR2.frozen
        have c66 : decide ((want.length : Int) ≤ i) = false := decide_eq_false (by omega)
        have wi : wrap64 (i + 1) = i + 1 := Pl.w64 (by omega) (by have := HA.out.2.2.2.2.2.1; omega)
        have hrd : rdOf ByteArray.empty want i = want.getD pre.length ByteArray.empty := by rw [hi]; rfl
        replace p := eq_true p
        replace q := eq_true q
        have HI := Aside0.mk (And.intro hp (And.intro hB (And.intro hbx (And.intro hlt (And.intro hi hrd)))))
        clear hp hB hlt hi hrd hbx hC bW2 bR2
        by_cases hxe : x = rdOf ByteArray.empty want i
        · have HX := Aside0.mk hxe
          rw [← hxe] at hx
          clear hxe
          gi_wp2
          exact ⟨KeepsOthers.setCell _ _ _, trivial, ⟨(pre_more HI.out.1 x ByteArray.empty).2 ⟨HI.out.2.2.2.1, HX.out.trans HI.out.2.2.2.2.2⟩, by rw [show (((pre ++ [x]).length : Nat) : Int) = i + 1 by have := HI.out.2.2.2.2.1; simp; omega]; exact HI.out.2.2.1.set _⟩, HI.out.2.1.setCell (p := ⟨wr.heap.size, 0, none⟩) (Nat.le_refl _) _⟩
        · have c73 : (x.toList == (rdOf ByteArray.empty want i).toList) = false := beq_eq_false_iff_ne.2 (fun h => hxe (Pl.L_inj (by rw [← Pl.toList_L, ← Pl.toList_L, h])))
          have HX := Aside0.mk hxe
          clear hxe
          gi_wp2
          exact ⟨KeepsOthers.setCell _ _ _, fun hc => HX.out (((pre_more HI.out.1 x ByteArray.empty).1 hc).2.trans HI.out.2.2.2.2.2.symm)⟩
      case hstop =>
        intro D c pre W _ hSp hIx _
        exact absurd hSp hIx
      case hdone =>
        rintro D xs W hD hS ⟨⟨hp, hbx⟩, hB⟩ hK
        rw [hS] at hbx
        have bW2 : Boxed W w9.heap.size 31 (.slice Aw want.length cw) := (hB.block _ hWr.out.2.2.2.2.1.lt).trans hWr.out.2.2.2.2.1
        have hcw := bW2.cell
        have h12 := hbx.cell
        have h12f := hbx.frozen
        have HI := Aside0.mk (And.intro hB (And.intro hbx (And.intro hD (And.intro hK bW2))))
        clear hp hS hbx hB hD hK bW2
        go_wp2_with fail
        have hDs : D < (W.setCell ⟨wr.heap.size, 0, none⟩ (.int .i64 0)).heap.size := by have := (Array.getElem?_eq_some_iff.1 HI.out.2.2.2.1).1; simpa using this
        have hDne : D ≠ wr.heap.size := by have := HI.out.2.2.1; simp at this; omega
        have hD1 : (W.setCell ⟨wr.heap.size, 0, none⟩ (.int .i64 0)).heap[D]? = some (.deferred (some [])) := ((grownBy_setCell' W wr.heap.size (.int .i64 0)).block D (by simpa using hDs) (fun e => hDne (by cases e; rfl))).trans HI.out.2.2.2.1
        have hB1 : Below wr.heap.size wr (W.setCell ⟨wr.heap.size, 0, none⟩ (.int .i64 0)) := HI.out.1.setCell (p := ⟨wr.heap.size, 0, none⟩) (Nat.le_refl _) _
        have hba1 : Boxed (W.setCell ⟨wr.heap.size, 0, none⟩ (.int .i64 0)) (w9.heap.size + 1) 9 (.string s) := (hB1.block _ hWr.out.2.2.2.2.2.2.1.lt).trans hWr.out.2.2.2.2.2.2.1
        have hN := Aside0.mk (And.intro hDs (And.intro hDne (And.intro hD1 (And.intro hB1 (And.intro hba1 (HI.out.2.1.set (.int .i64 0)))))))
        clear hDs hDne hD1 hB1 hba1
        refine (wpIn_wide (n := 6)).1 ?_
        apply wpIn_rangeFunc_ownF (F := Fence.wide) (n := 6) rfl (by decide) (gf := 34) (lb := #[.pointer (some ⟨w9.heap.size + 1, 0, none⟩)]) rfl trivial (enters_of Try.func34 (by kernel_rfl) rfl)
          (above_stops (6 - 1) (w9.heap.size + 1) s want HA.out.2.2.2.2.2.2 (fun _ _ => True) _ hN.out.2.2.2.2.1.lt hN.out.2.2.2.2.1.cell) (fun _ _ => trivial) (fun _ _ _ _ _ _ _ _ => trivial) (Below.refl _ _) (fun _ => rfl)
          (fun pre W => (Boxed W wr.heap.size 3 (.int .i64 (pre.length : Int)) ∧ W.heap[D]? = some (.deferred (some []))) ∧ Below wr.heap.size wr W)
          (fun c pre W => (c = .exit 4 ∧ Boxed W wr.heap.size 3 (.int .i64 (pre.length : Int)) ∧ W.heap[D]? = some (.deferred (some []))) ∧ Below wr.heap.size wr W)
          (OwnFrom.and (OwnFrom.and (Own.from (boxed_own _ _ _) _) (mark_own hN.out.1)) (ownFrom_below (Nat.le_refl _) hN.out.2.2.2.1.size))
          (fun c => OwnFrom.and (OwnFrom.and (ownFrom_pure _ (fun _ => c = .exit 4)) (OwnFrom.and (Own.from (boxed_own _ _ _) _) (mark_own hN.out.1))) (ownFrom_below (Nat.le_refl _) hN.out.2.2.2.1.size))
          ⟨⟨hN.out.2.2.2.2.2, hN.out.2.2.1⟩, hN.out.2.2.2.1⟩
        case hassign =>
          intro l x W K hK
          gi_wp2
          exact hK
        case hbody =>
          rintro l pre x W' ⟨⟨hbx, hDk⟩, hB⟩ hlt
          have bL2 : Boxed W' w.heap.size 3 (.int .i64 left) := (hB.block _ hWr.out.2.2.2.2.2.1.lt).trans hWr.out.2.2.2.2.2.1
          obtain ⟨i, hi⟩ : ∃ i : Int, i = (pre.length : Int) := ⟨_, rfl⟩
          rw [← hi] at hbx
          have hne := hWr.out.2.2.2.2.2.1.lt
          have hne1 : (wr.heap.size = w.heap.size) = False := eq_false (by omega)
          have hne2 : (w.heap.size = wr.heap.size) = False := eq_false (by omega)
          have hcl := bL2.cell
          have hcl2 := (bL2.other (B' := wr.heap.size) (by omega) (.int .i64 (i + 1))).cell
          have h12 := hbx.cell
          have h12f := hbx.frozen
          have wi : wrap64 (i + 1) = i + 1 := Pl.w64 (by omega) (by have := HA.out.2.2.2.2.2.1; omega)
          have hl2 : (((pre ++ [x]).length : Nat) : Int) = i + 1 := by simp; omega
          have hDk2 : (W'.setCell ⟨wr.heap.size, 0, none⟩ (.int .i64 (i + 1))).heap[D]? = some (.deferred (some [])) := ((grownBy_setCell' W' wr.heap.size (.int .i64 (i + 1))).block D (Array.getElem?_eq_some_iff.1 hDk).1 (fun e => hN.out.2.1 (by cases e; rfl))).trans hDk
          have HB := Aside0.mk (And.intro hl2 (And.intro hDk2 (And.intro (hbx.set (.int .i64 (i + 1))) (hB.setCell (p := ⟨wr.heap.size, 0, none⟩) (Nat.le_refl _) (.int .i64 (i + 1))))))
          clear hbx hDk hB hlt hi bL2 hl2 hDk2 hne
          by_cases hle : left ≤ i + 1
          · have c87 : decide (left ≤ i + 1) = true := decide_eq_true hle
            clear hle
            gi_wp2
            refine ⟨KeepsOthers.setCell _ _ _, ⟨rfl, ?_, HB.out.2.1⟩, HB.out.2.2.2⟩
            rw [HB.out.1]
            exact HB.out.2.2.1
          · have c87 : decide (left ≤ i + 1) = false := decide_eq_false hle
            clear hle
            gi_wp2
            refine ⟨KeepsOthers.setCell _ _ _, trivial, ⟨?_, HB.out.2.1⟩, HB.out.2.2.2⟩
            rw [HB.out.1]
            exact HB.out.2.2.1
        case hdone =>
          rintro D2 xs W2 hD2 hS2 ⟨⟨hbx, hDk⟩, hB⟩ hK2
          rw [hS2] at hbx
          have c91 : decide ((want.length : Int) < (want.length : Int)) = false := decide_eq_false (by omega)
          clear hS2
          have bW3 : Boxed W2 w9.heap.size 31 (.slice Aw want.length cw) := (hB.block _ hWr.out.2.2.2.2.1.lt).trans hWr.out.2.2.2.2.1
          have hcw := bW3.cell
          have h12 := hbx.cell
          have hwr1 : wr.heap.size ≤ D := by have := HI.out.2.2.1; simp at this; omega
          have hmk : Marks wl.heap.size W2 W2.heap.size ({ target := .collected D2, args := #[] } :: { target := .collected D, args := #[] } :: ds) :=
            ⟨D2, rfl, by have := hN.out.1; have := hWr.out.2.2.1; omega, (Array.getElem?_eq_some_iff.1 hK2).1, hK2, D, rfl, by have := hWr.out.2.2.1; omega, by have := hN.out.1; omega, hDk,
              (hWr.out.2.1.kept (fun k _ h2 => hB.block k h2)).more hwr1⟩
          have HF := Aside0.mk (And.intro hmk (hWr.out.1.trans (hB.mono hWr.out.2.2.1)))
          clear hmk hB hK2 hDk hbx bW3 hD2 hwr1
          go_wp2_with fail
          all_goals exact ⟨n - 1, by have := HT.out.1; have := HT.out.2.1; have := HT.out.2.2; omega, wrap64 (t + 1), by rw [w1t]; have := HT.out.1; have := HT.out.2.1; have := HT.out.2.2; omega, by rw [w1t]; have := HT.out.2.1; omega, PtSt.mk _ _ _ HF.out.2 HF.out.1 _ _ _ _ _ _ _ _ _ _ _ _ _ _ _ _ _ _ _ _ _ _ _ _ _ _ _ _ _ _ _ _ _ _ _ _ _ _ _ _ _ _ _ _ _ _ _ _ _ _ _ _ _ _ _ _ _ _ _ _ _ _ _ _ _ _ _ _ _ _ _ _ _ _ _ _ _ _ _ _ _ _ _ _ _⟩
        case hstop =>
          rintro D2 c pre W2 hD2 hS2 ⟨⟨rfl, hbx, hDk⟩, hB⟩ hK2
          have hple := hS2.length_le
          obtain ⟨i, hi⟩ : ∃ i : Int, i = (pre.length : Int) := ⟨_, rfl⟩
          rw [← hi] at hbx
          have c91 : decide ((want.length : Int) < i) = false := decide_eq_false (by omega)
          clear hS2 hple hi
          have bW3 : Boxed W2 w9.heap.size 31 (.slice Aw want.length cw) := (hB.block _ hWr.out.2.2.2.2.1.lt).trans hWr.out.2.2.2.2.1
          have hcw := bW3.cell
          have h12 := hbx.cell
          have hwr1 : wr.heap.size ≤ D := by have := HI.out.2.2.1; simp at this; omega
          have hmk : Marks wl.heap.size W2 W2.heap.size ({ target := .collected D2, args := #[] } :: { target := .collected D, args := #[] } :: ds) :=
            ⟨D2, rfl, by have := hN.out.1; have := hWr.out.2.2.1; omega, (Array.getElem?_eq_some_iff.1 hK2).1, hK2, D, rfl, by have := hWr.out.2.2.1; omega, by have := hN.out.1; omega, hDk,
              (hWr.out.2.1.kept (fun k _ h2 => hB.block k h2)).more hwr1⟩
          have HF := Aside0.mk (And.intro hmk (hWr.out.1.trans (hB.mono hWr.out.2.2.1)))
          clear hmk hB hK2 hDk hbx bW3 hD2 hwr1
          refine wpIn_wide.2 ?_
          go_wp2_with fail
          all_goals exact ⟨n - 1, by have := HT.out.1; have := HT.out.2.1; have := HT.out.2.2; omega, wrap64 (t + 1), by rw [w1t]; have := HT.out.1; have := HT.out.2.1; have := HT.out.2.2; omega, by rw [w1t]; have := HT.out.2.1; omega, PtSt.mk _ _ _ HF.out.2 HF.out.1 _ _ _ _ _ _ _ _ _ _ _ _ _ _ _ _ _ _ _ _ _ _ _ _ _ _ _ _ _ _ _ _ _ _ _ _ _ _ _ _ _ _ _ _ _ _ _ _ _ _ _ _ _ _ _ _ _ _ _ _ _ _ _ _ _ _ _ _ _ _ _ _ _ _ _ _ _ _ _ _ _ _ _ _ _⟩
    · have c1 : decide (t < 2) = false := decide_eq_false (by omega)
      have hc := bR.cell
      have hf := bR.frozen
      clear hb hm hsw bR bW bL bA bC
      go_wp2_with fail
      refine leaves_marks (Br := w.heap.size + 1) (fun W' hb hc => ⟨_, hres.out _ rfl W' hc, rfl, hb⟩) ds wr.heap.size _ ?_ ?_ (World.cell?_setCell_same' _ _ _ (by rw [hc]; rfl))
      · exact (hWr.out.2.1.kept (fun k h1 h2 => (grownBy_setCell' wr (w.heap.size + 1) (.bool true)).block k h2 (fun e => by cases e; have := HL.out.1.br.lt; omega))).lower (by have := HL.out.2.2.1.size; omega)
      · exact (HL.out.2.2.1.trans (hWr.out.1.mono (by have := HL.out.2.2.1.size; omega))).setCell (p := ⟨w.heap.size + 1, 0, none⟩) (by simp) _
end Go.Proofs.Ytpphdmpnnnimdaa.P
