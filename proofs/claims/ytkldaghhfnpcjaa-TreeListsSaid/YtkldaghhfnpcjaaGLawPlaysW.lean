/- Folded: GLawPlays, GLawPlaysW. -/
import Derived.Test.YtkldaghhfnpcjaaGDoesA
import Derived.Test.YtkldaghhfnpcjaaPxf11
/- TreePlays' own function, walked (begun): what is not long is short. -/
namespace Go.Proofs.Ytkldaghhfnpcjaa.P
open Go.RowKit Go.Maps Go.Proofs.YtkldaghhfnpcjaaW.PrintWords Go.Proofs.YtkldaghhfnpcjaaW.PrintLast Go.Proofs.YtkldaghhfnpcjaaW.PrintMore Go.Proofs.Ytkldaghhfnpcjaa.Pl
set_option linter.unusedVariables false
set_option linter.unusedSimpArgs false
theorem long_l0 (l : List S28) (hl : l.length ≤ 10000000000000) (hb : ∀ o ∈ l, o.f1.size ≤ 1000000000000000 ∧ o.f2.size ≤ 1000000000000000) : ∀ (d i : Nat) (n : Int), i + d = l.length → 0 ≤ n → n ≤ 3000000000000000 →
    ∃ b, Ev (fun k => brickyardlaw10_long.l0 k l n (i : Int)) b ∧ (b = false → l.length ≤ 2000 ∧ n < 1048576 ∧ ∀ o ∈ l.drop i, o.f1.size < 1048576 ∧ o.f2.size < 1048576) := by
  intro d
  induction d with
  | zero =>
    intro i n hi h0 h1
    by_cases h2 : n ≥ 1048576
    · refine ⟨true, ev_succ ?_, fun h => by cases h⟩
      simp only [brickyardlaw10_long.l0]
      exact ev_ite_neg (by omega) (ev_ite_pos h2 (ev_const rfl))
    · refine ⟨decide ((l.length : Int) > 2000), ev_succ ?_, fun h => ⟨by have := of_decide_eq_false h; omega, by omega, fun o ho => ?_⟩⟩
      · simp only [brickyardlaw10_long.l0]
        exact ev_ite_neg (by omega) (ev_ite_neg h2 (ev_const rfl))
      · rw [List.drop_eq_nil_of_le (by omega)] at ho; cases ho
  | succ d ih =>
    intro i n hi h0 h1
    have hil : i < l.length := by omega
    by_cases h2 : n < 1048576
    · have hrd : rd_T28 l (i : Int) = l[i]'hil := by
        unfold rd_T28
        rw [Int.toNat_natCast, List.getD_eq_getElem?_getD, List.getElem?_eq_getElem hil]
        rfl
      have hbi := hb (l[i]'hil) (List.getElem_mem hil)
      have e1 : wrap64 (((l[i]'hil).f1.size : Int) + ((l[i]'hil).f2.size : Int)) = ((l[i]'hil).f1.size : Int) + ((l[i]'hil).f2.size : Int) := w64_ (by omega) (by omega)
      have e2 : wrap64 (((l[i]'hil).f1.size : Int) + ((l[i]'hil).f2.size : Int) + 1) = ((l[i]'hil).f1.size : Int) + ((l[i]'hil).f2.size : Int) + 1 := w64_ (by omega) (by omega)
      have e3 : wrap64 (n + (((l[i]'hil).f1.size : Int) + ((l[i]'hil).f2.size : Int) + 1)) = n + (((l[i]'hil).f1.size : Int) + ((l[i]'hil).f2.size : Int) + 1) := w64_ (by omega) (by omega)
      have e4 : wrap64 ((i : Int) + 1) = ((i + 1 : Nat) : Int) := by rw [w64_ (by omega) (by omega)]; rfl
      have HE := Aside0.mk (And.intro e1 (And.intro e2 (And.intro e3 e4)))
      clear e1 e2 e3 e4
      obtain ⟨b, hev, hfin⟩ := ih (i + 1) (n + (((l[i]'hil).f1.size : Int) + ((l[i]'hil).f2.size : Int) + 1)) (by omega) (by omega) (by omega)
      refine ⟨b, ev_succ ?_, fun h => ?_⟩
      · simp only [brickyardlaw10_long.l0]
        refine ev_ite_pos (by omega) (ev_ite_pos h2 (ev_ite_pos (by omega) ?_))
        rw [hrd, HE.out.1, HE.out.2.1, HE.out.2.2.1, HE.out.2.2.2]
        exact hev
      · obtain ⟨g1, g2, g3⟩ := hfin h
        refine ⟨g1, h2, fun o ho => ?_⟩
        rw [List.drop_eq_getElem_cons hil] at ho
        rcases List.mem_cons.1 ho with rfl | ho
        · exact ⟨by omega, by omega⟩
        · exact g3 o ho
    · refine ⟨true, ev_succ ?_, fun h => by cases h⟩
      simp only [brickyardlaw10_long.l0]
      exact ev_ite_pos (by omega) (ev_ite_neg h2 (ev_ite_pos (by omega) (ev_const rfl)))
/-- long is told, and what is not long is short -/
theorem long_ev (l : List S28) (hl : l.length ≤ 10000000000000) (hb : ∀ o ∈ l, o.f1.size ≤ 1000000000000000 ∧ o.f2.size ≤ 1000000000000000) :
    ∃ b, Ev (fun k => brickyardlaw10_long.f k l) b ∧ (b = false → l.length ≤ 2000 ∧ ∀ o ∈ l, o.f1.size < 1048576 ∧ o.f2.size < 1048576) := by
  obtain ⟨b, h1, h2⟩ := long_l0 l hl hb l.length 0 0 (by omega) (by omega) (by omega)
  exact ⟨b, h1, fun h => ⟨(h2 h).1, by have := (h2 h).2.2; simpa using this⟩⟩
end Go.Proofs.Ytkldaghhfnpcjaa.P
/- TreePlays' own function, walked. -/
namespace Go.Proofs.Ytkldaghhfnpcjaa.P
open Go.RowKit Go.Maps Go.Proofs.YtkldaghhfnpcjaaW.PrintWords Go.Proofs.YtkldaghhfnpcjaaW.PrintLast Go.Proofs.YtkldaghhfnpcjaaW.PrintMore Go.Proofs.Ytkldaghhfnpcjaa.Pl
set_option linter.unusedVariables false
set_option linter.unusedSimpArgs false
set_option maxRecDepth 100000 in
set_option maxHeartbeats 4000000 in
theorem plays_walk (l : List S28) (A : Option Addr) (c : Nat) (zero : Bool) (w : World) (hC : Kd.C k28 w A l.length l) (hc : l.length ≤ c) (hl : l.length ≤ 10000000000000) (hb : ∀ o ∈ l, o.f1.size ≤ 1000000000000000 ∧ o.f2.size ≤ 1000000000000000) :
    Calls Try.prog 5 #[.slice A l.length c, .bool zero] w fun e w' => e = .returned (.bool true) ∧ Below w.heap.size w w' := by
  obtain ⟨b, hev, hfin⟩ := long_ev l hl hb
  obtain ⟨k, hk⟩ := ev_some hev
  have HC := Aside0.mk (And.intro hC (And.intro hc hfin))
  clear hev hfin hC hb
  go_enter Try.func5, Try.ntmps5
  go_wp2_with fail
  refine (works_calls w).mono ?_
  rintro e w1 ⟨rfl, hB1⟩
  have hlg := brickyardlaw10_long.calls k A c l b w1 (Kd.C_below HC.out.1 hB1) HC.out.2.1 hk
  have H1 := Aside0.mk hB1
  clear hB1 hk
  go_wp2_with fail
  refine hlg.mono ?_
  rintro e w2 ⟨rfl, ⟨n2, rfl⟩⟩
  clear hlg
  cases b with
  | true =>
    go_wp2_with fail
    go_ret
    exact ⟨rfl, H1.out.trans ((pw_below_drewN (Below.refl _ w1) n2).mono H1.out.size)⟩
  | false =>
  have H2 := Aside0.mk (H1.out.trans ((pw_below_drewN (Below.refl _ w1) n2).mono H1.out.size))
  generalize w1.drewN n2 = w2 at *
  go_wp2_with fail
  refine (tnew_calls w2).mono ?_
  rintro e w3 ⟨rfl, hM3, hB3⟩
  have H3 := Aside0.mk (And.intro hM3 (And.intro hB3 (H2.out.trans (hB3.mono H2.out.size))))
  clear hM3 hB3
  have hml : l.length ≤ 2000 := (HC.out.2.2 (by first | trivial | rfl)).1
  cases zero with
  | false =>
    go_wp2_with fail
    have hbn := (Below.refl w3.heap.size w3).alloc (Nat.le_refl _) (.cells #[.slice none 0 0, .slice none 0 0] 54)
    have two : Two (fun _ => False) w2 (w3.alloc (.cells #[.slice none 0 0, .slice none 0 0] 54)) w2.heap.size (w2.heap.size + 1) w3.heap.size ⟨[], []⟩ :=
      two_new ⟨_, H3.out.1.below hbn, fun k hk => (H3.out.1.bound k hk).2⟩ (World.alloc_heap_new w3 _) H3.out.2.1.size
    have hW := H3.out.2.2.trans (hbn.mono H3.out.2.2.size)
    have hbW : w2.heap.size ≤ (w3.alloc (.cells #[.slice none 0 0, .slice none 0 0] 54)).heap.size := Nat.le_trans H3.out.2.1.size hbn.size
    have H4 := Aside0.mk (And.intro two (And.intro hW hbW))
    have hlk := like_calls two
    clear two hW hbW
    refine hlk.mono ?_
    rintro e w4 ⟨rfl, hb4⟩
    clear hlk
    have H5 := Aside0.mk (And.intro (H4.out.1.below hb4) (And.intro (H4.out.2.1.trans (hb4.mono H4.out.2.1.size)) (Nat.le_trans H4.out.2.2 hb4.size)))
    clear hb4
    go_wp2_with fail
    go_loopg [7] (l.length + 1) (fun n v7 wr => ∃ (i : Nat) (S : TS), v7 = .int .i64 (i : Int) ∧ Aside0 (i + n = l.length + 1) ∧ Aside0 (Two (fun _ => False) w2 wr w2.heap.size (w2.heap.size + 1) w3.heap.size S ∧ TOk S ∧ S.cs.length ≤ i) ∧ Aside0 (Below w.heap.size w wr ∧ w2.heap.size ≤ wr.heap.size))
    case atStart => exact ⟨0, ⟨[], []⟩, rfl, ⟨by omega⟩, ⟨H5.out.1, TOk.empty, Nat.le_refl _⟩, ⟨H5.out.2⟩⟩
    case round =>
      obtain ⟨i, S, rfl, ⟨hi⟩, HT, HB⟩ := hrel
      have hshort := HC.out.2.2 (by first | trivial | rfl)
      by_cases c1 : i < l.length
      · have k1 : decide ((i : Int) < (l.length : Int)) = true := decide_eq_true (by omega)
        obtain ⟨ad, rfl, x0, x1, x2, x3⟩ := at_T28 (Kd.C_below HC.out.1 HB.out.1) (i : Int) (by omega) (by omega)
        have hrd : rd_T28 l (i : Int) = l[i]'c1 := by
          unfold rd_T28
          rw [Int.toNat_natCast, List.getD_eq_getElem?_getD, List.getElem?_eq_getElem c1]
          rfl
        have hsz := hshort.2 (l[i]'c1) (List.getElem_mem c1)
        rw [hrd, Int.toNat_natCast] at x0 x1 x2 x3
        obtain ⟨o, ho⟩ : ∃ o, l[i]'c1 = o := ⟨_, rfl⟩
        rw [ho] at x0 x1 x2 x3 hsz
        have hds := does_calls HT.out.1 HT.out.2.1 HB.out.2 (by have := HT.out.2.2; have := hshort.1; omega) o.f0 o.f1 o.f2 o.f3 (by unfold maxLen; omega)
        have i0 : (0 : Int) ≤ (i : Int) := by omega
        have i1 : (i : Int) < (l.length : Int) := by omega
        clear hrd hsz ho
        go_wp2_with fail
        refine hds.mono ?_
        rintro e w5 ⟨rfl, hT5, hB5⟩
        clear hds
        have hB5' := HB.out.1.trans (hB5.mono (by have := H2.out.size; omega))
        have hs5 := Nat.le_trans HB.out.2 hB5.size
        have hok5 := TOk.step HT.out.2.1 o.f0 o.f1 o.f2
        have hln5 := Nat.le_trans (step_len S o.f0 o.f1 o.f2) (Nat.succ_le_succ HT.out.2.2)
        by_cases c2 : l.length ≤ 100
        · have k2 : decide ((l.length : Int) ≤ 100) = true := decide_eq_true (by omega)
          have hlk := like_calls hT5
          have H6 := Aside0.mk (And.intro hT5 (And.intro hok5 (And.intro hln5 (And.intro hB5' hs5))))
          clear hT5 hok5 hln5 hB5' hs5 hB5
          go_wp2_with fail
          refine hlk.mono ?_
          rintro e w6 ⟨rfl, hb6⟩
          clear hlk
          go_wp2_with fail
          go_roundg (gk - 1)
          case measure => omega
          case rel => exact ⟨i + 1, _, by first | rfl | (rw [w64_ (by omega) (by omega)]; rfl) | simp, ⟨by omega⟩, ⟨H6.out.1.below hb6, H6.out.2.1, H6.out.2.2.1⟩, ⟨H6.out.2.2.2.1.trans (hb6.mono H6.out.2.2.2.1.size), Nat.le_trans H6.out.2.2.2.2 hb6.size⟩⟩
        · have k2 : decide ((l.length : Int) ≤ 100) = false := decide_eq_false (by omega)
          have H6 := Aside0.mk (And.intro hT5 (And.intro hok5 (And.intro hln5 (And.intro hB5' hs5))))
          clear hT5 hok5 hln5 hB5' hs5 hB5
          go_wp2_with fail
          go_roundg (gk - 1)
          case measure => omega
          case rel => exact ⟨i + 1, _, by first | rfl | (rw [w64_ (by omega) (by omega)]; rfl) | simp, ⟨by omega⟩, ⟨H6.out.1, H6.out.2.1, H6.out.2.2.1⟩, ⟨H6.out.2.2.2⟩⟩
      · have k1 : decide ((i : Int) < (l.length : Int)) = false := decide_eq_false (by omega)
        have hlk := like_calls HT.out.1
        go_wp2_with fail
        refine hlk.mono ?_
        rintro e w6 ⟨rfl, hb6⟩
        clear hlk
        go_wp2_with fail
        go_ret
        exact ⟨rfl, HB.out.1.trans (hb6.mono HB.out.1.size)⟩
  | true =>
    go_wp2_with fail
    have hb1 := (Below.refl w3.heap.size w3).alloc (Nat.le_refl _) (.cells (treeCells [] none) 50)
    have hbn := hb1.alloc (by simp) (.cells #[.slice none 0 0, .slice none 0 0] 54)
    have hM : TMem ((w3.alloc (.cells (treeCells [] none) 50)).alloc (.cells #[.slice none 0 0, .slice none 0 0] 54)) w2.heap.size (· = w3.heap.size) w3.heap.size ⟨[], []⟩ :=
      ⟨⟨none, blk_alloc (World.alloc_heap_new w3 _) _, .inl ⟨rfl, rfl⟩⟩, rfl, fun k hk => ⟨by rw [hk]; exact H3.out.2.1.size, by rw [hk]; simp; omega⟩, TOk.empty, Nat.zero_le _⟩
    have two : Two (fun _ => False) w2 ((w3.alloc (.cells (treeCells [] none) 50)).alloc (.cells #[.slice none 0 0, .slice none 0 0] 54)) w2.heap.size w3.heap.size (w3.heap.size + 1) ⟨[], []⟩ :=
      two_new ⟨_, hM, fun k hk => by rw [hk]; omega⟩ (by have := World.alloc_heap_new (w3.alloc (.cells (treeCells [] none) 50)) (.cells #[.slice none 0 0, .slice none 0 0] 54); rwa [World.size_alloc] at this) (Nat.le_succ_of_le H3.out.2.1.size)
    have hW := H3.out.2.2.trans (hbn.mono H3.out.2.2.size)
    have hbW : w2.heap.size ≤ ((w3.alloc (.cells (treeCells [] none) 50)).alloc (.cells #[.slice none 0 0, .slice none 0 0] 54)).heap.size := Nat.le_trans H3.out.2.1.size hbn.size
    have H4 := Aside0.mk (And.intro two (And.intro hW hbW))
    have hlk := like_calls two
    clear two hW hbW
    refine hlk.mono ?_
    rintro e w4 ⟨rfl, hb4⟩
    clear hlk
    have H5 := Aside0.mk (And.intro (H4.out.1.below hb4) (And.intro (H4.out.2.1.trans (hb4.mono H4.out.2.1.size)) (Nat.le_trans H4.out.2.2 hb4.size)))
    clear hb4
    go_wp2_with fail
    go_loopg [7] (l.length + 1) (fun n v7 wr => ∃ (i : Nat) (S : TS), v7 = .int .i64 (i : Int) ∧ Aside0 (i + n = l.length + 1) ∧ Aside0 (Two (fun _ => False) w2 wr w2.heap.size w3.heap.size (w3.heap.size + 1) S ∧ TOk S ∧ S.cs.length ≤ i) ∧ Aside0 (Below w.heap.size w wr ∧ w2.heap.size ≤ wr.heap.size))
    case atStart => exact ⟨0, ⟨[], []⟩, rfl, ⟨by omega⟩, ⟨H5.out.1, TOk.empty, Nat.le_refl _⟩, ⟨H5.out.2⟩⟩
    case round =>
      obtain ⟨i, S, rfl, ⟨hi⟩, HT, HB⟩ := hrel
      have hshort := HC.out.2.2 (by first | trivial | rfl)
      by_cases c1 : i < l.length
      · have k1 : decide ((i : Int) < (l.length : Int)) = true := decide_eq_true (by omega)
        obtain ⟨ad, rfl, x0, x1, x2, x3⟩ := at_T28 (Kd.C_below HC.out.1 HB.out.1) (i : Int) (by omega) (by omega)
        have hrd : rd_T28 l (i : Int) = l[i]'c1 := by
          unfold rd_T28
          rw [Int.toNat_natCast, List.getD_eq_getElem?_getD, List.getElem?_eq_getElem c1]
          rfl
        have hsz := hshort.2 (l[i]'c1) (List.getElem_mem c1)
        rw [hrd, Int.toNat_natCast] at x0 x1 x2 x3
        obtain ⟨o, ho⟩ : ∃ o, l[i]'c1 = o := ⟨_, rfl⟩
        rw [ho] at x0 x1 x2 x3 hsz
        have hds := does_calls HT.out.1 HT.out.2.1 HB.out.2 (by have := HT.out.2.2; have := hshort.1; omega) o.f0 o.f1 o.f2 o.f3 (by unfold maxLen; omega)
        have i0 : (0 : Int) ≤ (i : Int) := by omega
        have i1 : (i : Int) < (l.length : Int) := by omega
        clear hrd hsz ho
        go_wp2_with fail
        refine hds.mono ?_
        rintro e w5 ⟨rfl, hT5, hB5⟩
        clear hds
        have hB5' := HB.out.1.trans (hB5.mono (by have := H2.out.size; omega))
        have hs5 := Nat.le_trans HB.out.2 hB5.size
        have hok5 := TOk.step HT.out.2.1 o.f0 o.f1 o.f2
        have hln5 := Nat.le_trans (step_len S o.f0 o.f1 o.f2) (Nat.succ_le_succ HT.out.2.2)
        by_cases c2 : l.length ≤ 100
        · have k2 : decide ((l.length : Int) ≤ 100) = true := decide_eq_true (by omega)
          have hlk := like_calls hT5
          have H6 := Aside0.mk (And.intro hT5 (And.intro hok5 (And.intro hln5 (And.intro hB5' hs5))))
          clear hT5 hok5 hln5 hB5' hs5 hB5
          go_wp2_with fail
          refine hlk.mono ?_
          rintro e w6 ⟨rfl, hb6⟩
          clear hlk
          go_wp2_with fail
          go_roundg (gk - 1)
          case measure => omega
          case rel => exact ⟨i + 1, _, by first | rfl | (rw [w64_ (by omega) (by omega)]; rfl) | simp, ⟨by omega⟩, ⟨H6.out.1.below hb6, H6.out.2.1, H6.out.2.2.1⟩, ⟨H6.out.2.2.2.1.trans (hb6.mono H6.out.2.2.2.1.size), Nat.le_trans H6.out.2.2.2.2 hb6.size⟩⟩
        · have k2 : decide ((l.length : Int) ≤ 100) = false := decide_eq_false (by omega)
          have H6 := Aside0.mk (And.intro hT5 (And.intro hok5 (And.intro hln5 (And.intro hB5' hs5))))
          clear hT5 hok5 hln5 hB5' hs5 hB5
          go_wp2_with fail
          go_roundg (gk - 1)
          case measure => omega
          case rel => exact ⟨i + 1, _, by first | rfl | (rw [w64_ (by omega) (by omega)]; rfl) | simp, ⟨by omega⟩, ⟨H6.out.1, H6.out.2.1, H6.out.2.2.1⟩, ⟨H6.out.2.2.2⟩⟩
      · have k1 : decide ((i : Int) < (l.length : Int)) = false := decide_eq_false (by omega)
        have hlk := like_calls HT.out.1
        go_wp2_with fail
        refine hlk.mono ?_
        rintro e w6 ⟨rfl, hb6⟩
        clear hlk
        go_wp2_with fail
        go_ret
        exact ⟨rfl, HB.out.1.trans (hb6.mono HB.out.1.size)⟩
end Go.Proofs.Ytkldaghhfnpcjaa.P
