/- brickyardref19.Cycle: the least of the shortest cycles. -/
import Derived.Test.YtmhbdgnajlnhnaaGCycle
import Derived.Test.YtmhbdgnajlnhnaaGROut
import Derived.Test.YtmhbdgnajlnhnaaGRWay
import Derived.Test.YtmhbdgnajlnhnaaPlRefL
import Derived.StillTailTactics
import Derived.Deep.RegionHeld3
namespace Go.Proofs.Ytmhbdgnajlnhnaa.P
open Go.RowKit Go.Maps Go.MapKept Go.ChangeMaps Go.Proofs.YtmhbdgnajlnhnaaW.PrintWords Go.Proofs.YtmhbdgnajlnhnaaW.PrintLast Go.Proofs.YtmhbdgnajlnhnaaW.PrintMore Go.Proofs.Ytmhbdgnajlnhnaa.Pl
set_option linter.unusedVariables false
set_option linter.unusedSimpArgs false
section
variable {G : GG} {E : List S45} {w : World}
theorem rless_calls (A0 : Option Addr) (c0 : Nat) (l0 : List ByteArray) (A1 : Option Addr) (c1 : Nat) (l1 : List ByteArray) (W : World) (h0 : Kd.C Kd.string W A0 l0.length l0) (hc0 : l0.length ≤ c0) (h1 : Kd.C Kd.string W A1 l1.length l1) (hc1 : l1.length ≤ c1) (s0 : l0.length ≤ 1000000) (s1 : l1.length ≤ 1000000) :
    Calls Try.prog 53 #[.slice A0 l0.length c0, .slice A1 l1.length c1] W fun e w' => e = .returned (.bool (decide (cmpL l0 l1 < 0))) ∧ Drawn0 W w' := by
  obtain ⟨k, hk⟩ := ev_some (rless_ev l0 l1 s0 s1)
  exact brickyardref19_less.calls k A0 c0 l0 A1 c1 l1 _ W h0 hc0 h1 hc1 hk
/-- append([]string{x}, ys...) in a region that draws -/
theorem lit_rows_event {W : World} {B g m c : Nat} {A' : Option Addr} {x : ByteArray} {ys : List ByteArray} {s y : Operand} {ops : Array Oper} {o : Oper} {a : Act} {Q : Exit → Act → World → Prop} {Kc : Act → World → Prop} {E : Prop}
    (hgd : o.guard = none) (ho : o.op = .call { callee := .builtin .append, args := #[s, y], argTypes := #[23, 23] }) (hs : a.eval s = .slice (some ⟨g, 0, none⟩) 1 1) (hx : a.eval y = .slice A' m c)
    (hg : W.heap[g]? = some (.cells #[.string x] 9 (0, 0))) (hB : B ≤ g) (hR : Kd.string.C W A' m ys) (hl : (ys.length + 1) * 16 ≤ 140737488355328)
    (h : ∀ (ad : Addr) (c6 : Nat) (w1 : World), Kd.R Kd.string 9 w1 B (fun _ => True) (.slice (some ad) ([x] ++ ys).length c6) ([x] ++ ys) → Below B W w1 → Kc (a.put o.dst (.slice (some ad) ([x] ++ ys).length c6)) w1) :
    if Region.wanted o (yielded ops a.tmps) = true then Oper.wp Try.prog o a W Kc Q else E := by
  have hw : Region.wanted o (yielded ops a.tmps) = true := by simp [Region.wanted, hgd]
  rw [if_pos hw]
  have hn : ys.length = m := hR.1
  have hlt := blk_lt hg
  have h0 : Kd.R Kd.string 9 W B (fun _ => True) (.slice (some ⟨g, 0, none⟩) 1 1) [x] :=
    Kd.R_of_own (xs := [x]) ⟨rfl, .inr ⟨g, 1, #[.string x], rfl, hB, hg, Nat.le_refl _, by simp [maxLen], by simp, rfl⟩⟩ (fun _ _ => trivial)
  have key := Kd.R_append_rows_step (P := Try.prog) (ops := ops) (o := o) (a := a) (Q := Q) (Kc := Kc) Kd.string (Rr := Kd.string.K W) (w0 := W) (W := W) B hw s y 23 9 (.string ⟨#[]⟩) 16 ho Try.underlying23 info9 rfl (by decide) (by omega)
    (.slice (some ⟨g, 0, none⟩) 1 1) [x] ys A' m c (fun _ => True) (fun _ => False) hs hx h0 hR (fun x cs hc => hc) (fun _ hk => hk.elim) (fun k hk => trivial) (Below.refl _ _) (by omega) (by rw [List.length_singleton, ← hn]; omega)
    (fun v1 w1 h1 hbl hg hat => ?_)
  · rw [if_pos hw] at key; exact key
  · obtain ⟨ad, c6, rfl⟩ := Kd.R_slice1 h1 (by simp)
    exact h ad c6 w1 h1 hbl
set_option maxRecDepth 1000000 in
set_option maxHeartbeats 4000000 in
theorem rcycle_calls (hG : RG G E) (A0 : Option Addr) (c0 : Nat) (A1 : Option Addr) (c1 : Nat) (h0 : Kd.C Kd.string w A0 G.ns.length G.ns) (hc0 : G.ns.length ≤ c0) (h1 : Kd.C k45 w A1 E.length E) (hc1 : E.length ≤ c1) :
    Calls Try.prog 35 #[.agg #[.slice A0 G.ns.length c0, .slice A1 E.length c1]] w (CycleIs G w) := by
  have hu29 := Try.underlying29
  have hnil := fun (W : World) (A : Option Addr) (n c : Nat) => Go.Lib.run_eql_slice_nil (P := Try.prog) W 23 9 A n c 0 0 Try.underlying23
  have HC0 := Aside0.mk (And.intro h0 h1)
  have HG := Aside0.mk hG
  have hfew := hG.names
  clear h0 h1 hG
  go_enter Try.func35, Try.ntmps35
  go_wp2_with fail
  obtain ⟨wn, hwn⟩ : ∃ wn : World, w.alloc (.cells #[.slice A0 G.ns.length c0, .slice A1 E.length c1] 29) = wn := ⟨_, rfl⟩
  have HN : Aside0 (wn.heap[w.heap.size]? = some (.cells #[.slice A0 G.ns.length c0, .slice A1 E.length c1] 29 (0, 0)) ∧ Below w.heap.size w wn) := ⟨by rw [← hwn]; exact alloc_new, by rw [← hwn]; exact (Below.refl _ w).alloc (Nat.le_refl _) _⟩
  rw [hwn]
  obtain ⟨g, hg⟩ : ∃ g, w.heap.size = g := ⟨_, rfl⟩
  have hgl := blk_lt HN.out.1
  have HH := Aside0.mk (And.intro hg (show g < wn.heap.size by omega))
  have H0 : Aside0 (Best G w (.slice none 0 0) (bestOf G (pairsG G (G.ns.take 0))) wn ∧ Below wn.heap.size wn wn) := ⟨⟨by rw [List.take_zero]; exact Kd.R_nil _ _ _ _ _, fun _ => rfl, fun b h => (by rw [List.take_zero] at h; cases h), HN.out.2⟩, Below.refl _ _⟩
  have HG0 := Aside0.mk HN.out.2
  rw [hg] at HN ⊢
  have HCELL : Aside0 (∀ W, Below wn.heap.size wn W → (W.cell? ⟨g, 0, none⟩ = some (.slice A0 G.ns.length c0) ∧ W.cell? ⟨g, 1, none⟩ = some (.slice A1 E.length c1)) ∧ Kd.C Kd.string W A0 G.ns.length G.ns ∧ Kd.C k45 W A1 E.length E) := ⟨fun W hb => by
    have hb' : W.heap[g]? = wn.heap[g]? := hb.block g HH.out.2
    have e : W.heap[g]? = some (.cells #[.slice A0 G.ns.length c0, .slice A1 E.length c1] 29 (0, 0)) := hb'.trans HN.out.1
    have hbw : Below w.heap.size w W := by
      have h2 := HN.out.2
      rw [← HH.out.1] at h2
      exact h2.trans (hb.mono h2.size)
    exact ⟨⟨by rw [blk_cell' e]; rfl, by rw [blk_cell' e]; rfl⟩, Kd.C_below HC0.out.1 hbw, Kd.C_below HC0.out.2 hbw⟩⟩
  clear hwn hgl hg HN HC0
  go_loopg [4, 5] (G.ns.length + 1) (fun n v4 v5 wr => ∃ i : Nat, v5 = .int .i64 (i : Int) ∧ Aside0 (i + n = G.ns.length + 1) ∧ Aside0 (Best G w v4 (bestOf G (pairsG G (G.ns.take i))) wr ∧ Below wn.heap.size wn wr))
  case atStart => exact ⟨0, rfl, ⟨by omega⟩, H0⟩
  case round =>
    obtain ⟨i, rfl, ⟨hn⟩, HR⟩ := hrel
    clear H0
    obtain ⟨⟨z0, z1⟩, hC0, hC1⟩ := HCELL.out wr HR.out.2
    by_cases ci : i < G.ns.length
    case neg =>
      have cib : decide ((i : Int) < (G.ns.length : Int)) = false := decide_eq_false (by omega)
      rw [List.take_of_length_le (by omega)] at HR
      obtain ⟨best, hbest⟩ : ∃ best, bestOf G (pairsG G G.ns) = best := ⟨_, rfl⟩
      have HE : ∀ {v : Value} {k : Bool}, u4 = v → best.isSome = k → Aside0 (CycleIs G w (.returned (.tuple #[v, .bool k])) wr) := fun {v k} e1 e2 => ⟨by
        subst e1; subst e2
        unfold CycleIs cycleG
        rw [hbest] at HR ⊢
        exact ⟨_, rfl, HR.out.1.row, HR.out.1.below⟩⟩
      rw [hbest] at HR
      clear hbest
      cases best with
      | none =>
        have hv := HR.out.1.none rfl
        subst hv
        have HE := HE rfl rfl
        clear HR hC0 hC1
        go_wp2_with fail
        first | go_ret2 | (refine bodyPost_ret (results_tmp2 rfl _ _ _) rfl ?_)
        exact HE.out
      | some b =>
        obtain ⟨ad4, c4, rfl, hc4, hC4⟩ := HR.out.1.slice
        have HE := HE rfl rfl
        clear HR hc4 hC4 hC0 hC1
        go_wp2_with fail
        first | go_ret2 | (refine bodyPost_ret (results_tmp2 rfl _ _ _) rfl ?_)
        exact HE.out
    have cib : decide ((i : Int) < (G.ns.length : Int)) = true := decide_eq_true (by omega)
    obtain ⟨ad, had, hcell⟩ := Kd.at_string hC0 (i : Int) (Int.natCast_nonneg _) (by omega)
    subst had
    rw [Int.toNat_natCast, get_rd ci] at hcell
    have htk : G.ns.take (i + 1) = G.ns.take i ++ [G.ns[i]] := List.take_succ_eq_append_getElem ci
    have hin : G.ns[i] ∈ G.ns := List.getElem_mem ci
    obtain ⟨a, hae⟩ : ∃ a, G.ns[i] = a := ⟨_, rfl⟩
    rw [hae] at hcell htk hin
    have ho := fun W hb => have q := HCELL.out W hb; rout_calls HG.out (some ad) c0 A1 c1 W q.2.1 hc0 q.2.2 hc1 a
    have hol := HG.out.out_len a
    obtain ⟨P0, hP0⟩ : ∃ P0, pairsG G (G.ns.take i) = P0 := ⟨_, rfl⟩
    have HK := Aside0.mk (And.intro (show pairsG G (G.ns.take (i + 1)) = P0 ++ (G.out a).map fun n => (a, n) by rw [htk, pairsG_snoc, hP0]) hin)
    rw [hP0] at HR
    have HAE := Aside0.mk hae
    clear hae htk hin hP0 hC0 hC1
    obtain ⟨wm, rfl⟩ : ∃ wm : World, wm = wr := ⟨_, rfl⟩
    obtain ⟨gm, rfl⟩ : ∃ gm : Nat, gm = gk := ⟨_, rfl⟩
    go_wp2_with fail
    go_still_tail 6, (by kernel_rfl)
    obtain ⟨wd, hwd⟩ : ∃ wd, wm.drew = wd := ⟨_, rfl⟩
    have hBd : Below wm.heap.size wm wd := by rw [← hwd]; exact below_drew (Below.refl _ _)
    change wpList _ _ _ _ _ wm.drew
    rw [hwd]
    have ho := ho wd (HR.out.2.trans (hBd.mono HR.out.2.size))
    have HBd := Aside0.mk hBd
    clear hwd hBd hcell
    go_wp2_with fail
    refine ho.mono ?_
    rintro e w2 ⟨v2, rfl, hR2, hB2⟩
    clear ho
    obtain ⟨A2, c2, rfl, hc2, hC2⟩ := Kd.R_reads hR2
    have HC2 := Aside0.mk hC2
    have hB2' := HBd.out.trans (hB2.mono HBd.out.size)
    have HR2 : Aside0 (Best G w u4 (bestOf G (P0 ++ ((G.out a).take 0).map fun n => (a, n))) w2 ∧ Below w2.heap.size w2 w2) := ⟨by rw [List.take_zero, List.map_nil, List.append_nil]; exact HR.out.1.bel hB2', Below.refl _ _⟩
    have HB2 := Aside0.mk (HR.out.2.trans (hB2'.mono HR.out.2.size))
    clear hR2 hC2 hc2 hB2 hB2' HR HBd
    go_wp2_with fail
    go_loopg [4, 7] ((G.out a).length + 1) (fun n v4 v7 wr => ∃ j : Nat, v7 = .int .i64 (j : Int) ∧ Aside0 (j + n = (G.out a).length + 1) ∧ Aside0 (Best G w v4 (bestOf G (P0 ++ ((G.out a).take j).map fun n => (a, n))) wr ∧ Below w2.heap.size w2 wr))
    case atStart => exact ⟨0, rfl, ⟨by omega⟩, HR2⟩
    case round =>
      obtain ⟨j, rfl, ⟨hn2⟩, HR⟩ := hrel
      clear HR2
      by_cases cj : j < (G.out a).length
      case neg =>
        have cjb : decide ((j : Int) < ((G.out a).length : Int)) = false := decide_eq_false (by omega)
        rw [List.take_of_length_le (by omega), ← HK.out.1] at HR
        have HX := Aside0.mk (And.intro HR.out.1 (HB2.out.trans (HR.out.2.mono HB2.out.size)))
        clear HR
        go_wp2_with fail
        go_roundg (gm - 1)
        case measure => omega
        case rel => exact ⟨i + 1, by first | rfl | (rw [w64_ (by omega) (by omega)]; rfl) | simp, ⟨by omega⟩, HX⟩
      have cjb : decide ((j : Int) < ((G.out a).length : Int)) = true := decide_eq_true (by omega)
      obtain ⟨ad2, had2, hcell2⟩ := Kd.at_string (Kd.C_below HC2.out HR.out.2) (j : Int) (Int.natCast_nonneg _) (by omega)
      subst had2
      rw [Int.toNat_natCast, get_rd cj] at hcell2
      have hBn := HB2.out.trans (HR.out.2.mono HB2.out.size)
      obtain ⟨⟨z0, z1⟩, hC0, hC1⟩ := HCELL.out wr hBn
      obtain ⟨ad0, had0, hcell⟩ := Kd.at_string hC0 (i : Int) (Int.natCast_nonneg _) (by omega)
      injection had0 with had0
      subst had0
      rw [Int.toNat_natCast, get_rd ci] at hcell
      have htk2 : (G.out a).take (j + 1) = (G.out a).take j ++ [(G.out a)[j]] := List.take_succ_eq_append_getElem cj
      obtain ⟨b, hbe⟩ : ∃ b, (G.out a)[j] = b := ⟨_, rfl⟩
      rw [hbe] at hcell2 htk2
      rw [HAE.out] at hcell
      obtain ⟨best, hbest⟩ : ∃ best, bestOf G (P0 ++ ((G.out a).take j).map fun n => (a, n)) = best := ⟨_, rfl⟩
      have HN := Aside0.mk (show bestOf G (P0 ++ ((G.out a).take (j + 1)).map fun n => (a, n)) = bestStep G best (a, b) by rw [htk2, List.map_append, ← List.append_assoc, List.map_singleton, bestOf_snoc, hbest])
      rw [hbest] at HR
      have hway := fun W hb => have q := HCELL.out W hb; rway_calls HG.out (some ad) c0 A1 c1 W q.2.1 hc0 q.2.2 hc1 b a
      have hwl := wayG_len HG.out.ok b a
      clear hbe htk2 hbest hC0 hC1
      go_wp2_with fail
      have hBr := Aside0.mk hBn
      have hwayd := hway wr.drew (hBn.trans (below_drew (Below.refl _ _) |>.mono hBn.size))
      clear hway hBn
      go_region_held3 (fun W => W.cell? ⟨g, 0, none⟩ = some (.slice (some ad) G.ns.length c0) ∧ W.cell? ⟨g, 1, none⟩ = some (.slice A1 E.length c1) ∧ W.cell? (ad2.add j) = some (.string b) ∧ W.cell? (ad.add i) = some (.string a)) (first | exact ⟨z0, z1, hcell2, hcell⟩ | exact hk8) (first | (go_at_call 15; refine hwayd.mono ?_; rintro e w8 ⟨v8, rfl, hR8, hB8⟩; have hB8 := (below_drew (Below.refl _ wr)).trans hB8; have hk8 : w8.cell? ⟨g, 0, none⟩ = some (.slice (some ad) G.ns.length c0) ∧ w8.cell? ⟨g, 1, none⟩ = some (.slice A1 E.length c1) ∧ w8.cell? (ad2.add j) = some (.string b) ∧ w8.cell? (ad.add i) = some (.string a) := ⟨(hB8.cell (World.block_lt_of_cell? _ _ z0)).trans z0, (hB8.cell (World.block_lt_of_cell? _ _ z1)).trans z1, (hB8.cell (World.block_lt_of_cell? _ _ hcell2)).trans hcell2, (hB8.cell (World.block_lt_of_cell? _ _ hcell)).trans hcell⟩))
      cases hok : (wayG G b a).2 with
      | false =>
        have HX : Aside0 (Best G w u4 (bestOf G (P0 ++ ((G.out a).take (j + 1)).map fun n => (a, n))) w8 ∧ Below w2.heap.size w2 w8) := ⟨by rw [HN.out, bestStep_no hok]; exact HR.out.1.bel hB8, HR.out.2.trans (hB8.mono HR.out.2.size)⟩
        clear HR hR8 hB8 HN hk8
        go_wp2_with fail
        go_roundg (gk - 1)
        case measure => omega
        case rel => exact ⟨j + 1, by first | rfl | (rw [w64_ (by omega) (by omega)]; rfl) | simp, ⟨by omega⟩, HX⟩
      | true =>
        obtain ⟨m, hbn, han, hd, hw⟩ := wayG_ok hok
        have hWl : (wayG G b a).1.length = m + 1 := by rw [hw, (along_steps m b hd).len]
        obtain ⟨W8, hW8⟩ : ∃ W8, (wayG G b a).1 = W8 := ⟨_, rfl⟩
        have HN2 := Aside0.mk (show bestOf G (P0 ++ ((G.out a).take (j + 1)).map fun n => (a, n)) = better best (a :: W8.dropLast) by rw [HN.out, bestStep_yes hok, hW8])
        rw [hW8] at hR8 hWl hwl
        obtain ⟨A8, c8, rfl, hc8, hC8⟩ := Kd.R_reads hR8
        have hdl : W8.dropLast = W8.take m := by rw [List.dropLast_eq_take, hWl]; rfl
        have hC8' := Kd.C_take (m := m) hC8 (by omega)
        rw [hWl] at hc8 hC8 ⊢
        have HB8 := Aside0.mk hB8
        have hlm : (W8.take m).length = m := by rw [List.length_take]; omega
        have hsl : ∀ W : World, (Instr.slice 23 (.slice A8 (m + 1) c8) none (some (.int .i64 (m : Int))) none).run Try.prog W = .ok (.slice A8 m c8) W := by
          obtain ⟨i0, hi0, hzz⟩ := Option.map_eq_some_iff.1 info9
          simp only [Prod.mk.injEq] at hzz
          have q := (print_take_of (P := Try.prog) Value.string ByteArray.empty 23 9 .i64 Try.underlying23 hi0 hzz.2.1 A8 c8 W8 (m : Int) (by omega) (by omega) (by omega)).1
          rw [hWl, Int.toNat_natCast, hlm] at q
          exact q
        have hwr : IntKind.i64.wrap ((m : Int) + 1 - 1) = (m : Int) ∧ IntKind.i64.wrap (((m + 1 : Nat) : Int) - 1) = (m : Int) ∧ IntKind.i64.wrap (m : Int) = (m : Int) := by rw [IntKind.wrap_i64, IntKind.wrap_i64, IntKind.wrap_i64]; omega
        rw [hlm] at hC8'
        rw [hdl] at HN2
        clear hw hR8 HN hC8 hdl hok hW8
        have HWR := Aside0.mk hwr
        clear hwr
        obtain ⟨C, hCe⟩ : ∃ C, [a] ++ W8.take m = C := ⟨_, rfl⟩
        have HC : Aside0 ([a] ++ W8.take m = C ∧ C.length = m + 1) := ⟨hCe, by rw [← hCe, List.length_append, hlm, List.length_singleton]; omega⟩
        have HN3 := Aside0.mk (show bestOf G (P0 ++ ((G.out a).take (j + 1)).map fun n => (a, n)) = better best C by rw [HN2.out, ← hCe]; rfl)
        have hB8 := HR.out.1.below.trans (HB8.out.mono HR.out.1.below.size)
        have hB82 := HR.out.2.trans (HB8.out.mono HR.out.2.size)
        have HBB := Aside0.mk (And.intro hB8 hB82)
        have hml : m + 1 ≤ 100000 := by omega
        have HML := Aside0.mk hml
        have HMK : ∀ {v : Value} {w9 : World}, Kd.R Kd.string 9 w9 w8.heap.size (fun _ => True) v C ∧ Below w8.heap.size w8 w9 → ∀ nd, Best G w v (some C) (w9.drewN nd) ∧ Below w2.heap.size w2 (w9.drewN nd) := fun {v w9} h nd =>
          ⟨(Best.make HBB.out.1 h.2 h.1 (by have := HC.out.2; omega) (by have := HC.out.2; have := HML.out; omega)).bel (pw_below_drewN (Below.refl _ _) nd), pw_below_drewN (HBB.out.2.trans (h.2.mono HBB.out.2.size)) nd⟩
        replace HMK := Aside0.mk @HMK
        have HC8 := Aside0.mk hC8'
        clear hCe HN2 hlm hC8' hml hB8 hB82 hcell2
        cases best with
        | none =>
          have hv := HR.out.1.none rfl
          subst hv
          clear HR
          go_wp2_with fail
          obtain ⟨hwr, hwr2, hwr3⟩ := HWR.out
          go_region_held3 (fun W => W.cell? ⟨g, 0, none⟩ = some (.slice (some ad) G.ns.length c0) ∧ W.cell? (ad.add i) = some (.string a)) (first | exact ⟨hk8.1, hk8.2.2.2⟩ | exact hk9 | go_keep) (first | (refine lit_rows_event (x := a) (ys := W8.take m) (B := w8.heap.size) (by rfl) (by rfl) (by rfl) (by rfl) (by first | exact alloc_new | exact World.alloc_heap_new _ _) (by first | exact Nat.le_refl _ | (simp; done)) (Kd.C_below HC8.out (by repeat (first | exact Below.refl _ _ | apply below_alloc | apply below_drew))) (by have := HC.out.2; rw [← HC.out.1] at this; simp at this ⊢; omega) ?_; intro adc cc w9 h9 hb9; have hb9 := Below.trans (show Below w8.heap.size w8 _ by repeat (first | exact Below.refl _ _ | apply below_alloc | apply below_drew)) hb9; rw [HC.out.1] at h9 ⊢; have H9 := Aside0.mk (And.intro h9 hb9); have hk9 : w9.cell? ⟨g, 0, none⟩ = some (.slice (some ad) G.ns.length c0) ∧ w9.cell? (ad.add i) = some (.string a) := ⟨(hb9.cell (World.block_lt_of_cell? _ _ hk8.1)).trans hk8.1, (hb9.cell (World.block_lt_of_cell? _ _ hk8.2.2.2)).trans hk8.2.2.2⟩))
          all_goals clear h9 hb9 hk9 hwr hwr2 hwr3
          go_wp2_with fail
          have HX : Aside0 (Best G w (.slice (some adc) C.length cc) (bestOf G (P0 ++ ((G.out a).take (j + 1)).map fun n => (a, n))) w9 ∧ Below w2.heap.size w2 w9) := ⟨by rw [HN3.out]; exact HMK.out H9.out 0⟩
          clear H9 HN3 HMK
          go_roundg (gk - 1)
          case measure => omega
          case rel => exact ⟨j + 1, by first | rfl | (rw [w64_ (by omega) (by omega)]; rfl) | simp, ⟨by omega⟩, HX⟩
        | some bl =>
          obtain ⟨ad4, c4, rfl, hc4, hC4⟩ := HR.out.1.slice
          have hbl := HR.out.1.some bl rfl
          have HBK : ∀ {w9 : World}, Below w8.heap.size w8 w9 → ∀ nd, Best G w (.slice (some ad4) bl.length c4) (some bl) (w9.drewN nd) ∧ Below w2.heap.size w2 (w9.drewN nd) := fun {w9} h nd =>
            ⟨(HR.out.1.bel (HB8.out.trans (h.mono HB8.out.size))).bel (pw_below_drewN (Below.refl _ _) nd), pw_below_drewN (HBB.out.2.trans (h.mono HBB.out.2.size)) nd⟩
          replace HBK := Aside0.mk @HBK
          have HC4 := Aside0.mk (Kd.C_below hC4 HB8.out)
          clear hC4 HR
          rcases Nat.lt_trichotomy C.length bl.length with hlt | heq | hgt
          · have t1 : decide ((C.length : Int) < (bl.length : Int)) = true := decide_eq_true (by omega)
            have t1n : ¬ bl.length ≤ C.length := by omega
            have HN4 : Aside0 (better (some bl) C = some C) := ⟨if_pos (.inl hlt)⟩
            clear hlt
            go_wp2_with fail
            obtain ⟨hwr, hwr2, hwr3⟩ := HWR.out
            go_region_held3 (fun W => W.cell? ⟨g, 0, none⟩ = some (.slice (some ad) G.ns.length c0) ∧ W.cell? (ad.add i) = some (.string a)) (first | exact ⟨hk8.1, hk8.2.2.2⟩ | exact hk9 | go_keep) (first | (refine lit_rows_event (x := a) (ys := W8.take m) (B := w8.heap.size) (by rfl) (by rfl) (by rfl) (by rfl) (by first | exact alloc_new | exact World.alloc_heap_new _ _) (by first | exact Nat.le_refl _ | (simp; done)) (Kd.C_below HC8.out (by repeat (first | exact Below.refl _ _ | apply below_alloc | apply below_drew))) (by have := HC.out.2; rw [← HC.out.1] at this; simp at this ⊢; omega) ?_; intro adc cc w9 h9 hb9; have hb9 := Below.trans (show Below w8.heap.size w8 _ by repeat (first | exact Below.refl _ _ | apply below_alloc | apply below_drew)) hb9; rw [HC.out.1] at h9 ⊢; have H9 := Aside0.mk (And.intro h9 hb9); have hk9 : w9.cell? ⟨g, 0, none⟩ = some (.slice (some ad) G.ns.length c0) ∧ w9.cell? (ad.add i) = some (.string a) := ⟨(hb9.cell (World.block_lt_of_cell? _ _ hk8.1)).trans hk8.1, (hb9.cell (World.block_lt_of_cell? _ _ hk8.2.2.2)).trans hk8.2.2.2⟩))
            all_goals clear h9 hb9 hk9 hwr hwr2 hwr3
            go_wp2_with fail
            have HX : Aside0 (Best G w (.slice (some adc) C.length cc) (bestOf G (P0 ++ ((G.out a).take (j + 1)).map fun n => (a, n))) w9 ∧ Below w2.heap.size w2 w9) := ⟨by rw [HN3.out, HN4.out]; exact HMK.out H9.out 0⟩
            clear H9 HN3 HMK HN4
            go_roundg (gk - 1)
            case measure => omega
            case rel => exact ⟨j + 1, by first | rfl | (rw [w64_ (by omega) (by omega)]; rfl) | simp, ⟨by omega⟩, HX⟩
          · have t1 : decide ((C.length : Int) < (bl.length : Int)) = false := decide_eq_false (by omega)
            have t1n : bl.length ≤ C.length := by omega
            have t2 : ((C.length : Int) == (bl.length : Int)) = true := beq_iff_eq.2 (by omega)
            by_cases hc : cmpL C bl < 0
            · have t3 : decide (cmpL C bl < 0) = true := decide_eq_true hc
              have HN4 : Aside0 (better (some bl) C = some C) := ⟨if_pos (.inr ⟨heq, hc⟩)⟩
              have HLE := Aside0.mk heq
              clear hc heq
              go_wp2_with fail
              obtain ⟨hwr, hwr2, hwr3⟩ := HWR.out
              go_region_held3 (fun W => W.cell? ⟨g, 0, none⟩ = some (.slice (some ad) G.ns.length c0) ∧ W.cell? (ad.add i) = some (.string a)) (first | exact ⟨hk8.1, hk8.2.2.2⟩ | exact hk9 | go_keep) (first | (refine lit_rows_event (x := a) (ys := W8.take m) (B := w8.heap.size) (by rfl) (by rfl) (by rfl) (by rfl) (by first | exact alloc_new | exact World.alloc_heap_new _ _) (by first | exact Nat.le_refl _ | (simp; done)) (Kd.C_below HC8.out (by repeat (first | exact Below.refl _ _ | apply below_alloc | apply below_drew))) (by have := HC.out.2; rw [← HC.out.1] at this; simp at this ⊢; omega) ?_; intro adc cc w9 h9 hb9; have hb9 := Below.trans (show Below w8.heap.size w8 _ by repeat (first | exact Below.refl _ _ | apply below_alloc | apply below_drew)) hb9; rw [HC.out.1] at h9 ⊢; have H9 := Aside0.mk (And.intro h9 hb9); have hk9 : w9.cell? ⟨g, 0, none⟩ = some (.slice (some ad) G.ns.length c0) ∧ w9.cell? (ad.add i) = some (.string a) := ⟨(hb9.cell (World.block_lt_of_cell? _ _ hk8.1)).trans hk8.1, (hb9.cell (World.block_lt_of_cell? _ _ hk8.2.2.2)).trans hk8.2.2.2⟩))
              all_goals clear h9 hb9 hk9 hwr hwr2 hwr3
              go_wp2_with fail
              have hcmp := rless_calls (some adc) cc C (some ad4) c4 bl w9 (Kd.R_reads' H9.out.1).2.2 (Kd.R_reads' H9.out.1).2.1 (Kd.C_below HC4.out H9.out.2) hc4 (by have := HC.out.2; omega) (by omega)
              refine hcmp.mono ?_
              rintro e w10 ⟨rfl, ⟨nd, rfl⟩⟩
              have HX : Aside0 (Best G w (.slice (some adc) C.length cc) (bestOf G (P0 ++ ((G.out a).take (j + 1)).map fun n => (a, n))) (w9.drewN nd) ∧ Below w2.heap.size w2 (w9.drewN nd)) := ⟨by rw [HN3.out, HN4.out]; exact HMK.out H9.out nd⟩
              clear H9 HN3 HMK HN4 hcmp
              go_wp2_with fail
              go_roundg (gk - 1)
              case measure => omega
              case rel => exact ⟨j + 1, by first | rfl | (rw [w64_ (by omega) (by omega)]; rfl) | simp, ⟨by omega⟩, HX⟩
            · have t3 : decide (cmpL C bl < 0) = false := decide_eq_false hc
              have HN4 : Aside0 (better (some bl) C = some bl) := ⟨if_neg (fun h => h.elim (fun h => by omega) (fun h => hc h.2))⟩
              have HLE := Aside0.mk heq
              clear hc heq
              go_wp2_with fail
              obtain ⟨hwr, hwr2, hwr3⟩ := HWR.out
              go_region_held3 (fun W => W.cell? ⟨g, 0, none⟩ = some (.slice (some ad) G.ns.length c0) ∧ W.cell? (ad.add i) = some (.string a)) (first | exact ⟨hk8.1, hk8.2.2.2⟩ | exact hk9 | go_keep) (first | (refine lit_rows_event (x := a) (ys := W8.take m) (B := w8.heap.size) (by rfl) (by rfl) (by rfl) (by rfl) (by first | exact alloc_new | exact World.alloc_heap_new _ _) (by first | exact Nat.le_refl _ | (simp; done)) (Kd.C_below HC8.out (by repeat (first | exact Below.refl _ _ | apply below_alloc | apply below_drew))) (by have := HC.out.2; rw [← HC.out.1] at this; simp at this ⊢; omega) ?_; intro adc cc w9 h9 hb9; have hb9 := Below.trans (show Below w8.heap.size w8 _ by repeat (first | exact Below.refl _ _ | apply below_alloc | apply below_drew)) hb9; rw [HC.out.1] at h9 ⊢; have H9 := Aside0.mk (And.intro h9 hb9); have hk9 : w9.cell? ⟨g, 0, none⟩ = some (.slice (some ad) G.ns.length c0) ∧ w9.cell? (ad.add i) = some (.string a) := ⟨(hb9.cell (World.block_lt_of_cell? _ _ hk8.1)).trans hk8.1, (hb9.cell (World.block_lt_of_cell? _ _ hk8.2.2.2)).trans hk8.2.2.2⟩))
              all_goals clear h9 hb9 hk9 hwr hwr2 hwr3
              go_wp2_with fail
              have hcmp := rless_calls (some adc) cc C (some ad4) c4 bl w9 (Kd.R_reads' H9.out.1).2.2 (Kd.R_reads' H9.out.1).2.1 (Kd.C_below HC4.out H9.out.2) hc4 (by have := HC.out.2; omega) (by omega)
              refine hcmp.mono ?_
              rintro e w10 ⟨rfl, ⟨nd, rfl⟩⟩
              have HX : Aside0 (Best G w (.slice (some ad4) bl.length c4) (bestOf G (P0 ++ ((G.out a).take (j + 1)).map fun n => (a, n))) (w9.drewN nd) ∧ Below w2.heap.size w2 (w9.drewN nd)) := ⟨by rw [HN3.out, HN4.out]; exact HBK.out H9.out.2 nd⟩
              clear H9 HN3 HMK HN4 hcmp
              go_wp2_with fail
              go_roundg (gk - 1)
              case measure => omega
              case rel => exact ⟨j + 1, by first | rfl | (rw [w64_ (by omega) (by omega)]; rfl) | simp, ⟨by omega⟩, HX⟩
          · have t1 : decide ((C.length : Int) < (bl.length : Int)) = false := decide_eq_false (by omega)
            have t1n : bl.length ≤ C.length := by omega
            have t2 : ((C.length : Int) == (bl.length : Int)) = false := beq_eq_false_iff_ne.2 (by omega)
            have HN4 : Aside0 (better (some bl) C = some bl) := ⟨if_neg (fun h => h.elim (fun h => by omega) (fun h => by have := h.1; omega))⟩
            clear hgt
            go_wp2_with fail
            obtain ⟨hwr, hwr2, hwr3⟩ := HWR.out
            go_region_held3 (fun W => W.cell? ⟨g, 0, none⟩ = some (.slice (some ad) G.ns.length c0) ∧ W.cell? (ad.add i) = some (.string a)) (first | exact ⟨hk8.1, hk8.2.2.2⟩ | exact hk9 | go_keep) (first | (refine lit_rows_event (x := a) (ys := W8.take m) (B := w8.heap.size) (by rfl) (by rfl) (by rfl) (by rfl) (by first | exact alloc_new | exact World.alloc_heap_new _ _) (by first | exact Nat.le_refl _ | (simp; done)) (Kd.C_below HC8.out (by repeat (first | exact Below.refl _ _ | apply below_alloc | apply below_drew))) (by have := HC.out.2; rw [← HC.out.1] at this; simp at this ⊢; omega) ?_; intro adc cc w9 h9 hb9; have hb9 := Below.trans (show Below w8.heap.size w8 _ by repeat (first | exact Below.refl _ _ | apply below_alloc | apply below_drew)) hb9; rw [HC.out.1] at h9 ⊢; have H9 := Aside0.mk (And.intro h9 hb9); have hk9 : w9.cell? ⟨g, 0, none⟩ = some (.slice (some ad) G.ns.length c0) ∧ w9.cell? (ad.add i) = some (.string a) := ⟨(hb9.cell (World.block_lt_of_cell? _ _ hk8.1)).trans hk8.1, (hb9.cell (World.block_lt_of_cell? _ _ hk8.2.2.2)).trans hk8.2.2.2⟩))
            all_goals clear h9 hb9 hk9 hwr hwr2 hwr3
            go_wp2_with fail
            have HX : Aside0 (Best G w (.slice (some ad4) bl.length c4) (bestOf G (P0 ++ ((G.out a).take (j + 1)).map fun n => (a, n))) w9 ∧ Below w2.heap.size w2 w9) := ⟨by rw [HN3.out, HN4.out]; exact HBK.out H9.out.2 0⟩
            clear H9 HN3 HMK HN4
            go_roundg (gk - 1)
            case measure => omega
            case rel => exact ⟨j + 1, by first | rfl | (rw [w64_ (by omega) (by omega)]; rfl) | simp, ⟨by omega⟩, HX⟩
end
end Go.Proofs.Ytmhbdgnajlnhnaa.P
