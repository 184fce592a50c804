/- GraphTells: the law's walk. -/
import Derived.Test.YtmhbdgnajlnhnaaGTells
import Derived.Test.YtmhbdgnajlnhnaaGROf
import Derived.Test.YtmhbdgnajlnhnaaGRTurnG
import Derived.Test.YtmhbdgnajlnhnaaGROut
import Derived.Test.YtmhbdgnajlnhnaaGRBel
import Derived.Deep.RegionHeld3
namespace Go.Proofs.Ytmhbdgnajlnhnaa.P
open Go.RowKit Go.Maps Go.MapKept Go.ChangeMaps Go.Proofs.YtmhbdgnajlnhnaaW.PrintWords Go.Proofs.YtmhbdgnajlnhnaaW.PrintLast Go.Proofs.YtmhbdgnajlnhnaaW.PrintMore Go.Proofs.Ytmhbdgnajlnhnaa.Pl
set_option linter.unusedVariables false
set_option linter.unusedSimpArgs false
set_option maxRecDepth 1000000 in
set_option maxHeartbeats 4000000 in
theorem tells_walk (A0 : Option Addr) (c0 : Nat) (E : List S45) (A1 : Option Addr) (c1 : Nat) (names : List ByteArray) (name : ByteArray) (w : World) (h0 : Kd.C k45 w A0 E.length E) (hc0 : E.length ≤ c0) (hE : ∀ e, e ∈ E → e.f0.size ≤ maxLen ∧ e.f1.size ≤ maxLen) (h1 : Kd.C Kd.string w A1 names.length names) (hc1 : names.length ≤ c1) (hn : ∀ s, s ∈ names → s.size ≤ maxLen) (zname : name.size ≤ maxLen) :
    Calls Try.prog 5 #[.slice A0 E.length c0, .slice A1 names.length c1, .string name] w fun e w' => e = .returned (.bool true) ∧ Below w.heap.size w w' := by
  have hwk := works_calls w
  have hu29 := Try.underlying29
  have HC := Aside0.mk (And.intro h0 h1)
  have HS := Aside0.mk (And.intro hE hn)
  clear h0 h1 hE hn
  go_enter Try.func5, Try.ntmps5
  go_wp2_with fail
  refine hwk.mono ?_
  rintro e w1 ⟨rfl, hB1⟩
  clear hwk
  have hlg := long_calls A0 c0 E A1 c1 names (Kd.C_below HC.out.1 hB1) hc0 (Kd.C_below HC.out.2 hB1) hc1
  by_cases hl : E.length > 40 ∨ names.length > 20
  · rw [decide_eq_true hl] at hlg
    clear hl
    go_wp2_with fail
    refine hlg.mono ?_
    rintro e w2 ⟨rfl, ⟨n2, rfl⟩⟩
    clear hlg
    go_wp2_with fail
    go_ret
    exact ⟨rfl, pw_below_drewN hB1 n2⟩
  rw [decide_eq_false hl] at hlg
  have d2 : E.length ≤ 40 := by omega
  have hnl : names.length ≤ 20 := by omega
  go_wp2_with fail
  refine hlg.mono ?_
  rintro e w2 ⟨rfl, ⟨n2, rfl⟩⟩
  clear hlg
  have hB2 : Below w.heap.size w (w1.drewN n2) := pw_below_drewN hB1 n2
  obtain ⟨wp, hwp⟩ : ∃ wp, w1.drewN n2 = wp := ⟨_, rfl⟩
  rw [hwp] at hB2
  have hmd := made_calls (w := wp) A0 c0 E A1 c1 names (Kd.C_below HC.out.1 hB2) (Kd.C_below HC.out.2 hB2) HS.out.1 HS.out.2 (by omega) (by omega)
  have HB2 := Aside0.mk hB2
  try rw [hwp]
  clear hl hB1 hB2
  go_wp2_with fail
  refine hmd.mono ?_
  rintro e w3 ⟨q, rfl, r3, hM3, hB3⟩
  clear hmd
  have hB13 := HB2.out.trans (hB3.mono HB2.out.size)
  have hof := of_calls A0 c0 E A1 c1 names (Kd.C_below HC.out.1 hB13) hc0 (Kd.C_below HC.out.2 hB13) hc1 (by omega) (by omega)
  have hGok := madeG_ok HS.out.1 HS.out.2
  have hGl := madeG_len E names
  rw [names_made hGok (mem_madeG_ns E names), ofE_edges hGok (mem_madeG_out E names)] at hof
  have HIN := Aside0.mk (fun (e : S45) (he : e ∈ E) => (mem_madeG_out E names e.f0 e.f1).2 he)
  obtain ⟨G, hG⟩ : ∃ G, madeG E names = G := ⟨_, rfl⟩
  rw [hG] at hM3 hof hGok hGl HIN
  have HM3 := Aside0.mk (And.intro hM3 (And.intro hB13 hGok))
  clear hG hM3 hB3 hB13 hGok hwp
  go_wp2_with fail
  refine hof.mono ?_
  rintro e w4 ⟨v0, v1, rfl, hR0, hR1, hB4⟩
  clear hof
  obtain ⟨B0, d0, rfl, hd0, hK0⟩ := Kd.R_reads hR0
  obtain ⟨B1, d1', rfl, hd1, hK1⟩ := Kd.R_reads hR1
  obtain ⟨wb, hwb⟩ : ∃ wb : World, w4.alloc (Obj.cells #[.slice B0 G.ns.length d0, .slice B1 (edgesOf G G.ns).length d1'] 29) = wb := ⟨_, rfl⟩
  have hgn : wb.heap[w4.heap.size]? = some (.cells #[.slice B0 G.ns.length d0, .slice B1 (edgesOf G G.ns).length d1'] 29 (0, 0)) := by rw [← hwb]; exact alloc_new
  have hb4 : Below w4.heap.size w4 wb := by rw [← hwb]; exact below_alloc (Below.refl _ w4) _
  obtain ⟨g, hg⟩ : ∃ g, w4.heap.size = g := ⟨_, rfl⟩
  have hrg := rg_edges (G := G) HM3.out.2.2 (by omega)
  have HT : Aside0 (TwoG wb wp.heap.size r3 q g G B0 d0 B1 d1') := ⟨fun W hb => by
    have e := blk_below hgn hb
    rw [hg] at e
    have h34 : Below w3.heap.size w3 wb := hB4.trans (hb4.mono hB4.size)
    exact ⟨HM3.out.1.below (h34.trans (hb.mono h34.size)), ⟨by rw [blk_cell' e]; rfl, by rw [blk_cell' e]; rfl⟩, Kd.C_below hK0 (hb4.trans (hb.mono hb4.size)), Kd.C_below hK1 (hb4.trans (hb.mono hb4.size))⟩⟩
  have HBW : Aside0 (Below w.heap.size w wb) := ⟨HM3.out.2.1.trans ((hB4.trans (hb4.mono hB4.size)).mono HM3.out.2.1.size)⟩
  have HTT : Aside0 (TwoT wb r3 g G B0 d0 B1 d1') := ⟨fun W hT => by
    have hlt := blk_lt hgn
    have e := (hT.block w4.heap.size hlt (fun hk => by have := (HM3.out.1.bound _ hk).2; have := hB4.size; omega)).trans hgn
    rw [hg] at e
    exact ⟨⟨by rw [blk_cell' e]; rfl, by rw [blk_cell' e]; rfl⟩, own_left (fun h => h) hR0 hb4 (fun k hk => (HM3.out.1.bound k hk).2) W hT, own_left (fun h => by rw [k45_open h]; exact k45_mk _ _) hR1 hb4 (fun k hk => (HM3.out.1.bound k hk).2) W hT⟩⟩
  have HDID : Aside0 (GDid wb wp.heap.size r3 q G wb) := ⟨GDid.refl (HT.out wb (Below.refl _ _)).1⟩
  have HLOW : Aside0 (∀ W, Turn (fun k => r3 k ≠ .none) wb W → Below w.heap.size w W) := ⟨fun W hT => turn_low HBW.out HB2.out.size (by have := hB4.size; have := hb4.size; have := (HM3.out.1.bound q (by rw [HM3.out.1.self]; simp)); omega) (fun k hk => (HM3.out.1.bound k hk).1) hT⟩
  have HG := Aside0.mk HM3.out.2.2
  have HRG := Aside0.mk hrg
  have hnsl : G.ns.length ≤ 1000 := by omega
  clear hR0 hR1 hB4 hK0 hK1 hgn hb4 hrg HM3 hGl
  have hel : E.length ≤ 40 := by omega
  go_wp2_with fail
  try rw [hg]
  clear hwb hg
  go_loopg [28] (E.length + 1) (fun n iv wr => ∃ i : Nat, iv = .int .i64 (i : Int) ∧ Aside0 (i + n = E.length + 1) ∧ Aside0 (GDid wb wp.heap.size r3 q G wr))
  case atStart => exact ⟨0, rfl, ⟨by omega⟩, HDID⟩
  case round =>
    obtain ⟨i, rfl, ⟨hn⟩, HD⟩ := hrel
    clear HDID
    by_cases c1 : i < E.length
    case pos =>
      have c1b : decide ((i : Int) < (E.length : Int)) = true := decide_eq_true (by omega)
      have hlow := HLOW.out wr (by obtain ⟨_, _, _, h⟩ := HD.out; exact h)
      obtain ⟨ad, rfl, hc0', hc1'⟩ := at_T45 (Kd.C_below HC.out.1 hlow) (i : Int) (Int.natCast_nonneg _) (by omega)
      rw [Int.toNat_natCast] at hc0' hc1'
      have hx : rd_T45 E (i : Int) = E[i] := by
        unfold rd_T45; rw [Int.toNat_natCast, List.getD_eq_getElem?_getD, List.getElem?_eq_getElem c1]; rfl
      rw [hx] at hc0' hc1'
      have hxs := HS.out.1 _ (List.getElem_mem c1)
      have hxi := HIN.out _ (List.getElem_mem c1)
      obtain ⟨x, hxe⟩ : ∃ x, E[i] = x := ⟨_, rfl⟩
      rw [hxe] at hc0' hc1' hxs hxi
      clear hx hxe
      obtain ⟨W, hW⟩ : ∃ W, wr.alloc (.cells #[.string x.f0, .string x.f1] 45) = W := ⟨_, rfl⟩
      have hbel : Below wr.heap.size wr W := by rw [← hW]; exact (Below.refl _ wr).alloc (Nat.le_refl _) _
      have z0 : W.cell? ⟨wr.heap.size, 0, none⟩ = some (.string x.f0) := by rw [← hW, blk_cell' alloc_new]; rfl
      have z1 : W.cell? ⟨wr.heap.size, 1, none⟩ = some (.string x.f1) := by rw [← hW, blk_cell' alloc_new]; rfl
      have hlk : Calls Try.prog 25 #[.pointer (some ⟨q, 0, none⟩), .string x.f0, .string x.f1] W fun e w' => e = .returned (.int .i64 0) ∧ GDid wb wp.heap.size r3 q G w' := by
        obtain ⟨r', hM, hr, hT⟩ := HD.out
        refine (link_calls (hM.below hbel) x.f0 x.f1 hxs.1 hxs.2 (by omega)).mono ?_
        rintro e w2 ⟨rfl, hd⟩
        rw [linkG_same HG.out hxi] at hd
        exact ⟨rfl, GDid.trans hr (hT.trans (Turn.of_below (ok := fun k => r3 k ≠ .none) hbel) (fun k hk => .inl hk)) hd⟩
      clear hbel HD hlow hxs hxi
      go_wp2_with fail
      refine hlk.mono ?_
      rintro e w2 ⟨rfl, hD⟩
      have HD := Aside0.mk hD
      clear hD hlk
      go_wp2_with fail
      go_roundg (gk - 1)
      case measure => omega
      case rel => exact ⟨i + 1, by first | rfl | (rw [w64_ (by omega) (by omega)]; rfl) | simp, ⟨by omega⟩, HD⟩
    have c1b : decide ((i : Int) < (E.length : Int)) = false := decide_eq_false (by omega)
    obtain ⟨r', hM, hr, hT⟩ := HD.out
    have HL2 : Aside0 (∀ W, Below wr.heap.size wr W → GMem W wp.heap.size r' q G ∧ ((W.cell? ⟨g, 0, none⟩ = some (.slice B0 G.ns.length d0) ∧ W.cell? ⟨g, 1, none⟩ = some (.slice B1 (edgesOf G G.ns).length d1')) ∧ Kd.C Kd.string W B0 G.ns.length G.ns ∧ Kd.C k45 W B1 (edgesOf G G.ns).length (edgesOf G G.ns)) ∧ Below w.heap.size w W) := ⟨fun W hb => by
      have hT2 : Turn (fun k => r3 k ≠ .none) wb W := hT.trans (Turn.of_below (ok := fun k => r3 k ≠ .none) hb) (fun k hk => .inl hk)
      exact ⟨hM.below hb, HTT.out W hT2, HLOW.out W hT2⟩⟩
    have htu := turn_calls hM hnsl
    clear HD hM hr hT HTT HLOW HT
    go_wp2_with fail
    refine htu.mono ?_
    rintro e w5 ⟨q5, rfl, r5, hM5, hB5⟩
    clear htu
    have hHZ : Aside0 (∀ W, Below w5.heap.size w5 W → (W.cell? ⟨g, 0, none⟩ = some (.slice B0 G.ns.length d0) ∧ W.cell? ⟨g, 1, none⟩ = some (.slice B1 (edgesOf G G.ns).length d1')) ∧ GMem W wp.heap.size r' q G ∧ GMem W wr.heap.size r5 q5 (turnG G) ∧ Kd.C Kd.string W B0 G.ns.length G.ns ∧ Kd.C k45 W B1 (edgesOf G G.ns).length (edgesOf G G.ns) ∧ Below w.heap.size w W) := ⟨fun W hb => by
      obtain ⟨p1, ⟨p2, p3, p4⟩, p5⟩ := HL2.out W (hB5.trans (hb.mono hB5.size))
      exact ⟨p2, p1, hM5.below hb, p3, p4, p5⟩⟩
    have hRT := fun (W : World) (x0 : Kd.C Kd.string W B0 G.ns.length G.ns) (x1 : Kd.C k45 W B1 (edgesOf G G.ns).length (edgesOf G G.ns)) => rturn_callsG HG.out hnsl B0 d0 B1 d1' W x0 hd0 x1 hd1
    have hro := fun (W : World) (x0 : Kd.C Kd.string W B0 G.ns.length G.ns) (x1 : Kd.C k45 W B1 (edgesOf G G.ns).length (edgesOf G G.ns)) => rout_calls HRG.out B0 d0 B1 d1' W x0 hd0 x1 hd1 name
    have htn : (turnG G).ns.length ≤ 1000 := by rw [turnG_ns HG.out]; omega
    have hrt := rg_edges (turnG_ok HG.out) htn
    have hro2 := fun (W : World) AT0 cT0 AT1 cT1 (x0 : Kd.C Kd.string W AT0 (turnG G).ns.length (turnG G).ns) (y0 : (turnG G).ns.length ≤ cT0) (x1 : Kd.C k45 W AT1 (edgesOf (turnG G) (turnG G).ns).length (edgesOf (turnG G) (turnG G).ns)) (y1 : (edgesOf (turnG G) (turnG G).ns).length ≤ cT1) => rout_calls hrt AT0 cT0 AT1 cT1 W x0 y0 x1 y1 name
    have hou := fun (W : World) (hm : GMem W wp.heap.size r' q G) => out_calls hm name zname
    have hiu := fun (W : World) (hm : GMem W wp.heap.size r' q G) => in_calls hm name zname
    have hlo := out_len (hHZ.out w5 (Below.refl _ _)).2.1 name
    have hli := inn_len (hHZ.out w5 (Below.refl _ _)).2.1 name
    have hto := turnG_out HG.out name
    simp only [hto] at hro2
    obtain ⟨LO, hLO⟩ : ∃ LO, G.out name = LO := ⟨_, rfl⟩
    obtain ⟨LI, hLI⟩ : ∃ LI, G.inn name = LI := ⟨_, rfl⟩
    simp only [hLO] at hro hou hlo
    simp only [hLI] at hro2 hiu hli
    have HOU := Aside0.mk hou
    have HIU := Aside0.mk hiu
    clear hLO hLI hto hrt htn hou hiu
    have hTN := turnG_ns HG.out
    have hEg := Nat.le_trans (edgesOf_len HG.out G.ns) (Nat.mul_le_mul hnsl hnsl)
    have hEl := Nat.le_trans (edgesOf_len (turnG_ok HG.out) (turnG G).ns) (by rw [hTN]; exact Nat.mul_le_mul hnsl hnsl)
    obtain ⟨ET, hET⟩ : ∃ ET, edgesOf (turnG G) G.ns = ET := ⟨_, rfl⟩
    obtain ⟨EG, hEG⟩ : ∃ EG, edgesOf G G.ns = EG := ⟨_, rfl⟩
    simp only [hTN, hET] at hRT hro2
    rw [hTN, hET] at hEl
    simp only [hEG] at hRT hro hd1 hHZ hEg ⊢
    have HZ := hHZ
    have HRT := Aside0.mk hRT
    have HRO := Aside0.mk hro
    have HRO2 := Aside0.mk hro2
    have HEG := Aside0.mk hEG
    clear hro hro2 HRG
    have HET := Aside0.mk hET
    have HTN := Aside0.mk hTN
    clear hRT hET hEG hTN hHZ hM5 hB5 HL2
    obtain ⟨z0, z1⟩ := (HZ.out w5 (Below.refl _ _)).1
    have hfd := run_field29
    have hbk : Below w5.heap.size w5 w5 := Below.refl _ _
    go_wp2_with fail
    go_region_held3 (fun W => W.cell? ⟨g, 0, none⟩ = some (.slice B0 G.ns.length d0) ∧ W.cell? ⟨g, 1, none⟩ = some (.slice B1 EG.length d1')) (exact (HZ.out _ (by repeat (first | assumption | apply below_drew | apply pw_below_drewN))).1) (first
      | (go_at_call 22; refine (names_calls (HZ.out _ (by repeat (first | assumption | apply below_drew | apply pw_below_drewN))).2.2.1).mono ?_; rintro e wN ⟨vN, rfl, hRN, _, hBN⟩; obtain ⟨AN, cN, rfl, hcN, hKN⟩ := Kd.R_reads hRN; rw [HTN.out] at hcN hKN ⊢; have hbk := Below.trans (show Below w5.heap.size w5 _ by repeat (first | assumption | apply below_drew | apply pw_below_drewN)) (hBN.mono (show Below w5.heap.size w5 _ by repeat (first | assumption | apply below_drew | apply pw_below_drewN)).size))
      | (go_at_call 16; refine (equalS_calls AN cN B0 d0 G.ns (Kd.C_below hKN (by repeat (first | exact Below.refl _ _ | apply below_drew | apply pw_below_drewN))) hcN (HZ.out _ (by repeat (first | assumption | apply below_drew | apply pw_below_drewN))).2.2.2.1 hd0 (by omega)).mono ?_; rintro e wE ⟨rfl, ⟨nE, rfl⟩⟩)
      | (go_at_call 28; refine (edges_calls (HZ.out _ (by repeat (first | assumption | apply below_drew | apply pw_below_drewN))).2.2.1).mono ?_; rintro e wU ⟨vU, rfl, hRU, hBU⟩; rw [HTN.out, HET.out] at hRU; obtain ⟨AU, cU, rfl, hcU, hKU⟩ := Kd.R_reads hRU; have hbk := Below.trans (show Below w5.heap.size w5 _ by repeat (first | assumption | apply below_drew | apply pw_below_drewN)) (hBU.mono (show Below w5.heap.size w5 _ by repeat (first | assumption | apply below_drew | apply pw_below_drewN)).size))
      | (go_at_call 21; refine (HRT.out _ (HZ.out _ (by repeat (first | assumption | apply below_drew | apply pw_below_drewN))).2.2.2.1 (HZ.out _ (by repeat (first | assumption | apply below_drew | apply pw_below_drewN))).2.2.2.2.1).mono ?_; rintro e wT ⟨vT0, vT1, rfl, hRT0, hRT1, hBT⟩; obtain ⟨AT0, cT0, rfl, hcT0, hKT0⟩ := Kd.R_reads hRT0; obtain ⟨AT1, cT1, rfl, hcT1, hKT1⟩ := Kd.R_reads hRT1; have hKU2 := Kd.C_below hKU (Below.trans (show Below wU.heap.size wU _ by repeat (first | exact Below.refl _ _ | apply below_drew | apply pw_below_drewN)) hBT); have hbk := Below.trans (show Below w5.heap.size w5 _ by repeat (first | assumption | apply below_drew | apply pw_below_drewN)) (hBT.mono (show Below w5.heap.size w5 _ by repeat (first | assumption | apply below_drew | apply pw_below_drewN)).size))
      | (go_at_call 27; refine (equalE_calls AU cU AT1 cT1 ET (Kd.C_below hKU2 (by repeat (first | exact Below.refl _ _ | apply below_drew | apply pw_below_drewN))) hcU (Kd.C_below hKT1 (by repeat (first | exact Below.refl _ _ | apply below_drew | apply pw_below_drewN))) hcT1 (by omega)).mono ?_; rintro e wF ⟨rfl, ⟨nF, rfl⟩⟩))
    all_goals go_wp2_with fail
    obtain ⟨w6, hw6⟩ : ∃ w6, wT.drewN nF = w6 := ⟨_, rfl⟩
    have HB6 : Aside0 (Below w5.heap.size w5 w6) := ⟨by rw [← hw6]; exact pw_below_drewN hbk nF⟩
    rw [hw6]
    have hnl := names_calls (HZ.out w6 HB6.out).2.1
    refine hnl.mono ?_
    rintro e w7 ⟨v7, rfl, hR7, hz7, hB7⟩
    clear hnl
    obtain ⟨A7, c7, rfl, hc7, hK7⟩ := Kd.R_reads hR7
    obtain ⟨w8, hclr, hB8⟩ := clear_own hR7 hz7 (HB6.out.trans (hB7.mono HB6.out.size)) HB6.out.size
    have HY : Aside0 (∀ W, Below w8.heap.size w8 W → (W.cell? ⟨g, 0, none⟩ = some (.slice B0 G.ns.length d0) ∧ W.cell? ⟨g, 1, none⟩ = some (.slice B1 EG.length d1')) ∧ GMem W wp.heap.size r' q G ∧ Kd.C Kd.string W B0 G.ns.length G.ns ∧ Kd.C k45 W B1 EG.length EG ∧ Below w.heap.size w W) := ⟨fun W hb => by
      obtain ⟨p1, p2, p3, p4, p5, p6⟩ := HZ.out W (hB8.trans (hb.mono hB8.size))
      exact ⟨p1, p2, p4, p5, p6⟩⟩
    clear hw6 HB6 hR7 hz7 hB7 hK7 hB8 HZ hbk hBT hKT0 hKT1 hKU2 hKU hBU hKN hBN hRN hRU hRT0 hRT1
    go_wp2_with fail
    clear hclr
    obtain ⟨y0, y1⟩ := (HY.out w8 (Below.refl _ _)).1
    have hbk : Below w8.heap.size w8 w8 := Below.refl _ _
    have hbbx : (hasB G.ns name == hasB G.ns name) = true := beq_self_eq_true _
    go_region_held3 (fun W => W.cell? ⟨g, 0, none⟩ = some (.slice B0 G.ns.length d0) ∧ W.cell? ⟨g, 1, none⟩ = some (.slice B1 EG.length d1')) (exact (HY.out _ (by repeat (first | assumption | apply below_drew | apply pw_below_drewN))).1) (first
      | (have q_ := hKP9; clear q_; go_at_call 16; refine (equalS_calls AI9 cI9 AP9 cP9 LI (Kd.C_below hKI93 (by repeat (first | exact Below.refl _ _ | apply below_drew | apply pw_below_drewN))) hcI9 (Kd.C_below hKP9 (by repeat (first | exact Below.refl _ _ | apply below_drew | apply pw_below_drewN))) hcP9 (by omega)).mono ?_; rintro e wL ⟨rfl, ⟨nL, rfl⟩⟩)
      | (have q_ := hKQ9; clear q_; go_at_call 16; refine (equalS_calls AO9 cO9 AQ9 cQ9 LO (Kd.C_below hKO92 (by repeat (first | exact Below.refl _ _ | apply below_drew | apply pw_below_drewN))) hcO9 (Kd.C_below hKQ9 (by repeat (first | exact Below.refl _ _ | apply below_drew | apply pw_below_drewN))) hcQ9 (by omega)).mono ?_; rintro e wK ⟨rfl, ⟨nK, rfl⟩⟩)
      | (go_at_call 16; refine (equalS_calls AN9 cN9 B0 d0 G.ns (Kd.C_below hKN9 (by repeat (first | exact Below.refl _ _ | apply below_drew | apply pw_below_drewN))) hcN9 (HY.out _ (by repeat (first | assumption | apply below_drew | apply pw_below_drewN))).2.2.1 hd0 (by omega)).mono ?_; rintro e wE9 ⟨rfl, ⟨nE9, rfl⟩⟩)
      | (go_at_call 22; refine (names_calls (HY.out _ (by repeat (first | assumption | apply below_drew | apply pw_below_drewN))).2.1).mono ?_; rintro e wN9 ⟨vN9, rfl, hRN9, _, hBN9⟩; obtain ⟨AN9, cN9, rfl, hcN9, hKN9⟩ := Kd.R_reads hRN9; have hbk := Below.trans (show Below w8.heap.size w8 _ by repeat (first | assumption | apply below_drew | apply pw_below_drewN)) (hBN9.mono (show Below w8.heap.size w8 _ by repeat (first | assumption | apply below_drew | apply pw_below_drewN)).size))
      | (go_at_call 28; refine (edges_calls (HY.out _ (by repeat (first | assumption | apply below_drew | apply pw_below_drewN))).2.1).mono ?_; rintro e wU9 ⟨vU9, rfl, hRU9, hBU9⟩; rw [HEG.out] at hRU9; obtain ⟨AU9, cU9, rfl, hcU9, hKU9⟩ := Kd.R_reads hRU9; have hbk := Below.trans (show Below w8.heap.size w8 _ by repeat (first | assumption | apply below_drew | apply pw_below_drewN)) (hBU9.mono (show Below w8.heap.size w8 _ by repeat (first | assumption | apply below_drew | apply pw_below_drewN)).size))
      | (go_at_call 27; refine (equalE_calls AU9 cU9 B1 d1' EG (Kd.C_below hKU9 (by repeat (first | exact Below.refl _ _ | apply below_drew | apply pw_below_drewN))) hcU9 (HY.out _ (by repeat (first | assumption | apply below_drew | apply pw_below_drewN))).2.2.2.1 hd1 (by omega)).mono ?_; rintro e wF9 ⟨rfl, ⟨nF9, rfl⟩⟩)
      | (go_at_call 29; refine (has_calls (HY.out _ (by repeat (first | assumption | apply below_drew | apply pw_below_drewN))).2.1 name zname).mono ?_; rintro e wH9 ⟨rfl, rfl⟩)
      | (go_at_call 23; refine (contains_calls B0 d0 G.ns name (HY.out _ (by repeat (first | assumption | apply below_drew | apply pw_below_drewN))).2.2.1 hd0 (by omega)).mono ?_; rintro e wC9 ⟨rfl, ⟨nC9, rfl⟩⟩)
      | (go_at_call 24; refine (HOU.out _ (HY.out _ (by repeat (first | assumption | apply below_drew | apply pw_below_drewN))).2.1).mono ?_; rintro e wO9 ⟨vO9, rfl, hRO9, _, hBO9⟩; obtain ⟨AO9, cO9, rfl, hcO9, hKO9⟩ := Kd.R_reads hRO9; have hbk := Below.trans (show Below w8.heap.size w8 _ by repeat (first | assumption | apply below_drew | apply pw_below_drewN)) (hBO9.mono (show Below w8.heap.size w8 _ by repeat (first | assumption | apply below_drew | apply pw_below_drewN)).size))
      | (go_at_call 31; refine (HIU.out _ (HY.out _ (by repeat (first | assumption | apply below_drew | apply pw_below_drewN))).2.1).mono ?_; rintro e wI9 ⟨vI9, rfl, hRI9, _, hBI9⟩; obtain ⟨AI9, cI9, rfl, hcI9, hKI9⟩ := Kd.R_reads hRI9; have hbk := Below.trans (show Below w8.heap.size w8 _ by repeat (first | assumption | apply below_drew | apply pw_below_drewN)) (hBI9.mono (show Below w8.heap.size w8 _ by repeat (first | assumption | apply below_drew | apply pw_below_drewN)).size))
      | (go_at_call 21; refine (HRT.out _ (HY.out _ (by repeat (first | assumption | apply below_drew | apply pw_below_drewN))).2.2.1 (HY.out _ (by repeat (first | assumption | apply below_drew | apply pw_below_drewN))).2.2.2.1).mono ?_; rintro e wT9 ⟨vT90, vT91, rfl, hRT90, hRT91, hBT9⟩; obtain ⟨AT90, cT90, rfl, hcT90, hKT90⟩ := Kd.R_reads hRT90; obtain ⟨AT91, cT91, rfl, hcT91, hKT91⟩ := Kd.R_reads hRT91; have hKI92 := Kd.C_below hKI9 (Below.trans (show Below wI9.heap.size wI9 _ by repeat (first | exact Below.refl _ _ | apply below_drew | apply pw_below_drewN)) hBT9); have hbk := Below.trans (show Below w8.heap.size w8 _ by repeat (first | assumption | apply below_drew | apply pw_below_drewN)) (hBT9.mono (show Below w8.heap.size w8 _ by repeat (first | assumption | apply below_drew | apply pw_below_drewN)).size))
      | (have q_ := hKT91; clear q_; go_at_call 30; refine (HRO2.out _ AT90 cT90 AT91 cT91 (Kd.C_below hKT90 (by repeat (first | exact Below.refl _ _ | apply below_drew | apply pw_below_drewN))) hcT90 (Kd.C_below hKT91 (by repeat (first | exact Below.refl _ _ | apply below_drew | apply pw_below_drewN))) hcT91).mono ?_; rintro e wP9 ⟨vP9, rfl, hRP9, hBP9⟩; obtain ⟨AP9, cP9, rfl, hcP9, hKP9⟩ := Kd.R_reads hRP9; have hKI93 := Kd.C_below hKI92 (Below.trans (show Below wT9.heap.size wT9 _ by repeat (first | exact Below.refl _ _ | apply below_drew | apply pw_below_drewN)) hBP9); have hbk := Below.trans (show Below w8.heap.size w8 _ by repeat (first | assumption | apply below_drew | apply pw_below_drewN)) (hBP9.mono (show Below w8.heap.size w8 _ by repeat (first | assumption | apply below_drew | apply pw_below_drewN)).size))
      | (go_at_call 30; refine (HRO.out _ (HY.out _ (by repeat (first | assumption | apply below_drew | apply pw_below_drewN))).2.2.1 (HY.out _ (by repeat (first | assumption | apply below_drew | apply pw_below_drewN))).2.2.2.1).mono ?_; rintro e wQ9 ⟨vQ9, rfl, hRQ9, hBQ9⟩; obtain ⟨AQ9, cQ9, rfl, hcQ9, hKQ9⟩ := Kd.R_reads hRQ9; have hKO92 := Kd.C_below hKO9 (Below.trans (show Below wO9.heap.size wO9 _ by repeat (first | exact Below.refl _ _ | apply below_drew | apply pw_below_drewN)) hBQ9); have hbk := Below.trans (show Below w8.heap.size w8 _ by repeat (first | assumption | apply below_drew | apply pw_below_drewN)) (hBQ9.mono (show Below w8.heap.size w8 _ by repeat (first | assumption | apply below_drew | apply pw_below_drewN)).size)))
    all_goals go_wp2_with fail
    all_goals go_ret
    all_goals exact ⟨rfl, (HY.out _ (by repeat (first | assumption | apply below_drew | apply pw_below_drewN))).2.2.2.2⟩
end Go.Proofs.Ytmhbdgnajlnhnaa.P
