/- GraphFinds: the law's walk. -/
import Derived.Test.YtmhbdgnajlnhnaaGLawBase
import Derived.Test.YtmhbdgnajlnhnaaGROf
import Derived.Test.YtmhbdgnajlnhnaaGRBel
import Derived.Test.YtmhbdgnajlnhnaaGRTurnG
import Derived.Test.YtmhbdgnajlnhnaaGRWay
import Derived.Deep.RegionHeld3
namespace Go.Proofs.Ytmhbdgnajlnhnaa.P
open Go.RowKit Go.Maps Go.MapKept Go.ChangeMaps Go.Proofs.YtmhbdgnajlnhnaaW.PrintWords Go.Proofs.YtmhbdgnajlnhnaaW.PrintLast Go.Proofs.YtmhbdgnajlnhnaaW.PrintMore Go.Proofs.Ytmhbdgnajlnhnaa.Pl
set_option linter.unusedVariables false
set_option linter.unusedSimpArgs false
set_option maxRecDepth 1000000 in
set_option maxHeartbeats 4000000 in
theorem finds_walk (A0 : Option Addr) (c0 : Nat) (E : List S45) (A1 : Option Addr) (c1 : Nat) (names : List ByteArray) (A2 : Option Addr) (c2 : Nat) (asked : List ByteArray) (from_ : ByteArray) (to_ : ByteArray) (w : World) (h0 : Kd.C k45 w A0 E.length E) (hc0 : E.length ≤ c0) (hE : ∀ e, e ∈ E → e.f0.size ≤ maxLen ∧ e.f1.size ≤ maxLen) (h1 : Kd.C Kd.string w A1 names.length names) (hc1 : names.length ≤ c1) (hn : ∀ s, s ∈ names → s.size ≤ maxLen) (h2 : Kd.C Kd.string w A2 asked.length asked) (hc2 : asked.length ≤ c2) (hz2 : ∀ s, s ∈ asked → s.size ≤ maxLen) (zfrom_ : from_.size ≤ maxLen) (zto_ : to_.size ≤ maxLen) :
    Calls Try.prog 3 #[.slice A0 E.length c0, .slice A1 names.length c1, .slice A2 asked.length c2, .string from_, .string to_] w fun e w' => e = .returned (.bool true) ∧ Below w.heap.size w w' := by
  have hwk := works_calls w
  have hu29 := Try.underlying29
  have HC := Aside0.mk (And.intro h0 h1)
  have HS := Aside0.mk (And.intro hE hn)
  have HC2 := Aside0.mk (And.intro h2 hz2)
  clear h0 h1 hE hn h2 hz2
  go_enter Try.func3, Try.ntmps3
  go_wp2_with fail
  refine hwk.mono ?_
  rintro e w1 ⟨rfl, hB1⟩
  clear hwk
  have hlg := long_calls A0 c0 E A1 c1 names (Kd.C_below HC.out.1 hB1) hc0 (Kd.C_below HC.out.2 hB1) hc1
  by_cases hl : E.length > 40 ∨ names.length > 20
  · rw [decide_eq_true hl] at hlg
    clear hl
    go_wp2_with fail
    refine hlg.mono ?_
    rintro e w2 ⟨rfl, ⟨n2, rfl⟩⟩
    clear hlg
    go_wp2_with fail
    go_ret
    exact ⟨rfl, pw_below_drewN hB1 n2⟩
  rw [decide_eq_false hl] at hlg
  have d2 : E.length ≤ 40 := by omega
  have hnl : names.length ≤ 20 := by omega
  by_cases hl2 : asked.length > 10
  · have e2 : decide ((10 : Int) < (asked.length : Int)) = true := decide_eq_true (by omega)
    have e2n : 10 < asked.length := hl2
    clear hl hl2
    go_wp2_with fail
    refine hlg.mono ?_
    rintro e w2 ⟨rfl, ⟨n2, rfl⟩⟩
    clear hlg
    go_wp2_with fail
    go_ret
    exact ⟨rfl, pw_below_drewN hB1 n2⟩
  have e2 : decide ((10 : Int) < (asked.length : Int)) = false := decide_eq_false (by omega)
  have e2n : asked.length ≤ 10 := by omega
  go_wp2_with fail
  refine hlg.mono ?_
  rintro e w2 ⟨rfl, ⟨n2, rfl⟩⟩
  clear hlg
  have hB2 : Below w.heap.size w (w1.drewN n2) := pw_below_drewN hB1 n2
  obtain ⟨wp, hwp⟩ : ∃ wp, w1.drewN n2 = wp := ⟨_, rfl⟩
  rw [hwp] at hB2
  have hmd := made_calls (w := wp) A0 c0 E A1 c1 names (Kd.C_below HC.out.1 hB2) (Kd.C_below HC.out.2 hB2) HS.out.1 HS.out.2 (by omega) (by omega)
  have HB2 := Aside0.mk hB2
  try rw [hwp]
  clear hl hB1 hB2 hl2
  go_wp2_with fail
  refine hmd.mono ?_
  rintro e w3 ⟨q, rfl, r3, hM3, hB3⟩
  clear hmd
  have hB13 := HB2.out.trans (hB3.mono HB2.out.size)
  have hof := of_calls A0 c0 E A1 c1 names (Kd.C_below HC.out.1 hB13) hc0 (Kd.C_below HC.out.2 hB13) hc1 (by omega) (by omega)
  have hGok := madeG_ok HS.out.1 HS.out.2
  have hGl := madeG_len E names
  rw [names_made hGok (mem_madeG_ns E names), ofE_edges hGok (mem_madeG_out E names)] at hof
  have HIN := Aside0.mk (fun (e : S45) (he : e ∈ E) => (mem_madeG_out E names e.f0 e.f1).2 he)
  obtain ⟨G, hG⟩ : ∃ G, madeG E names = G := ⟨_, rfl⟩
  rw [hG] at hM3 hof hGok hGl HIN
  have HM3 := Aside0.mk (And.intro hM3 (And.intro hB13 hGok))
  clear hG hM3 hB3 hB13 hGok hwp
  go_wp2_with fail
  refine hof.mono ?_
  rintro e w4 ⟨v0, v1, rfl, hR0, hR1, hB4⟩
  clear hof
  obtain ⟨B0, d0, rfl, hd0, hK0⟩ := Kd.R_reads hR0
  obtain ⟨B1, d1', rfl, hd1, hK1⟩ := Kd.R_reads hR1
  obtain ⟨wb, hwb⟩ : ∃ wb : World, w4.alloc (Obj.cells #[.slice B0 G.ns.length d0, .slice B1 (edgesOf G G.ns).length d1'] 29) = wb := ⟨_, rfl⟩
  have hgn : wb.heap[w4.heap.size]? = some (.cells #[.slice B0 G.ns.length d0, .slice B1 (edgesOf G G.ns).length d1'] 29 (0, 0)) := by rw [← hwb]; exact alloc_new
  have hb4 : Below w4.heap.size w4 wb := by rw [← hwb]; exact below_alloc (Below.refl _ w4) _
  obtain ⟨g, hg⟩ : ∃ g, w4.heap.size = g := ⟨_, rfl⟩
  have hrg := rg_edges (G := G) HM3.out.2.2 (by omega)
  have HT : Aside0 (TwoG wb wp.heap.size r3 q g G B0 d0 B1 d1') := ⟨fun W hb => by
    have e := blk_below hgn hb
    rw [hg] at e
    have h34 : Below w3.heap.size w3 wb := hB4.trans (hb4.mono hB4.size)
    exact ⟨HM3.out.1.below (h34.trans (hb.mono h34.size)), ⟨by rw [blk_cell' e]; rfl, by rw [blk_cell' e]; rfl⟩, Kd.C_below hK0 (hb4.trans (hb.mono hb4.size)), Kd.C_below hK1 (hb4.trans (hb.mono hb4.size))⟩⟩
  have HBW : Aside0 (Below w.heap.size w wb) := ⟨HM3.out.2.1.trans ((hB4.trans (hb4.mono hB4.size)).mono HM3.out.2.1.size)⟩
  have HG := Aside0.mk HM3.out.2.2
  have HRG := Aside0.mk hrg
  have hnsl : G.ns.length ≤ 1000 := by omega
  clear hR0 hR1 hB4 hK0 hK1 hgn hb4 hrg HM3 hGl
  have hw1 := way_callsG (HT.out wb (Below.refl _ _)).1 from_ to_ zfrom_ zto_
  have hA2 := Kd.C_below HC2.out.1 HBW.out
  have HA2 := Aside0.mk hA2
  clear hA2
  go_wp2_with fail
  try rw [hg]
  clear hwb hg
  refine hw1.mono ?_
  rintro e w5 ⟨v5, rfl, hR5, _, hB5⟩
  clear hw1
  obtain ⟨A5, c5, rfl, hc5, hK5⟩ := Kd.R_reads hR5
  obtain ⟨hm5, ⟨z0, z1⟩, hq0, hq1⟩ := HT.out w5 hB5
  have hwl := wayG_len HG.out from_ to_
  have hrw := rway_calls HRG.out B0 d0 B1 d1' w5 hq0 hd0 hq1 hd1 from_ to_
  obtain ⟨L1, hL1⟩ : ∃ L1, (wayG G from_ to_).1 = L1 := ⟨_, rfl⟩
  obtain ⟨k1, hk1⟩ : ∃ k1, (wayG G from_ to_).2 = k1 := ⟨_, rfl⟩
  rw [hL1] at hrw hc5 hK5 hwl
  rw [hL1, hk1]
  rw [hk1] at hrw
  have H5 := Aside0.mk (And.intro hB5 hK5)
  clear hR5 hB5 hK5 hq0 hq1 hL1 hk1 hm5
  go_wp2_with fail
  refine hrw.mono ?_
  rintro e w6 ⟨v6, rfl, hR6, hB6⟩
  clear hrw
  obtain ⟨A6, c6, rfl, hc6, hK6⟩ := Kd.R_reads hR6
  have hB56 := H5.out.1.trans (hB6.mono H5.out.1.size)
  have HZ : Aside0 (∀ W, Below w6.heap.size w6 W → (W.cell? ⟨g, 0, none⟩ = some (.slice B0 G.ns.length d0) ∧ W.cell? ⟨g, 1, none⟩ = some (.slice B1 (edgesOf G G.ns).length d1')) ∧ GMem W wp.heap.size r3 q G ∧ Kd.C Kd.string W B0 G.ns.length G.ns ∧ Kd.C k45 W B1 (edgesOf G G.ns).length (edgesOf G G.ns) ∧ Kd.C Kd.string W A5 L1.length L1 ∧ Kd.C Kd.string W A6 L1.length L1 ∧ Kd.C Kd.string W A2 asked.length asked) := ⟨fun W hb => by
    have hbb := hB56.trans (hb.mono hB56.size)
    obtain ⟨q1, q2, q3, q4⟩ := HT.out W hbb
    exact ⟨q2, q1, q3, q4, Kd.C_below H5.out.2 (hB6.trans (hb.mono hB6.size)), Kd.C_below hK6 hb, Kd.C_below HA2.out hbb⟩⟩
  have HBZ : Aside0 (Below w.heap.size w w6) := ⟨HBW.out.trans (hB56.mono HBW.out.size)⟩
  clear hR6 hB6 hK6 hB56 H5
  obtain ⟨z0, z1⟩ := (HZ.out w6 (Below.refl _ _)).1
  have hbb1 : (k1 == k1) = true := beq_self_eq_true k1
  have hcl1 := belowG_len G asked
  have hcl2 := belowG_len (turnG G) asked
  rw [turnG_ns HG.out] at hcl2
  have htn : (turnG G).ns.length ≤ 1000 := by rw [turnG_ns HG.out]; omega
  have hrt := rg_edges (turnG_ok HG.out) htn
  have hBel := fun (W : World) (hm : GMem W wp.heap.size r3 q G) AC cC (hC : Kd.C Kd.string W AC asked.length asked) => below_callsG hm AC cC asked hC HC2.out.2 (by omega)
  have hAbo := fun (W : World) (hm : GMem W wp.heap.size r3 q G) AC cC (hC : Kd.C Kd.string W AC asked.length asked) => above_callsG hm AC cC asked hC HC2.out.2 (by omega)
  have hRB1 := fun (W : World) (x0 : Kd.C Kd.string W B0 G.ns.length G.ns) (x1 : Kd.C k45 W B1 (edgesOf G G.ns).length (edgesOf G G.ns)) (x2 : Kd.C Kd.string W A2 asked.length asked) => rbelow_calls HRG.out B0 d0 B1 d1' A2 c2 asked W x0 hd0 x1 hd1 x2 hc2 (by omega)
  have hRB2 := fun (W : World) AT0 cT0 AT1 cT1 (x0 : Kd.C Kd.string W AT0 (turnG G).ns.length (turnG G).ns) (y0 : (turnG G).ns.length ≤ cT0) (x1 : Kd.C k45 W AT1 (edgesOf (turnG G) (turnG G).ns).length (edgesOf (turnG G) (turnG G).ns)) (y1 : (edgesOf (turnG G) (turnG G).ns).length ≤ cT1) (x2 : Kd.C Kd.string W A2 asked.length asked) => rbelow_calls hrt AT0 cT0 AT1 cT1 A2 c2 asked W x0 y0 x1 y1 x2 hc2 (by omega)
  have hRT := fun (W : World) (x0 : Kd.C Kd.string W B0 G.ns.length G.ns) (x1 : Kd.C k45 W B1 (edgesOf G G.ns).length (edgesOf G G.ns)) => rturn_callsG HG.out hnsl B0 d0 B1 d1' W x0 hd0 x1 hd1
  obtain ⟨K1, hK1⟩ : ∃ K1, belowG G asked = K1 := ⟨_, rfl⟩
  obtain ⟨K2, hK2⟩ : ∃ K2, belowG (turnG G) asked = K2 := ⟨_, rfl⟩
  obtain ⟨ET, hET⟩ : ∃ ET, edgesOf (turnG G) (turnG G).ns = ET := ⟨_, rfl⟩
  obtain ⟨NT, hNT⟩ : ∃ NT, (turnG G).ns = NT := ⟨_, rfl⟩
  obtain ⟨EG, hEG⟩ : ∃ EG, edgesOf G G.ns = EG := ⟨_, rfl⟩
  rw [hK1] at hBel hcl1
  simp only [hK1] at hRB1
  rw [hK2] at hcl2
  simp only [hK2] at hAbo hRB2
  simp only [hET, hNT] at hRB2 hRT
  simp only [hEG] at hRB1 hRT hd1 HZ z0 z1 ⊢
  have HBel := Aside0.mk hBel
  have HAbo := Aside0.mk hAbo
  have HRB1 := Aside0.mk hRB1
  have HRB2 := Aside0.mk hRB2
  have HRT := Aside0.mk hRT
  clear hBel hAbo hRB1 hRB2 hRT hK1 hK2 hET hNT hEG hrt htn HRG
  have hbk : Below w6.heap.size w6 w6 := Below.refl _ _
  go_wp2_with fail
  go_region_held3 (fun W => W.cell? ⟨g, 0, none⟩ = some (.slice B0 G.ns.length d0) ∧ W.cell? ⟨g, 1, none⟩ = some (.slice B1 EG.length d1')) (exact (HZ.out _ (by repeat (first | assumption | apply below_drew | apply pw_below_drewN))).1) (first
    | (have q_ := hKH; clear q_; go_at_call 16; refine (equalS_calls AG cG AH cH K2 (Kd.C_below hKG3 (by repeat (first | exact Below.refl _ _ | apply below_drew | apply pw_below_drewN))) hcG (Kd.C_below hKH (by repeat (first | exact Below.refl _ _ | apply below_drew | apply pw_below_drewN))) hcH (by omega)).mono ?_; rintro e wE ⟨rfl, ⟨nE, rfl⟩⟩)
    | (have q_ := hKF; clear q_; go_at_call 16; refine (equalS_calls AD cD AF cF K1 (Kd.C_below hKD2 (by repeat (first | exact Below.refl _ _ | apply below_drew | apply pw_below_drewN))) hcD (Kd.C_below hKF (by repeat (first | exact Below.refl _ _ | apply below_drew | apply pw_below_drewN))) hcF (by omega)).mono ?_; rintro e wE ⟨rfl, ⟨nE, rfl⟩⟩)
    | (go_at_call 16; refine (equalS_calls A5 c5 A6 c6 L1 (HZ.out _ (by repeat (first | assumption | apply below_drew | apply pw_below_drewN))).2.2.2.2.1 hc5 (HZ.out _ (by repeat (first | assumption | apply below_drew | apply pw_below_drewN))).2.2.2.2.2.1 hc6 (by omega)).mono ?_; rintro e wE ⟨rfl, ⟨nE, rfl⟩⟩)
    | (go_at_call 18; refine (cloneS_calls A2 c2 asked (HZ.out _ (by repeat (first | assumption | apply below_drew | apply pw_below_drewN))).2.2.2.2.2.2 (by omega)).mono ?_; rintro e wC ⟨vC, rfl, hRC, hBC⟩; obtain ⟨AC, cC, rfl, hcC, hKC⟩ := Kd.R_reads hRC; have hbk := Below.trans (show Below w6.heap.size w6 _ by repeat (first | assumption | apply below_drew | apply pw_below_drewN)) (hBC.mono (show Below w6.heap.size w6 _ by repeat (first | assumption | apply below_drew | apply pw_below_drewN)).size))
    | (go_at_call 17; refine (HBel.out _ (HZ.out _ (by repeat (first | assumption | apply below_drew | apply pw_below_drewN))).2.1 AC cC (Kd.C_below hKC (by repeat (first | exact Below.refl _ _ | apply below_drew | apply pw_below_drewN)))).mono ?_; rintro e wD ⟨vD, rfl, hRD, _, hBD⟩; obtain ⟨AD, cD, rfl, hcD, hKD⟩ := Kd.R_reads hRD; have hbk := Below.trans (show Below w6.heap.size w6 _ by repeat (first | assumption | apply below_drew | apply pw_below_drewN)) (hBD.mono (show Below w6.heap.size w6 _ by repeat (first | assumption | apply below_drew | apply pw_below_drewN)).size))
    | (go_at_call 20; refine (HAbo.out _ (HZ.out _ (by repeat (first | assumption | apply below_drew | apply pw_below_drewN))).2.1 AC cC (Kd.C_below hKC (by repeat (first | exact Below.refl _ _ | apply below_drew | apply pw_below_drewN)))).mono ?_; rintro e wG ⟨vG, rfl, hRG, _, hBG⟩; obtain ⟨AG, cG, rfl, hcG, hKG⟩ := Kd.R_reads hRG; have hbk := Below.trans (show Below w6.heap.size w6 _ by repeat (first | assumption | apply below_drew | apply pw_below_drewN)) (hBG.mono (show Below w6.heap.size w6 _ by repeat (first | assumption | apply below_drew | apply pw_below_drewN)).size))
    | (go_at_call 21; refine (HRT.out _ (HZ.out _ (by repeat (first | assumption | apply below_drew | apply pw_below_drewN))).2.2.1 (HZ.out _ (by repeat (first | assumption | apply below_drew | apply pw_below_drewN))).2.2.2.1).mono ?_; rintro e wT ⟨vT0, vT1, rfl, hRT0, hRT1, hBT⟩; obtain ⟨AT0, cT0, rfl, hcT0, hKT0⟩ := Kd.R_reads hRT0; obtain ⟨AT1, cT1, rfl, hcT1, hKT1⟩ := Kd.R_reads hRT1; have hKG2 := Kd.C_below hKG (Below.trans (show Below wG.heap.size wG _ by repeat (first | exact Below.refl _ _ | apply below_drew | apply pw_below_drewN)) hBT); have hbk := Below.trans (show Below w6.heap.size w6 _ by repeat (first | assumption | apply below_drew | apply pw_below_drewN)) (hBT.mono (show Below w6.heap.size w6 _ by repeat (first | assumption | apply below_drew | apply pw_below_drewN)).size))
    | (go_at_call 19; refine (HRB2.out _ AT0 cT0 AT1 cT1 (Kd.C_below hKT0 (by repeat (first | exact Below.refl _ _ | apply below_drew | apply pw_below_drewN))) hcT0 (Kd.C_below hKT1 (by repeat (first | exact Below.refl _ _ | apply below_drew | apply pw_below_drewN))) hcT1 (HZ.out _ (by repeat (first | assumption | apply below_drew | apply pw_below_drewN))).2.2.2.2.2.2).mono ?_; rintro e wH ⟨vH, rfl, hRH, hBH⟩; obtain ⟨AH, cH, rfl, hcH, hKH⟩ := Kd.R_reads hRH; have hKG3 := Kd.C_below hKG2 (Below.trans (show Below wT.heap.size wT _ by repeat (first | exact Below.refl _ _ | apply below_drew | apply pw_below_drewN)) hBH); have hbk := Below.trans (show Below w6.heap.size w6 _ by repeat (first | assumption | apply below_drew | apply pw_below_drewN)) (hBH.mono (show Below w6.heap.size w6 _ by repeat (first | assumption | apply below_drew | apply pw_below_drewN)).size))
    | (go_at_call 19; refine (HRB1.out _ (HZ.out _ (by repeat (first | assumption | apply below_drew | apply pw_below_drewN))).2.2.1 (HZ.out _ (by repeat (first | assumption | apply below_drew | apply pw_below_drewN))).2.2.2.1 (HZ.out _ (by repeat (first | assumption | apply below_drew | apply pw_below_drewN))).2.2.2.2.2.2).mono ?_; rintro e wF ⟨vF, rfl, hRF, hBF⟩; obtain ⟨AF, cF, rfl, hcF, hKF⟩ := Kd.R_reads hRF; have hKD2 := Kd.C_below hKD (Below.trans (show Below wD.heap.size wD _ by repeat (first | exact Below.refl _ _ | apply below_drew | apply pw_below_drewN)) hBF); have hbk := Below.trans (show Below w6.heap.size w6 _ by repeat (first | assumption | apply below_drew | apply pw_below_drewN)) (hBF.mono (show Below w6.heap.size w6 _ by repeat (first | assumption | apply below_drew | apply pw_below_drewN)).size)))
  all_goals go_wp2_with fail
  all_goals go_ret
  all_goals exact ⟨rfl, HBZ.out.trans ((show Below w6.heap.size w6 _ by repeat (first | assumption | apply below_drew | apply pw_below_drewN)).mono HBZ.out.size)⟩
end Go.Proofs.Ytmhbdgnajlnhnaa.P
