/- GraphOrders: the law's walk. -/
import Derived.Test.YtmhbdgnajlnhnaaGLawBase
import Derived.Test.YtmhbdgnajlnhnaaGROf
import Derived.Test.YtmhbdgnajlnhnaaGRCycle
import Derived.Test.YtmhbdgnajlnhnaaPlRefOrd
namespace Go.Proofs.Ytmhbdgnajlnhnaa.P
open Go.RowKit Go.Maps Go.MapKept Go.ChangeMaps Go.Proofs.YtmhbdgnajlnhnaaW.PrintWords Go.Proofs.YtmhbdgnajlnhnaaW.PrintLast Go.Proofs.YtmhbdgnajlnhnaaW.PrintMore Go.Proofs.Ytmhbdgnajlnhnaa.Pl
set_option linter.unusedVariables false
set_option linter.unusedSimpArgs false
section
variable {w : World}
set_option maxRecDepth 1000000 in
set_option maxHeartbeats 4000000 in
theorem orders_walk (A0 : Option Addr) (c0 : Nat) (E : List S45) (A1 : Option Addr) (c1 : Nat) (names : List ByteArray) (w : World) (h0 : Kd.C k45 w A0 E.length E) (hc0 : E.length ≤ c0) (hE : ∀ e, e ∈ E → e.f0.size ≤ maxLen ∧ e.f1.size ≤ maxLen) (h1 : Kd.C Kd.string w A1 names.length names) (hc1 : names.length ≤ c1) (hn : ∀ s, s ∈ names → s.size ≤ maxLen) :
    Calls Try.prog 6 #[.slice A0 E.length c0, .slice A1 names.length c1] w fun e w' => e = .returned (.bool true) ∧ Below w.heap.size w w' := by
  have hwk := works_calls w
  have hu29 := Try.underlying29
  have HC := Aside0.mk (And.intro h0 h1)
  have HS := Aside0.mk (And.intro hE hn)
  clear h0 h1 hE hn
  go_enter Try.func6, Try.ntmps6
  go_wp2_with fail
  refine hwk.mono ?_
  rintro e w1 ⟨rfl, hB1⟩
  clear hwk
  have hlg := long_calls A0 c0 E A1 c1 names (Kd.C_below HC.out.1 hB1) hc0 (Kd.C_below HC.out.2 hB1) hc1
  by_cases hl : E.length > 40 ∨ names.length > 20
  · rw [decide_eq_true hl] at hlg
    clear hl
    go_wp2_with fail
    refine hlg.mono ?_
    rintro e w2 ⟨rfl, ⟨n2, rfl⟩⟩
    clear hlg
    go_wp2_with fail
    go_ret
    exact ⟨rfl, pw_below_drewN hB1 n2⟩
  rw [decide_eq_false hl] at hlg
  go_wp2_with fail
  refine hlg.mono ?_
  rintro e w2 ⟨rfl, ⟨n2, rfl⟩⟩
  clear hlg
  by_cases hl2 : E.length > 20
  · have d1 : decide ((20 : Int) < (E.length : Int)) = true := decide_eq_true (by omega)
    have d2 : 20 < E.length := hl2
    clear hl hl2
    go_wp2_with fail
    go_ret
    exact ⟨rfl, pw_below_drewN hB1 n2⟩
  have d1 : decide ((20 : Int) < (E.length : Int)) = false := decide_eq_false (by omega)
  have d2 : E.length ≤ 20 := by omega
  have hnl : names.length ≤ 20 := by omega
  have hB2 : Below w.heap.size w (w1.drewN n2) := pw_below_drewN hB1 n2
  obtain ⟨wp, hwp⟩ : ∃ wp, w1.drewN n2 = wp := ⟨_, rfl⟩
  rw [hwp] at hB2
  have hmd := made_calls (w := wp) A0 c0 E A1 c1 names (Kd.C_below HC.out.1 hB2) (Kd.C_below HC.out.2 hB2) HS.out.1 HS.out.2 (by omega) (by omega)
  have HB2 := Aside0.mk hB2
  try rw [hwp]
  clear hl hl2 hB1 hB2
  go_wp2_with fail
  refine hmd.mono ?_
  rintro e w3 ⟨q, rfl, r3, hM3, hB3⟩
  clear hmd
  have hB13 := HB2.out.trans (hB3.mono HB2.out.size)
  have hof := of_calls A0 c0 E A1 c1 names (Kd.C_below HC.out.1 hB13) hc0 (Kd.C_below HC.out.2 hB13) hc1 (by omega) (by omega)
  have hGok := madeG_ok HS.out.1 HS.out.2
  have hGl := madeG_len E names
  rw [names_made hGok (mem_madeG_ns E names), ofE_edges hGok (mem_madeG_out E names)] at hof
  obtain ⟨G, hG⟩ : ∃ G, madeG E names = G := ⟨_, rfl⟩
  rw [hG] at hM3 hof hGok hGl
  have HM3 := Aside0.mk (And.intro hM3 (And.intro hB13 hGok))
  clear hG hM3 hB3 hB13 hGok hwp
  go_wp2_with fail
  refine hof.mono ?_
  rintro e w4 ⟨v0, v1, rfl, hR0, hR1, hB4⟩
  clear hof
  obtain ⟨B0, d0, rfl, hd0, hK0⟩ := Kd.R_reads hR0
  obtain ⟨B1, d1', rfl, hd1, hK1⟩ := Kd.R_reads hR1
  obtain ⟨wb, hwb⟩ : ∃ wb : World, w4.alloc (Obj.cells #[.slice B0 G.ns.length d0, .slice B1 (edgesOf G G.ns).length d1'] 29) = wb := ⟨_, rfl⟩
  have hgn : wb.heap[w4.heap.size]? = some (.cells #[.slice B0 G.ns.length d0, .slice B1 (edgesOf G G.ns).length d1'] 29 (0, 0)) := by rw [← hwb]; exact alloc_new
  have hb4 : Below w4.heap.size w4 wb := by rw [← hwb]; exact below_alloc (Below.refl _ w4) _
  obtain ⟨g, hg⟩ : ∃ g, w4.heap.size = g := ⟨_, rfl⟩
  have hrg := rg_edges (G := G) HM3.out.2.2 (by omega)
  have HT : Aside0 (TwoG wb wp.heap.size r3 q g G B0 d0 B1 d1') := ⟨fun W hb => by
    have e := blk_below hgn hb
    rw [hg] at e
    have h34 : Below w3.heap.size w3 wb := hB4.trans (hb4.mono hB4.size)
    exact ⟨HM3.out.1.below (h34.trans (hb.mono h34.size)), ⟨by rw [blk_cell' e]; rfl, by rw [blk_cell' e]; rfl⟩, Kd.C_below hK0 (hb4.trans (hb.mono hb4.size)), Kd.C_below hK1 (hb4.trans (hb.mono hb4.size))⟩⟩
  have HBW : Aside0 (Below w.heap.size w wb) := ⟨HM3.out.2.1.trans ((hB4.trans (hb4.mono hB4.size)).mono HM3.out.2.1.size)⟩
  have HG := Aside0.mk HM3.out.2.2
  have HRG := Aside0.mk hrg
  have hnsl : G.ns.length ≤ 1000 := by omega
  have hc1' := order_calls (HT.out wb (Below.refl _ _)).1
  clear hR0 hR1 hB4 hK0 hK1 hgn hb4 hrg HM3 hGl
  go_wp2_with fail
  try rw [hg]
  clear hwb hg
  refine hc1'.mono ?_
  rintro e w5 ⟨v5, rfl, hR5, hB5⟩
  clear hc1'
  obtain ⟨A5, c5, rfl, hc5, hK5⟩ := Kd.R_reads hR5
  obtain ⟨ko, hko⟩ := ev_some (rorder_ev HRG.out)
  obtain ⟨hm5, ⟨z0, z1⟩, hq0, hq1⟩ := HT.out w5 hB5
  have hol := order_len HG.out
  have hro := brickyardref19_Order.calls ko B0 d0 G.ns B1 d1' (edgesOf G G.ns) (orderG G).1 (orderG G).2 w5 hq0 hd0 hq1 hd1 hko
  obtain ⟨L1, hL1⟩ : ∃ L1, (orderG G).1 = L1 := ⟨_, rfl⟩
  obtain ⟨k1, hk1⟩ : ∃ k1, (orderG G).2 = k1 := ⟨_, rfl⟩
  rw [hL1] at hro hc5 hK5 hol
  rw [hL1, hk1]
  rw [hk1] at hro
  have H5 := Aside0.mk (And.intro hB5 (And.intro hc5 hK5))
  clear hR5 hB5 hK5 hq0 hq1 hko hL1 hk1 hm5 hc5
  go_wp2_with fail
  refine hro.mono ?_
  rintro e w6 ⟨v6, rfl, hR6, hB6⟩
  clear hro
  obtain ⟨A6, c6, rfl, hc6, hK6⟩ := Kd.R_reads hR6
  have hB56 := H5.out.1.trans (hB6.mono H5.out.1.size)
  obtain ⟨hm6, ⟨z0, z1⟩, hq0, hq1⟩ := HT.out w6 hB56
  have hcy := cycle_calls hm6
  have H6 := Aside0.mk (And.intro hB56 (And.intro (And.intro hc6 hK6) (And.intro H5.out.2.1 (Kd.C_below H5.out.2.2 hB6))))
  clear hR6 hB6 hK6 hq0 hq1 hm6 hc6 hB56 H5
  go_wp2_with fail
  refine hcy.mono ?_
  rintro e w7 ⟨v7, rfl, hR7, hB7⟩
  clear hcy
  obtain ⟨A7, c7, rfl, hc7, hK7⟩ := Kd.R_reads hR7
  have hB67 := H6.out.1.trans (hB7.mono H6.out.1.size)
  obtain ⟨hm7, ⟨z0, z1⟩, hq0, hq1⟩ := HT.out w7 hB67
  have hcl := cyc_getD HG.out
  have hrc := rcycle_calls (w := w7) HRG.out B0 d0 B1 d1' hq0 hd0 hq1 hd1
  unfold CycleIs at hrc
  obtain ⟨L2, hL2⟩ : ∃ L2, (cycleG G).getD [] = L2 := ⟨_, rfl⟩
  obtain ⟨k2, hk2⟩ : ∃ k2, (cycleG G).isSome = k2 := ⟨_, rfl⟩
  rw [hL2] at hrc hc7 hK7 hcl
  rw [hk2] at hrc
  rw [hL2, hk2]
  have H7 := Aside0.mk (And.intro hB67 (And.intro (And.intro hc7 hK7) (And.intro (And.intro H6.out.2.1.1 (Kd.C_below H6.out.2.1.2 hB7)) (And.intro H6.out.2.2.1 (Kd.C_below H6.out.2.2.2 hB7)))))
  clear hR7 hB7 hK7 hq0 hq1 hm7 hc7 hB67 H6 hL2 hk2
  go_wp2_with fail
  refine hrc.mono ?_
  rintro e w8 ⟨v8, rfl, hR8, hB8⟩
  clear hrc
  obtain ⟨A8, c8, rfl, hc8, hK8⟩ := Kd.R_reads hR8
  have heq := equalS_calls (w := w8) A5 c5 A6 c6 L1 (Kd.C_below H7.out.2.2.2.2 hB8) H7.out.2.2.2.1 (Kd.C_below H7.out.2.2.1.2 hB8) H7.out.2.2.1.1 (by omega)
  have heq2 := fun n => equalS_calls (w := w8.drewN n) A7 c7 A8 c8 L2 (Kd.C_below H7.out.2.1.2 (pw_below_drewN hB8 n)) H7.out.2.1.1 (Kd.C_below hK8 (pw_below_drewN (Below.refl _ _) n)) hc8 (by omega)
  have HE : Aside0 (Below w.heap.size w w8) := ⟨HBW.out.trans ((H7.out.1.trans (hB8.mono H7.out.1.size)).mono HBW.out.size)⟩
  clear hR8 hB8 hK8 hc8 H7
  go_wp2_with fail
  refine heq.mono ?_
  rintro e w9 ⟨rfl, ⟨n9, rfl⟩⟩
  clear heq
  have hbb1 : (k1 == k1) = true := beq_self_eq_true k1
  have hbb2 : (k2 == k2) = true := beq_self_eq_true k2
  go_wp2_with fail
  refine (heq2 n9).mono ?_
  rintro e w10 ⟨rfl, ⟨n10, rfl⟩⟩
  clear heq2
  go_wp2_with fail
  go_ret
  exact ⟨rfl, pw_below_drewN HE.out _⟩
end
end Go.Proofs.Ytmhbdgnajlnhnaa.P
