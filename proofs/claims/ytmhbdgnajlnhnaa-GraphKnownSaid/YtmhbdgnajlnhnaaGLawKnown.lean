/- GraphKnown: the law's walk. -/
import Derived.Test.YtmhbdgnajlnhnaaGKnown
import Derived.Deep.RegionHeld3
namespace Go.Proofs.Ytmhbdgnajlnhnaa.P
open Go.RowKit Go.Maps Go.MapKept Go.ChangeMaps Go.Proofs.YtmhbdgnajlnhnaaW.PrintWords Go.Proofs.YtmhbdgnajlnhnaaW.PrintLast Go.Proofs.YtmhbdgnajlnhnaaW.PrintMore Go.Proofs.Ytmhbdgnajlnhnaa.Pl
set_option linter.unusedVariables false
set_option linter.unusedSimpArgs false

set_option maxRecDepth 1000000 in
set_option maxHeartbeats 4000000 in
theorem known_walk (w : World) : Calls Try.prog 8 #[] w fun e w' => e = .returned (.bool true) ∧ Below w.heap.size w w' := by
  have hwk := works_calls w
  have hpn := fun (W : World) (a : Option Addr) => True
  obtain ⟨k, hk⟩ := ev_some (pairs_ev l8 (by decide))
  have HK := Aside0.mk hk
  clear hk hpn
  go_enter Try.func8, Try.ntmps8
  go_wp2_with fail
  refine hwk.mono ?_
  rintro e w1 ⟨rfl, hB1⟩
  clear hwk
  have q1 := brickyardlaw19_edges.calls k (some ⟨w1.heap.size, 0, none⟩) 8 l8 (pairsOf l8) (w1.alloc (.cells (l8.map Value.string).toArray 9)) (lit_C w1 l8 (by decide)) (by decide) HK.out
  have HB1 := Aside0.mk (hB1.trans ((lit_below w1 l8).mono hB1.size))
  clear hB1 HK
  go_wp2_with fail
  refine q1.mono ?_
  rintro e w2 ⟨v2, rfl, hR2, hB2⟩
  clear q1
  have hR2 : Kd.R k45 45 w2 _ (fun _ => True) v2 E0 := hR2
  obtain ⟨A2, c2, rfl, hc2, hC2⟩ := Kd.R_reads hR2
  have hE0 : ∀ e, e ∈ E0 → e.f0.size ≤ maxLen ∧ e.f1.size ≤ maxLen := fun e he => by
    have : ∀ e, e ∈ E0 → e.f0.size = 1 ∧ e.f1.size = 1 := by decide
    have := this e he
    unfold maxLen; omega
  have q1 := new_calls (w := w2) A2 c2 E0 hC2 hE0 (by decide)
  have HW := Aside0.mk (HB1.out.trans (hB2.mono HB1.out.size))
  clear HB1 hB2 hR2 hC2 hE0
  go_wp2_with fail
  refine q1.mono ?_
  rintro e w3 ⟨q, rfl, r3, hM3, hB3⟩
  clear q1
  have hM3 : GMem w3 w2.heap.size r3 q G0 := hM3
  have HG3 := Aside0.mk hM3
  have HN3 := Aside0.mk hB3
  clear hM3 hB3
  have q1 := way_is HG3.out kD kA (by decide) (by decide) G0_da rfl
  go_wp2_with fail
  refine q1.mono ?_
  rintro e w4 ⟨A4, c4, rfl, hc4, hC4, hB4⟩
  clear q1
  clear hC4
  have HN4 := Aside0.mk (HN3.out.trans (hB4.mono HN3.out.size))
  have HG4 := Aside0.mk (HG3.out.below hB4)
  clear HN3 HG3 hB4
  have q1 := way_is HG4.out kA kA (by decide) (by decide) G0_aa rfl
  go_wp2_with fail
  refine q1.mono ?_
  rintro e w5 ⟨A5, c5, rfl, hc5, hC5, hB5⟩
  clear q1
  have HN5 := Aside0.mk (HN4.out.trans (hB5.mono HN4.out.size))
  have HG5 := Aside0.mk (HG4.out.below hB5)
  have HY5 := Aside0.mk hC5
  clear HN4 HG4 hC5 hB5
  have q1 := cycle_is HG5.out G0_cycle rfl rfl rfl
  go_wp2_with fail
  refine q1.mono ?_
  rintro e w6 ⟨A6, c6, rfl, hc6, hC6, hB6⟩
  clear q1
  clear hC6
  have HN6 := Aside0.mk (HN5.out.trans (hB6.mono HN5.out.size))
  have HG6 := Aside0.mk (HG5.out.below hB6)
  have HY6 := Aside0.mk (Kd.C_below HY5.out hB6)
  clear HN5 HG5 HY5 hB6
  have q1 := row_is (names_calls HG6.out) G0_ns rfl
  go_wp2_with fail
  refine q1.mono ?_
  rintro e w7 ⟨A7, c7, rfl, hc7, hC7, hB7⟩
  clear q1
  have HN7 := Aside0.mk (HN6.out.trans (hB7.mono HN6.out.size))
  have HG7 := Aside0.mk (HG6.out.below hB7)
  have HY7 := Aside0.mk (Kd.C_below HY6.out hB7)
  have HR7 := Aside0.mk hC7
  clear HN6 HG6 HY6 hC7 hB7
  have q1 := lit_equal (l := [kA, kB, kC, kD]) HR7.out hc7 rfl (by decide)
  go_wp2_with fail
  refine q1.mono ?_
  rintro e w8 ⟨rfl, hB8⟩
  clear q1
  have HN8 := Aside0.mk (HN7.out.trans (hB8.mono HN7.out.size))
  have HG8 := Aside0.mk (HG7.out.below hB8)
  have HY8 := Aside0.mk (Kd.C_below HY7.out hB8)
  clear HN7 HG7 HY7 hB8
  clear HR7
  have q1 := row_is (out_calls HG8.out kA (by decide)) G0_a rfl
  go_wp2_with fail
  refine q1.mono ?_
  rintro e w9 ⟨A9, c9, rfl, hc9, hC9, hB9⟩
  clear q1
  have HN9 := Aside0.mk (HN8.out.trans (hB9.mono HN8.out.size))
  have HG9 := Aside0.mk (HG8.out.below hB9)
  have HY9 := Aside0.mk (Kd.C_below HY8.out hB9)
  have HR9 := Aside0.mk hC9
  clear HN8 HG8 HY8 hC9 hB9
  have q1 := lit_equal (l := [kB, kC]) HR9.out hc9 rfl (by decide)
  go_wp2_with fail
  refine q1.mono ?_
  rintro e w10 ⟨rfl, hB10⟩
  clear q1
  have HN10 := Aside0.mk (HN9.out.trans (hB10.mono HN9.out.size))
  have HG10 := Aside0.mk (HG9.out.below hB10)
  have HY10 := Aside0.mk (Kd.C_below HY9.out hB10)
  clear HN9 HG9 HY9 hB10
  clear HR9
  have q1 := row_is (in_calls HG10.out kD (by decide)) G0_in rfl
  go_wp2_with fail
  refine q1.mono ?_
  rintro e w11 ⟨A11, c11, rfl, hc11, hC11, hB11⟩
  clear q1
  have HN11 := Aside0.mk (HN10.out.trans (hB11.mono HN10.out.size))
  have HG11 := Aside0.mk (HG10.out.below hB11)
  have HY11 := Aside0.mk (Kd.C_below HY10.out hB11)
  have HR11 := Aside0.mk hC11
  clear HN10 HG10 HY10 hC11 hB11
  have q1 := lit_equal (l := [kB, kC]) HR11.out hc11 rfl (by decide)
  go_wp2_with fail
  refine q1.mono ?_
  rintro e w12 ⟨rfl, hB12⟩
  clear q1
  have HN12 := Aside0.mk (HN11.out.trans (hB12.mono HN11.out.size))
  have HG12 := Aside0.mk (HG11.out.below hB12)
  have HY12 := Aside0.mk (Kd.C_below HY11.out hB12)
  clear HN11 HG11 HY11 hB12
  clear HR11
  have q1 := row_is (out_calls HG12.out kZ (by decide)) G0_out rfl
  go_wp2_with fail
  refine q1.mono ?_
  rintro e w13 ⟨A13, c13, rfl, hc13, hC13, hB13⟩
  clear q1
  clear hC13
  have HN13 := Aside0.mk (HN12.out.trans (hB13.mono HN12.out.size))
  have HG13 := Aside0.mk (HG12.out.below hB13)
  have HY13 := Aside0.mk (Kd.C_below HY12.out hB13)
  clear HN12 HG12 HY12 hB13
  have q1 := lit_row (w := w13) (below_callsG (HG13.out.below (lit_below w13 [kB])) (some ⟨w13.heap.size, 0, none⟩) 1 [kB] (lit_C w13 [kB] (by decide)) (by decide) (by decide)) G0_below rfl rfl
  go_wp2_with fail
  refine q1.mono ?_
  rintro e w14 ⟨A14, c14, rfl, hc14, hC14, hB14⟩
  clear q1
  have HN14 := Aside0.mk (HN13.out.trans (hB14.mono HN13.out.size))
  have HG14 := Aside0.mk (HG13.out.below hB14)
  have HY14 := Aside0.mk (Kd.C_below HY13.out hB14)
  have HR14 := Aside0.mk hC14
  clear HN13 HG13 HY13 hC14 hB14
  have q1 := lit_equal (l := [kB, kD]) HR14.out hc14 rfl (by decide)
  go_wp2_with fail
  refine q1.mono ?_
  rintro e w15 ⟨rfl, hB15⟩
  clear q1
  have HN15 := Aside0.mk (HN14.out.trans (hB15.mono HN14.out.size))
  have HG15 := Aside0.mk (HG14.out.below hB15)
  have HY15 := Aside0.mk (Kd.C_below HY14.out hB15)
  clear HN14 HG14 HY14 hB15
  clear HR14
  have q1 := lit_row (w := w15) (above_callsG (HG15.out.below (lit_below w15 [kD])) (some ⟨w15.heap.size, 0, none⟩) 1 [kD] (lit_C w15 [kD] (by decide)) (by decide) (by decide)) G0_above rfl rfl
  go_wp2_with fail
  refine q1.mono ?_
  rintro e w16 ⟨A16, c16, rfl, hc16, hC16, hB16⟩
  clear q1
  have HN16 := Aside0.mk (HN15.out.trans (hB16.mono HN15.out.size))
  have HG16 := Aside0.mk (HG15.out.below hB16)
  have HY16 := Aside0.mk (Kd.C_below HY15.out hB16)
  have HR16 := Aside0.mk hC16
  clear HN15 HG15 HY15 hC16 hB16
  have q1 := lit_equal (l := [kA, kB, kC, kD]) HR16.out hc16 rfl (by decide)
  go_wp2_with fail
  refine q1.mono ?_
  rintro e w17 ⟨rfl, hB17⟩
  clear q1
  have HN17 := Aside0.mk (HN16.out.trans (hB17.mono HN16.out.size))
  have HG17 := Aside0.mk (HG16.out.below hB17)
  have HY17 := Aside0.mk (Kd.C_below HY16.out hB17)
  clear HN16 HG16 HY16 hB17
  clear HR16
  have q1 := lit_row (w := w17) (below_callsG (HG17.out.below (lit_below w17 [kZ])) (some ⟨w17.heap.size, 0, none⟩) 1 [kZ] (lit_C w17 [kZ] (by decide)) (by decide) (by decide)) G0_belowZ rfl rfl
  go_wp2_with fail
  refine q1.mono ?_
  rintro e w18 ⟨A18, c18, rfl, hc18, hC18, hB18⟩
  clear q1
  clear hC18
  have HN18 := Aside0.mk (HN17.out.trans (hB18.mono HN17.out.size))
  have HG18 := Aside0.mk (HG17.out.below hB18)
  have HY18 := Aside0.mk (Kd.C_below HY17.out hB18)
  clear HN17 HG17 HY17 hB18
  have q1 := lit_equal (l := [kA]) HY18.out hc5 rfl (by decide)
  go_wp2_with fail
  refine q1.mono ?_
  rintro e w19 ⟨rfl, hB19⟩
  clear q1
  have HN19 := Aside0.mk (HN18.out.trans (hB19.mono HN18.out.size))
  have HG19 := Aside0.mk (HG18.out.below hB19)
  clear HN18 HG18 hB19
  clear HY18
  have q1 := link_calls HG19.out kD kB (by decide) (by decide) (by decide +kernel)
  go_wp2_with fail
  refine q1.mono ?_
  rintro e w20 ⟨rfl, hD20⟩
  clear q1
  obtain ⟨r20, hM20, hB20⟩ : NewDid w2 q G1 w20 := NewDid.did HG19.out HN19.out hD20
  have HG20 := Aside0.mk hM20
  have HN20 := Aside0.mk hB20
  clear hM20 hB20 hD20 HG19 HN19
  have q1 := order_is HG20.out G1_order rfl
  go_wp2_with fail
  refine q1.mono ?_
  rintro e w21 ⟨A21, c21, rfl, hc21, hC21, hB21⟩
  clear q1
  clear hC21
  have HN21 := Aside0.mk (HN20.out.trans (hB21.mono HN20.out.size))
  have HG21 := Aside0.mk (HG20.out.below hB21)
  clear HN20 HG20 hB21
  have q1 := cycle_is HG21.out G1_cycle rfl rfl rfl
  go_wp2_with fail
  refine q1.mono ?_
  rintro e w22 ⟨A22, c22, rfl, hc22, hC22, hB22⟩
  clear q1
  have HN22 := Aside0.mk (HN21.out.trans (hB22.mono HN21.out.size))
  have HG22 := Aside0.mk (HG21.out.below hB22)
  have HR22 := Aside0.mk hC22
  clear HN21 HG21 hC22 hB22
  have q1 := lit_equal (l := [kB, kD]) HR22.out hc22 rfl (by decide)
  go_wp2_with fail
  refine q1.mono ?_
  rintro e w23 ⟨rfl, hB23⟩
  clear q1
  have HN23 := Aside0.mk (HN22.out.trans (hB23.mono HN22.out.size))
  have HG23 := Aside0.mk (HG22.out.below hB23)
  clear HN22 HG22 hB23
  clear HR22
  have q1 := link_calls HG23.out kC kC (by decide) (by decide) (by decide +kernel)
  go_wp2_with fail
  refine q1.mono ?_
  rintro e w24 ⟨rfl, hD24⟩
  clear q1
  obtain ⟨r24, hM24, hB24⟩ : NewDid w2 q G2 w24 := NewDid.did HG23.out HN23.out hD24
  have HG24 := Aside0.mk hM24
  have HN24 := Aside0.mk hB24
  clear hM24 hB24 hD24 HG23 HN23
  have q1 := cycle_is HG24.out G2_cycle rfl rfl rfl
  go_wp2_with fail
  refine q1.mono ?_
  rintro e w25 ⟨A25, c25, rfl, hc25, hC25, hB25⟩
  clear q1
  have HN25 := Aside0.mk (HN24.out.trans (hB25.mono HN24.out.size))
  have HG25 := Aside0.mk (HG24.out.below hB25)
  have HR25 := Aside0.mk hC25
  clear HN24 HG24 hC25 hB25
  clear HG25
  have q1 := same_below (way_nil w25 kA kA)
  go_wp2_with fail
  refine q1.mono ?_
  rintro e w26 ⟨rfl, hB26⟩
  clear q1
  have HN26 := Aside0.mk (HN25.out.trans (hB26.mono HN25.out.size))
  have HR26 := Aside0.mk (Kd.C_below HR25.out hB26)
  clear HN25 HR25 hB26
  have q1 := lit_equal (l := [kC]) HR26.out hc25 rfl (by decide)
  go_wp2_with fail
  refine q1.mono ?_
  rintro e w27 ⟨rfl, hB27⟩
  clear q1
  have HN27 := Aside0.mk (HN26.out.trans (hB27.mono HN26.out.size))
  clear HN26 hB27
  clear HR26
  have q1 := lit_same (w := w27) (l := [kA]) (add_nil _ (some ⟨w27.heap.size, 0, none⟩) 1 1)
  go_wp2_with fail
  refine q1.mono ?_
  rintro e w28 ⟨rfl, hB28⟩
  clear q1
  have HN28 := Aside0.mk (HN27.out.trans (hB28.mono HN27.out.size))
  clear HN27 hB28
  have q1 := link_nil w28 kA kB
  go_wp2_with fail
  refine q1.mono ?_
  rintro e w29 ⟨rfl, hB29⟩
  clear q1
  have HN29 := Aside0.mk (HN28.out.trans (hB29.mono HN28.out.size))
  clear HN28 hB29
  have q1 := same_below (has_nil w29 kA)
  go_wp2_with fail
  refine q1.mono ?_
  rintro e w30 ⟨rfl, hB30⟩
  clear q1
  have HN30 := Aside0.mk (HN29.out.trans (hB30.mono HN29.out.size))
  clear HN29 hB30
  have q1 := same_below (names_nil w30)
  go_wp2_with fail
  refine q1.mono ?_
  rintro e w31 ⟨rfl, hB31⟩
  clear q1
  have HN31 := Aside0.mk (HN30.out.trans (hB31.mono HN30.out.size))
  clear HN30 hB31
  have q1 := same_below (edges_nil w31)
  go_wp2_with fail
  refine q1.mono ?_
  rintro e w32 ⟨rfl, hB32⟩
  clear q1
  have HN32 := Aside0.mk (HN31.out.trans (hB32.mono HN31.out.size))
  clear HN31 hB32
  have q1 := same_below (out_nil w32 kA)
  go_wp2_with fail
  refine q1.mono ?_
  rintro e w33 ⟨rfl, hB33⟩
  clear q1
  have HN33 := Aside0.mk (HN32.out.trans (hB33.mono HN32.out.size))
  clear HN32 hB33
  have q1 := same_below (in_nil w33 kA)
  go_wp2_with fail
  refine q1.mono ?_
  rintro e w34 ⟨rfl, hB34⟩
  clear q1
  have HN34 := Aside0.mk (HN33.out.trans (hB34.mono HN33.out.size))
  clear HN33 hB34
  have q1 := lit_same (w := w34) (l := [kA]) (below_nil _ (some ⟨w34.heap.size, 0, none⟩) 1 1)
  go_wp2_with fail
  refine q1.mono ?_
  rintro e w35 ⟨rfl, hB35⟩
  clear q1
  have HN35 := Aside0.mk (HN34.out.trans (hB35.mono HN34.out.size))
  clear HN34 hB35
  have q1 := lit_same (w := w35) (l := [kA]) (above_nil _ (some ⟨w35.heap.size, 0, none⟩) 1 1)
  go_wp2_with fail
  refine q1.mono ?_
  rintro e w36 ⟨rfl, hB36⟩
  clear q1
  have HN36 := Aside0.mk (HN35.out.trans (hB36.mono HN35.out.size))
  clear HN35 hB36
  have q1 := same_below (turn_nil w36)
  go_wp2_with fail
  refine q1.mono ?_
  rintro e w37 ⟨rfl, hB37⟩
  clear q1
  have HN37 := Aside0.mk (HN36.out.trans (hB37.mono HN36.out.size))
  clear HN36 hB37
  have HE := Aside0.mk (HW.out.trans (HN37.out.mono HW.out.size))
  clear HN37 HW
  go_wp2_with fail
  go_ret
  exact ⟨rfl, HE.out⟩
end Go.Proofs.Ytmhbdgnajlnhnaa.P
