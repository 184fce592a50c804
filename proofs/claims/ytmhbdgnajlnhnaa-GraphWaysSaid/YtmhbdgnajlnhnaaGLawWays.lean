/- GraphWays: the law's walk. -/
import Derived.Test.YtmhbdgnajlnhnaaGLawBase
import Derived.Test.YtmhbdgnajlnhnaaPlWays
import Derived.Test.YtmhbdgnajlnhnaaGWaysB
import Derived.Deep.RegionHeld3
namespace Go.Proofs.Ytmhbdgnajlnhnaa.P
open Go.RowKit Go.Maps Go.MapKept Go.ChangeMaps Go.Proofs.YtmhbdgnajlnhnaaW.PrintWords Go.Proofs.YtmhbdgnajlnhnaaW.PrintLast Go.Proofs.YtmhbdgnajlnhnaaW.PrintMore Go.Proofs.Ytmhbdgnajlnhnaa.Pl
set_option linter.unusedVariables false
set_option linter.unusedSimpArgs false
set_option maxRecDepth 1000000 in
set_option maxHeartbeats 4000000 in
theorem ways_walk (A0 : Option Addr) (c0 : Nat) (E : List S45) (A1 : Option Addr) (c1 : Nat) (names : List ByteArray) (from_ : ByteArray) (w : World) (h0 : Kd.C k45 w A0 E.length E) (hc0 : E.length ≤ c0) (hE : ∀ e, e ∈ E → e.f0.size ≤ maxLen ∧ e.f1.size ≤ maxLen) (h1 : Kd.C Kd.string w A1 names.length names) (hc1 : names.length ≤ c1) (hn : ∀ s, s ∈ names → s.size ≤ maxLen) (zfrom_ : from_.size ≤ maxLen) :
    Calls Try.prog 4 #[.slice A0 E.length c0, .slice A1 names.length c1, .string from_] w fun e w' => e = .returned (.bool true) ∧ Below w.heap.size w w' := by
  have hwk := works_calls w
  have hu29 := Try.underlying29
  have HC := Aside0.mk (And.intro h0 h1)
  have HS := Aside0.mk (And.intro hE hn)
  clear h0 h1 hE hn
  go_enter Try.func4, Try.ntmps4
  go_wp2_with fail
  refine hwk.mono ?_
  rintro e w1 ⟨rfl, hB1⟩
  clear hwk
  have hlg := long_calls A0 c0 E A1 c1 names (Kd.C_below HC.out.1 hB1) hc0 (Kd.C_below HC.out.2 hB1) hc1
  by_cases hl : E.length > 40 ∨ names.length > 20
  · rw [decide_eq_true hl] at hlg
    clear hl
    go_wp2_with fail
    refine hlg.mono ?_
    rintro e w2 ⟨rfl, ⟨n2, rfl⟩⟩
    clear hlg
    go_wp2_with fail
    go_ret
    exact ⟨rfl, pw_below_drewN hB1 n2⟩
  rw [decide_eq_false hl] at hlg
  have d2 : E.length ≤ 40 := by omega
  have hnl : names.length ≤ 20 := by omega
  go_wp2_with fail
  refine hlg.mono ?_
  rintro e w2 ⟨rfl, ⟨n2, rfl⟩⟩
  clear hlg
  have hB2 : Below w.heap.size w (w1.drewN n2) := pw_below_drewN hB1 n2
  obtain ⟨wp, hwp⟩ : ∃ wp, w1.drewN n2 = wp := ⟨_, rfl⟩
  rw [hwp] at hB2
  have hmd := made_calls (w := wp) A0 c0 E A1 c1 names (Kd.C_below HC.out.1 hB2) (Kd.C_below HC.out.2 hB2) HS.out.1 HS.out.2 (by omega) (by omega)
  have HB2 := Aside0.mk hB2
  try rw [hwp]
  clear hl hB1 hB2
  go_wp2_with fail
  refine hmd.mono ?_
  rintro e w3 ⟨q, rfl, r3, hM3, hB3⟩
  clear hmd
  have hB13 := HB2.out.trans (hB3.mono HB2.out.size)
  have hGok := madeG_ok HS.out.1 HS.out.2
  have hGl := madeG_len E names
  obtain ⟨G, hG⟩ : ∃ G, madeG E names = G := ⟨_, rfl⟩
  rw [hG] at hM3 hGok hGl
  have HT : Aside0 (∀ W, Below w3.heap.size w3 W → GMem W wp.heap.size r3 q G) := ⟨fun W hb => hM3.below hb⟩
  have HBW : Aside0 (Below w.heap.size w w3) := ⟨hB13⟩
  have HG := Aside0.mk hGok
  have hnsl : G.ns.length ≤ 1000 := by omega
  clear hG hM3 hB3 hB13 hGok hwp hGl
  obtain ⟨w4, hw4⟩ : ∃ w4, w3.alloc (.cells #[.string from_] 9) = w4 := ⟨_, rfl⟩
  have hbel : Below w3.heap.size w3 w4 := by rw [← hw4]; exact below_alloc (Below.refl _ w3) _
  have hC1 : Kd.string.C w4 (some ⟨w3.heap.size, 0, none⟩) [from_].length [from_] := by rw [← hw4]; exact one_C w3 from_
  have hbl := below_callsG (HT.out w4 hbel) (some ⟨w3.heap.size, 0, none⟩) 1 [from_] hC1 (fun s hs => by rw [List.mem_singleton] at hs; subst hs; exact zfrom_) (by simp)
  have hth := fun b => way_there HG.out from_ b
  have hKl := belowG_len G [from_]
  obtain ⟨K, hK⟩ : ∃ K, belowG G [from_] = K := ⟨_, rfl⟩
  rw [hK] at hbl hKl
  simp only [hK] at hth
  have HTH := Aside0.mk hth
  have H4 := Aside0.mk hbel
  clear hC1 hbel hK hth
  go_wp2_with fail
  try rw [hw4]
  refine hbl.mono ?_
  rintro e w5 ⟨v5, rfl, hR5, _, hB5⟩
  clear hbl hw4
  obtain ⟨A5, c5, rfl, hc5, hK5⟩ := Kd.R_reads hR5
  have hB35 := H4.out.trans (hB5.mono H4.out.size)
  have hns := names_calls (HT.out w5 hB35)
  have H5 := Aside0.mk (And.intro hB35 hK5)
  clear hR5 hK5 hB5 hB35 H4
  go_wp2_with fail
  refine hns.mono ?_
  rintro e w6 ⟨v6, rfl, hR6, _, hB6⟩
  clear hns
  obtain ⟨A6, c6, rfl, hc6, hK6⟩ := Kd.R_reads hR6
  have hB36 := H5.out.1.trans (hB6.mono H5.out.1.size)
  have HK : Aside0 (∀ W, Below w6.heap.size w6 W → GMem W wp.heap.size r3 q G ∧ Kd.C Kd.string W A5 K.length K ∧ Kd.C Kd.string W A6 G.ns.length G.ns) := ⟨fun W hb =>
    ⟨HT.out W (hB36.trans (hb.mono hB36.size)), Kd.C_below H5.out.2 (hB6.trans (hb.mono hB6.size)), Kd.C_below hK6 hb⟩⟩
  have HBZ : Aside0 (Below w.heap.size w w6) := ⟨HBW.out.trans (hB36.mono HBW.out.size)⟩
  clear hR6 hK6 hB6 hB36 H5 HT HBW
  go_wp2_with fail
  go_loopg [34] (G.ns.length + 1) (fun n v wr => ∃ i : Nat, v = .int .i64 (i : Int) ∧ Aside0 (i + n = G.ns.length + 1) ∧ Aside0 (Below w6.heap.size w6 wr))
  case atStart => exact ⟨0, rfl, ⟨by omega⟩, ⟨Below.refl _ _⟩⟩
  case round =>
    obtain ⟨i, rfl, ⟨hn⟩, HR⟩ := hrel
    by_cases ci : i < G.ns.length
    case neg =>
      have cib : decide ((i : Int) < (G.ns.length : Int)) = false := decide_eq_false (by omega)
      have HE : Aside0 (Below w.heap.size w wr) := ⟨HBZ.out.trans (HR.out.mono HBZ.out.size)⟩
      clear HR
      go_wp2_with fail
      go_ret
      exact ⟨rfl, HE.out⟩
    have cib : decide ((i : Int) < (G.ns.length : Int)) = true := decide_eq_true (by omega)
    obtain ⟨ad, had, hcell⟩ := Kd.at_string (HK.out wr HR.out).2.2 (i : Int) (Int.natCast_nonneg _) (by omega)
    subst had
    rw [Int.toNat_natCast, get_rd ci] at hcell
    have hin : G.ns[i] ∈ G.ns := List.getElem_mem ci
    obtain ⟨b, hbe⟩ : ∃ b, G.ns[i] = b := ⟨_, rfl⟩
    rw [hbe] at hcell hin
    have hwy := way_callsG (HK.out wr HR.out).1 from_ b zfrom_ (HG.out.short b hin)
    have hth := HTH.out b
    have hwl := wayG_len HG.out from_ b
    have hno := fun h => way_not (G := G) (a := from_) (b := b) h
    have hpa := fun h => way_parts (G := G) (a := from_) (b := b) h
    have hwi : ∀ x, x ∈ (wayG G from_ b).1 → x.size ≤ maxLen := fun x hx => by
      obtain ⟨j, hj, e⟩ := List.getElem_of_mem hx
      exact e ▸ HG.out.short _ (way_in HG.out hj)
    obtain ⟨L, hL⟩ : ∃ L, (wayG G from_ b).1 = L := ⟨_, rfl⟩
    rw [hL] at hwi
    have HWI := Aside0.mk hwi
    clear hwi
    obtain ⟨k, hk⟩ : ∃ k, (wayG G from_ b).2 = k := ⟨_, rfl⟩
    rw [hL, hk] at hwy
    rw [hk] at hth hno hpa
    rw [hL] at hno hpa hwl
    have hd0 : (!k == decide (0 < L.length)) = false := by
      cases k with
      | true => obtain ⟨n, h, _⟩ := hpa rfl; rw [decide_eq_true (show 0 < L.length by omega)]; rfl
      | false => rw [hno rfl]; rfl
    have hAl : ∃ n, L = [] ∨ Along G b n L := by
      cases k with
      | true => obtain ⟨n, _, h, _⟩ := hpa rfl; exact ⟨n, .inr h⟩
      | false => exact ⟨0, .inl (hno rfl)⟩
    have HPA := Aside0.mk (And.intro hno hpa)
    have HAL := Aside0.mk hAl
    obtain ⟨gm, rfl⟩ : ∃ gm : Nat, gm = gk := ⟨_, rfl⟩
    clear hbe hL hk hno hpa hAl hin
    go_wp2_with fail
    refine hwy.mono ?_
    rintro e w7 ⟨v7, rfl, hR7, _, hB7⟩
    clear hwy
    obtain ⟨A7, c7, rfl, hc7, hK7⟩ := Kd.R_reads hR7
    have hB67 := HR.out.trans (hB7.mono HR.out.size)
    have hct := contains_calls A5 c5 K b (HK.out w7 hB67).2.1 hc5 (by omega)
    rw [hth] at hct
    have HK7 := Aside0.mk (And.intro hB67 hK7)
    have hkk : (k != k) = false := bne_self_eq_false k
    clear hR7 hK7 hB7 hB67 HR hth hcell
    go_wp2_with fail
    refine hct.mono ?_
    rintro e w8 ⟨rfl, ⟨n8, rfl⟩⟩
    clear hct
    obtain ⟨w8, hw8⟩ : ∃ w8, w7.drewN n8 = w8 := ⟨_, rfl⟩
    have hB78 : Below w7.heap.size w7 w8 := by rw [← hw8]; exact pw_below_drewN (Below.refl _ _) n8
    rw [hw8]
    have HK8 : Aside0 (Below w6.heap.size w6 w8 ∧ Kd.C Kd.string w8 A7 L.length L) := ⟨HK7.out.1.trans (hB78.mono HK7.out.1.size), Kd.C_below HK7.out.2 hB78⟩
    clear HK7 hw8 hB78
    go_wp2_with fail
    go_loopg [59] (L.length + 1) (fun n v wr => ∃ j : Nat, v = .int .i64 (j : Int) ∧ Aside0 (j + n = L.length + 1) ∧ Aside0 (Below w8.heap.size w8 wr))
    case atStart => exact ⟨0, rfl, ⟨by omega⟩, ⟨Below.refl _ _⟩⟩
    case round =>
      obtain ⟨j, rfl, ⟨hn2⟩, HR⟩ := hrel
      have HB := Aside0.mk (HK8.out.1.trans (HR.out.mono HK8.out.1.size))
      have HC7 := Aside0.mk (Kd.C_below HK8.out.2 HR.out)
      by_cases cj : j < L.length
      case neg =>
        have cjb : decide ((j : Int) < (L.length : Int)) = false := decide_eq_false (by omega)
        clear HR HK8
        cases k with
        | false =>
          clear hd0 hkk HPA HC7
          go_wp2_with fail
          go_roundg (gm - 1)
          case measure => omega
          case rel => exact ⟨i + 1, by first | rfl | (rw [w64_ (by omega) (by omega)]; rfl) | simp, ⟨by omega⟩, HB⟩
        | true =>
          obtain ⟨n, hLn, hAn, h0a, hnb⟩ := HPA.out.2 rfl
          obtain ⟨ad7, had7, hcell0⟩ := Kd.at_string HC7.out (0 : Int) (Int.le_refl _) (by omega)
          subst had7
          obtain ⟨ad8, had8, hcelln⟩ := Kd.at_string HC7.out (n : Int) (Int.natCast_nonneg _) (by omega)
          injection had8 with had8
          subst had8
          rw [h0a, show (0 : Int).toNat = 0 from rfl] at hcell0
          have hcell00 : wr.cell? ad7 = some (.string from_) := by rw [← hcell0]; simp [Addr.add]
          rw [hnb, Int.toNat_natCast] at hcelln
          have hwr : IntKind.i64.wrap ((L.length : Int) - 1) = (n : Int) := by rw [IntKind.wrap_i64]; omega
          have ci2 : n < L.length := by omega
          have ci3 : 0 < L.length := by omega
          clear hd0 hkk HPA HC7 hAn hnb h0a hLn
          go_wp2_with fail
          go_roundg (gm - 1)
          case measure => omega
          case rel => exact ⟨i + 1, by first | rfl | (rw [w64_ (by omega) (by omega)]; rfl) | simp, ⟨by omega⟩, HB⟩
      have cjb : decide ((j : Int) < (L.length : Int)) = true := decide_eq_true (by omega)
      obtain ⟨ad7, had7, hcell⟩ := Kd.at_string HC7.out (j : Int) (Int.natCast_nonneg _) (by omega)
      subst had7
      rw [Int.toNat_natCast, get_rd cj] at hcell
      obtain ⟨n, hnL⟩ := HAL.out
      have hA : Along G b n L := hnL.resolve_left (fun e => by rw [e] at cj; exact absurd cj (Nat.not_lt_zero _))
      have HA := Aside0.mk hA
      have hnew := along_new hA cj
      have hxs := HWI.out _ (List.getElem_mem cj)
      obtain ⟨x, hxe⟩ : ∃ x, L[j] = x := ⟨_, rfl⟩
      rw [hxe] at hcell hnew hxs
      have htl : (L.take j).length = j := by rw [List.length_take]; omega
      have htk := (cutS (some ad7) c7 L j (by omega) hc7).2
      have hct := contains_calls (some ad7) c7 (L.take j) x (by have := Kd.C_take (m := j) HC7.out (by omega); first | exact this | (rw [htl]; exact this)) (by omega) (by omega)
      rw [htl, hnew] at hct
      have HXE := Aside0.mk hxe
      obtain ⟨m, hm⟩ : ∃ m, min (j + 2) L.length = m := ⟨_, rfl⟩
      have hm1 : m ≤ L.length := by omega
      have hm2 : m < L.length → m = j + 2 := by omega
      have hmin : min ((j : Int) + 2) (L.length : Int) = (m : Int) := by omega
      have hmin2 : min (((j + 2 : Nat)) : Int) (L.length : Int) = (m : Int) := by omega
      have hwr2 : IntKind.i64.wrap ((j : Int) + 2) = (j : Int) + 2 := by rw [IntKind.wrap_i64]; omega
      obtain ⟨⟨AD, hcu, hcuC⟩, _⟩ := cutS (some ad7) c7 L m hm1 hc7
      have hdl : (L.drop m).length = L.length - m := List.length_drop
      have HDC : Aside0 (∀ W, Kd.C Kd.string W (some ad7) L.length L → Kd.C Kd.string W AD (L.length - m) (L.drop m)) := ⟨fun W h => by rw [← hdl]; exact hcuC W h⟩
      obtain ⟨gm2, rfl⟩ : ∃ gm2 : Nat, gm2 = gk := ⟨_, rfl⟩
      clear hcuC hdl hnL hA hnew hxe hm
      rcases Nat.eq_zero_or_pos j with hj0 | hjp
      · have tj : decide ((0 : Int) < (j : Int)) = false := decide_eq_false (by omega)
        have tjn : ¬ 0 < j := by omega
        clear hj0
        go_wp2_with fail
        refine hct.mono ?_
        rintro e w9 ⟨rfl, ⟨n9, rfl⟩⟩
        clear hct
        obtain ⟨w10, hw10⟩ : ∃ w10, wr.drewN n9 = w10 := ⟨_, rfl⟩
        have hB10 : Below wr.heap.size wr w10 := by rw [← hw10]; exact pw_below_drewN (Below.refl _ _) n9
        rw [hw10]
        have HW := Aside0.mk (And.intro (HR.out.trans (hB10.mono HR.out.size)) (And.intro (HB.out.trans (hB10.mono HB.out.size)) (Kd.C_below HC7.out hB10)))
        clear hw10 hB10 HR HB HC7 hcell
        go_wp2_with fail
        go_loopg [93] (L.length - m + 1) (fun n v wr => ∃ p : Nat, v = .int .i64 (p : Int) ∧ Aside0 (p + n = L.length - m + 1) ∧ Aside0 (Below w10.heap.size w10 wr))
        case atStart => exact ⟨0, rfl, ⟨by omega⟩, ⟨Below.refl _ _⟩⟩
        case round =>
          obtain ⟨p, rfl, ⟨hn3⟩, HR⟩ := hrel
          have HBB := Aside0.mk (And.intro (HW.out.1.trans (HR.out.mono HW.out.1.size)) (And.intro (HW.out.2.1.trans (HR.out.mono HW.out.2.1.size)) (Kd.C_below HW.out.2.2 HR.out)))
          by_cases cp : p < L.length - m
          case neg =>
            have cpb : decide ((p : Int) < ((L.length - m : Nat) : Int)) = false := decide_eq_false (by omega)
            have HX := Aside0.mk HBB.out.1
            clear HBB HR
            go_wp2_with fail
            go_roundg (gm2 - 1)
            case measure => omega
            case rel => exact ⟨j + 1, by first | rfl | (rw [w64_ (by omega) (by omega)]; rfl) | simp, ⟨by omega⟩, HX⟩
          have cpb : decide ((p : Int) < ((L.length - m : Nat) : Int)) = true := decide_eq_true (by omega)
          have hme := hm2 (by omega)
          have hdl : (L.drop m).length = L.length - m := List.length_drop
          obtain ⟨ad3, had3, hcell⟩ := Kd.at_string (HDC.out wr HBB.out.2.2) (p : Int) (Int.natCast_nonneg _) (by omega)
          subst had3
          have hsh : hasB (G.out x) (L[m + p]'(by omega)) = false := by
            have := along_short HA.out cj (show m + p < L.length by omega) (by omega)
            rw [HXE.out] at this
            exact this
          rw [Int.toNat_natCast, get_rd (by omega), List.getElem_drop] at hcell
          obtain ⟨y, hye⟩ : ∃ y, L[m + p]'(by omega) = y := ⟨_, rfl⟩
          rw [hye] at hcell hsh
          have hou := out_calls (HK.out wr HBB.out.2.1).1 x hxs
          have hol := out_len (HK.out wr HBB.out.2.1).1 x
          clear hye hdl hme HBB
          go_wp2_with fail
          refine hou.mono ?_
          rintro e w13 ⟨v13, rfl, hR13, _, hB13⟩
          clear hou
          obtain ⟨A13, c13, rfl, hc13, hK13⟩ := Kd.R_reads hR13
          have hct := contains_calls A13 c13 (G.out x) y hK13 hc13 (by omega)
          rw [hsh] at hct
          have HB13 := Aside0.mk (HR.out.trans (hB13.mono HR.out.size))
          clear hR13 hK13 hB13 HR hcell hsh
          go_wp2_with fail
          refine hct.mono ?_
          rintro e w14 ⟨rfl, ⟨n14, rfl⟩⟩
          clear hct
          have HX := Aside0.mk (pw_below_drewN HB13.out n14)
          clear HB13
          go_wp2_with fail
          go_roundg (gk - 1)
          case measure => omega
          case rel => exact ⟨p + 1, by first | rfl | (rw [w64_ (by omega) (by omega)]; rfl) | simp, ⟨by omega⟩, HX⟩
      · have tj : decide ((0 : Int) < (j : Int)) = true := decide_eq_true (by omega)
        have tjn : 0 < j := hjp
        obtain ⟨j', hj⟩ : ∃ j', j = j' + 1 := ⟨j - 1, by omega⟩
        have hj1 : IntKind.i64.wrap ((j : Int) - 1) = (j' : Int) := by rw [IntKind.wrap_i64]; omega
        obtain ⟨ad9, had9, hcellp⟩ := Kd.at_string HC7.out (j' : Int) (Int.natCast_nonneg _) (by omega)
        injection had9 with had9
        subst had9
        have cjp : j' < L.length := by omega
        rw [Int.toNat_natCast, get_rd cjp] at hcellp
        have hnx : ∀ jj (hh : jj < L.length), jj = j' + 1 → hasB (G.out L[j']) L[jj] = true := fun jj hh e => by subst e; exact along_next HA.out hh
        replace hnx := hnx j cj hj
        rw [HXE.out] at hnx
        have hys := HWI.out _ (List.getElem_mem cjp)
        obtain ⟨y, hye⟩ : ∃ y, L[j'] = y := ⟨_, rfl⟩
        rw [hye] at hcellp hnx hys
        clear hye hjp hj
        go_wp2_with fail
        refine hct.mono ?_
        rintro e w9 ⟨rfl, ⟨n9, rfl⟩⟩
        clear hct
        obtain ⟨w10, hw10⟩ : ∃ w10, wr.drewN n9 = w10 := ⟨_, rfl⟩
        have hB10 : Below wr.heap.size wr w10 := by rw [← hw10]; exact pw_below_drewN (Below.refl _ _) n9
        rw [hw10]
        have hcp := (hB10.cell (World.block_lt_of_cell? _ _ hcellp)).trans hcellp
        have hou := out_calls (HK.out w10 (HB.out.trans (hB10.mono HB.out.size))).1 y hys
        have HB10 := Aside0.mk hB10
        clear hw10 hB10 hcell hcellp
        go_wp2_with fail
        refine hou.mono ?_
        rintro e w11 ⟨v11, rfl, hR11, _, hB11⟩
        clear hou hcp
        obtain ⟨A11, c11, rfl, hc11, hK11⟩ := Kd.R_reads hR11
        have hol := out_len (HK.out w10 (HB.out.trans (HB10.out.mono HB.out.size))).1 y
        have hct := contains_calls A11 c11 (G.out y) x hK11 hc11 (by omega)
        rw [hnx] at hct
        have HB11 := Aside0.mk (HB10.out.trans (hB11.mono HB10.out.size))
        clear hR11 hK11 hB11 HB10 hnx
        go_wp2_with fail
        refine hct.mono ?_
        rintro e w12 ⟨rfl, ⟨n12, rfl⟩⟩
        clear hct
        obtain ⟨w10, hw10⟩ : ∃ w10, w11.drewN n12 = w10 := ⟨_, rfl⟩
        have hB10 : Below wr.heap.size wr w10 := by rw [← hw10]; exact pw_below_drewN HB11.out n12
        rw [hw10]
        have HW := Aside0.mk (And.intro (HR.out.trans (hB10.mono HR.out.size)) (And.intro (HB.out.trans (hB10.mono HB.out.size)) (Kd.C_below HC7.out hB10)))
        clear hw10 hB10 HR HB HC7 HB11 hj1
        go_wp2_with fail
        go_loopg [93] (L.length - m + 1) (fun n v wr => ∃ p : Nat, v = .int .i64 (p : Int) ∧ Aside0 (p + n = L.length - m + 1) ∧ Aside0 (Below w10.heap.size w10 wr))
        case atStart => exact ⟨0, rfl, ⟨by omega⟩, ⟨Below.refl _ _⟩⟩
        case round =>
          obtain ⟨p, rfl, ⟨hn3⟩, HR⟩ := hrel
          have HBB := Aside0.mk (And.intro (HW.out.1.trans (HR.out.mono HW.out.1.size)) (And.intro (HW.out.2.1.trans (HR.out.mono HW.out.2.1.size)) (Kd.C_below HW.out.2.2 HR.out)))
          by_cases cp : p < L.length - m
          case neg =>
            have cpb : decide ((p : Int) < ((L.length - m : Nat) : Int)) = false := decide_eq_false (by omega)
            have HX := Aside0.mk HBB.out.1
            clear HBB HR
            go_wp2_with fail
            go_roundg (gm2 - 1)
            case measure => omega
            case rel => exact ⟨j + 1, by first | rfl | (rw [w64_ (by omega) (by omega)]; rfl) | simp, ⟨by omega⟩, HX⟩
          have cpb : decide ((p : Int) < ((L.length - m : Nat) : Int)) = true := decide_eq_true (by omega)
          have hme := hm2 (by omega)
          have hdl : (L.drop m).length = L.length - m := List.length_drop
          obtain ⟨ad3, had3, hcell⟩ := Kd.at_string (HDC.out wr HBB.out.2.2) (p : Int) (Int.natCast_nonneg _) (by omega)
          subst had3
          have hsh : hasB (G.out x) (L[m + p]'(by omega)) = false := by
            have := along_short HA.out cj (show m + p < L.length by omega) (by omega)
            rw [HXE.out] at this
            exact this
          rw [Int.toNat_natCast, get_rd (by omega), List.getElem_drop] at hcell
          obtain ⟨y, hye⟩ : ∃ y, L[m + p]'(by omega) = y := ⟨_, rfl⟩
          rw [hye] at hcell hsh
          have hou := out_calls (HK.out wr HBB.out.2.1).1 x hxs
          have hol := out_len (HK.out wr HBB.out.2.1).1 x
          clear hye hdl hme HBB
          go_wp2_with fail
          refine hou.mono ?_
          rintro e w13 ⟨v13, rfl, hR13, _, hB13⟩
          clear hou
          obtain ⟨A13, c13, rfl, hc13, hK13⟩ := Kd.R_reads hR13
          have hct := contains_calls A13 c13 (G.out x) y hK13 hc13 (by omega)
          rw [hsh] at hct
          have HB13 := Aside0.mk (HR.out.trans (hB13.mono HR.out.size))
          clear hR13 hK13 hB13 HR hcell hsh
          go_wp2_with fail
          refine hct.mono ?_
          rintro e w14 ⟨rfl, ⟨n14, rfl⟩⟩
          clear hct
          have HX := Aside0.mk (pw_below_drewN HB13.out n14)
          clear HB13
          go_wp2_with fail
          go_roundg (gk - 1)
          case measure => omega
          case rel => exact ⟨p + 1, by first | rfl | (rw [w64_ (by omega) (by omega)]; rfl) | simp, ⟨by omega⟩, HX⟩
end Go.Proofs.Ytmhbdgnajlnhnaa.P
