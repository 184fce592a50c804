/- Folded: GRTurn, GRTurnG. -/
import Derived.Test.YtmhbdgnajlnhnaaGROf
/- brickyardref19.Turn: each edge turned about. -/
namespace Go.Proofs.Ytmhbdgnajlnhnaa.P
open Go.RowKit Go.Maps Go.MapKept Go.ChangeMaps Go.Proofs.YtmhbdgnajlnhnaaW.PrintWords Go.Proofs.YtmhbdgnajlnhnaaW.PrintLast Go.Proofs.YtmhbdgnajlnhnaaW.PrintMore Go.Proofs.Ytmhbdgnajlnhnaa.Pl
set_option linter.unusedVariables false
set_option linter.unusedSimpArgs false
section
variable {w : World}
set_option maxRecDepth 1000000 in
set_option maxHeartbeats 4000000 in
theorem rturn_calls (A0 : Option Addr) (c0 : Nat) (names : List ByteArray) (A1 : Option Addr) (c1 : Nat) (E : List S45) (h0 : Kd.C Kd.string w A0 names.length names) (hc0 : names.length ≤ c0) (h1 : Kd.C k45 w A1 E.length E) (hc1 : E.length ≤ c1) (s0 : E.length ≤ 1000000) (s1 : names.length ≤ 1000000) :
    Calls Try.prog 21 #[.agg #[.slice A0 names.length c0, .slice A1 E.length c1]] w fun e w' => ∃ (v0 v1 : Value), e = .returned (.agg #[v0, v1]) ∧ Kd.R Kd.string 9 w' w.heap.size (fun _ => True) v0 (srt (allE names (E.map swapE))) ∧ Kd.R k45 45 w' w.heap.size (fun _ => True) v1 (ofE (E.map swapE)) ∧ Below w.heap.size w w' := by
  have hu29 := Try.underlying29
  have hu45 := Try.underlying45
  have HC := Aside0.mk (And.intro h0 h1)
  clear h0 h1
  go_enter Try.func21, Try.ntmps21
  go_wp2_with fail
  obtain ⟨wb, hwb⟩ : ∃ wb : World, (w.alloc (.cells #[.slice A0 names.length c0, .slice A1 E.length c1] 29)).alloc (.cells #[.slice none 0 0, .slice none 0 0] 29) = wb := ⟨_, rfl⟩
  have hb1 : Below w.heap.size w wb := by rw [← hwb]; exact ((Below.refl _ w).alloc (Nat.le_refl _) _).alloc (by rw [alloc_size]; omega) _
  have hg1 : wb.heap[w.heap.size]? = some (.cells #[.slice A0 names.length c0, .slice A1 E.length c1] 29 (0, 0)) := by rw [← hwb, alloc_old (by rw [alloc_size]; omega)]; exact alloc_new
  have hg2 : wb.heap[w.heap.size + 1]? = some (.cells #[.slice none 0 0, .slice none 0 0] 29 (0, 0)) := by
    rw [← hwb]
    have := alloc_new (w := w.alloc (.cells #[.slice A0 names.length c0, .slice A1 E.length c1] 29)) (o := Obj.cells #[.slice none 0 0, .slice none 0 0] 29)
    rwa [alloc_size] at this
  try rw [hwb]
  have HB := Aside0.mk (And.intro hb1 (And.intro hg1 hg2))
  have HCELL : Aside0 (∀ W, Below wb.heap.size wb W → ((W.cell? ⟨w.heap.size, 0, none⟩ = some (.slice A0 names.length c0) ∧ W.cell? ⟨w.heap.size, 1, none⟩ = some (.slice A1 E.length c1)) ∧ W.heap[w.heap.size + 1]? = some (.cells #[.slice none 0 0, .slice none 0 0] 29 (0, 0))) ∧ Kd.C Kd.string W A0 names.length names ∧ Kd.C k45 W A1 E.length E) := ⟨fun W hb => by
    have e := blk_below HB.out.2.1 hb
    have hbw := HB.out.1.trans (hb.mono HB.out.1.size)
    exact ⟨⟨⟨by rw [blk_cell' e]; rfl, by rw [blk_cell' e]; rfl⟩, blk_below HB.out.2.2 hb⟩, Kd.C_below HC.out.1 hbw, Kd.C_below HC.out.2 hbw⟩⟩
  have H0 : Aside0 (Kd.R k45 45 wb wb.heap.size (fun _ => True) (.slice none 0 0) ((E.take 0).map swapE) ∧ Below wb.heap.size wb wb) := ⟨by rw [List.take_zero]; exact Kd.R_nil _ _ _ _ _, Below.refl _ _⟩
  obtain ⟨g, hg⟩ : ∃ g, w.heap.size = g := ⟨_, rfl⟩
  rw [hg] at HCELL
  try rw [hg]
  have hgl : g + 1 < wb.heap.size := by rw [← hg]; exact blk_lt hg2
  have HH := Aside0.mk (And.intro hg hgl)
  clear hwb hg1 hg2 hb1 hg hgl
  go_loopg [3, 4] (E.length + 1) (fun n v3 v4 wr => ∃ i : Nat, v4 = .int .i64 (i : Int) ∧ Aside0 (i + n = E.length + 1) ∧ Aside0 (Kd.R k45 45 wr wb.heap.size (fun _ => True) v3 ((E.take i).map swapE) ∧ Below wb.heap.size wb wr))
  case atStart => exact ⟨0, rfl, ⟨by omega⟩, H0⟩
  case round =>
    obtain ⟨i, rfl, ⟨hn⟩, HR⟩ := hrel
    clear H0
    obtain ⟨⟨⟨z0, z1⟩, hg2⟩, hC0, hC1⟩ := HCELL.out wr HR.out.2
    by_cases ci : i < E.length
    case neg =>
      have cib : decide ((i : Int) < (E.length : Int)) = false := decide_eq_false (by omega)
      rw [List.take_of_length_le (by omega)] at HR
      obtain ⟨A3, c3, rfl, hc3, hC3⟩ := Kd.R_reads HR.out.1
      have hml : (E.map swapE).length = E.length := List.length_map ..
      have hof := of_calls A3 c3 (E.map swapE) A0 c0 names hC3 hc3 hC0 hc0 (by omega) s1
      have HC2 := Aside0.mk hg2
      clear hC0 hC1 hC3 hg2
      rw [hml] at hof hc3 ⊢
      go_wp2_with fail
      refine hof.mono ?_
      rintro e w5 ⟨v0, v1, rfl, hR0, hR1, hB5⟩
      clear hof
      obtain ⟨B0, d0, rfl⟩ := Kd.R_slice hR0
      obtain ⟨B1, d1, rfl⟩ := Kd.R_slice hR1
      have hg5 := blk_below HC2.out hB5
      have y0 : w5.cell? ⟨g + 1, 0, none⟩ = some (.slice none 0 0) := by rw [blk_cell' hg5]; rfl
      have y1 : w5.cell? ⟨g + 1, 1, none⟩ = some (.slice none 0 0) := by rw [blk_cell' hg5]; rfl
      have f0 := blk_frozen hg5 0
      have f1 := blk_frozen hg5 1
      have HW : Aside0 (Below w.heap.size w w5) := ⟨HB.out.1.trans ((HR.out.2.trans (hB5.mono HR.out.2.size)).mono HB.out.1.size)⟩
      have HE : Aside0 (∀ wz, wz = (w5.setCell ⟨g + 1, 0, none⟩ (.slice B0 (srt (allE names (E.map swapE))).length d0)).setCell ⟨g + 1, 1, none⟩ (.slice B1 (ofE (E.map swapE)).length d1) →
          (∃ (v0 v1 : Value), Ending.returned (.agg #[.slice B0 (srt (allE names (E.map swapE))).length d0, .slice B1 (ofE (E.map swapE)).length d1]) = .returned (.agg #[v0, v1]) ∧ Kd.R Kd.string 9 wz w.heap.size (fun _ => True) v0 (srt (allE names (E.map swapE))) ∧ Kd.R k45 45 wz w.heap.size (fun _ => True) v1 (ofE (E.map swapE)) ∧ Below w.heap.size w wz) ∧ wz.heap[g + 1]? = some (.cells #[.slice B0 (srt (allE names (E.map swapE))).length d0, .slice B1 (ofE (E.map swapE)).length d1] 29 (0, 0))) := ⟨fun wz e => by
        subst e
        have hgg := HH.out.1
        have hge := HH.out.2
        have hsz := HR.out.2.size
        refine ⟨⟨_, _, rfl, ?_, ?_, ?_⟩, blk_set (blk_set hg5 0 _) 1 _⟩
        · refine Kd.R_mono (Kd.R_lower (base' := w.heap.size) (Kd.R_far (Kd.R_far (Kd.R_bound hR0) (fun k hk => ?_) _) (fun k hk => ?_) _) (by omega)) (fun _ _ => trivial)
          · show k ≠ g + 1; have := hk.2.1; omega
          · show k ≠ g + 1; have := hk.2.1; omega
        · refine Kd.R_mono (Kd.R_lower (base' := w.heap.size) (Kd.R_far (Kd.R_far (Kd.R_bound hR1) (fun k hk => ?_) _) (fun k hk => ?_) _) (by omega)) (fun _ _ => trivial)
          · show k ≠ g + 1; have := hk.2.1; omega
          · show k ≠ g + 1; have := hk.2.1; omega
        · exact (HW.out.setCell (p := ⟨g + 1, 0, none⟩) (by show w.heap.size ≤ g + 1; omega) _).setCell (p := ⟨g + 1, 1, none⟩) (by show w.heap.size ≤ g + 1; omega) _⟩
      clear hR0 hR1 hB5 hg5 HC2
      go_wp2_with fail
      refine bodyPost_ret (results_cell_row rfl _ _ (g + 1) 29 #[.slice B0 (srt (allE names (E.map swapE))).length d0, .slice B1 (ofE (E.map swapE)).length d1] (0, 0) _ rfl (HE.out _ rfl).2 hu29 rfl rfl) rfl ?_
      exact (HE.out _ rfl).1
    have cib : decide ((i : Int) < (E.length : Int)) = true := decide_eq_true (by omega)
    obtain ⟨ade, had, hx0, hx1⟩ := at_T45 hC1 (i : Int) (Int.natCast_nonneg _) (by omega)
    subst had
    rw [Int.toNat_natCast, get_rdE ci] at hx0 hx1
    have htk : (E.take (i + 1)).map swapE = (E.take i).map swapE ++ [swapE E[i]] := by rw [List.take_succ_eq_append_getElem ci, List.map_append]; rfl
    obtain ⟨x, hxe⟩ : ∃ x, E[i] = x := ⟨_, rfl⟩
    have HXE := Aside0.mk hxe
    rw [hxe] at hx0 hx1 htk
    have HK := Aside0.mk htk
    have hml : ((E.take i).map swapE).length + [swapE x].length ≤ 1000001 := by simp; omega
    obtain ⟨L, hLe⟩ : ∃ L, (E.take i).map swapE = L := ⟨_, rfl⟩
    rw [hLe] at HR HK hml
    clear htk hxe hLe hC0 hC1 hg2
    have hls : wb.heap.size ≤ wr.heap.size := HR.out.2.size
    go_wp2_with fail
    go_region_held3 (fun W => W.cell? ⟨g, 1, none⟩ = some (.slice (some ade) E.length c1) ∧ W.cell? (ade.add (i * 2)) = some (.string x.f0) ∧ W.cell? ⟨(ade.add (i * 2)).block, (ade.add (i * 2)).off + 1, none⟩ = some (.string x.f1)) (first | exact hk9 | exact ⟨z1, hx0, hx1⟩ | go_keep) (first | (refine rows_ev k45 (A' := some ⟨wr.heap.size, 0, none⟩) (m := 1) (c := 1) (B := wb.heap.size) (xs := L) (ys := [swapE x]) (okv := fun _ => True) (t := 22) (e := 45) (z := .agg #[.string ⟨#[]⟩, .string ⟨#[]⟩]) (bytes := 32) (s := .tmp 12) (y := .tmp 26) (by rfl) (by rfl) (by rfl) (by rfl) Try.underlying22 info45 rfl (by decide) (by omega) (k45_KM _ _) (Kd.R_below HR.out.1 (by repeat (first | exact Below.refl _ _ | apply below_alloc | apply below_drew))) (lit45_C (x := swapE x) (by first | exact alloc_new | exact World.alloc_heap_new _ _)) (by simp; omega) (by omega) ?_; intro v9 w9 h9 hg9 hb9; have hB9 : Below wb.heap.size wb w9 := HR.out.2.trans (Below.trans ((show Below wr.heap.size wr _ by repeat (first | exact Below.refl _ _ | apply below_alloc | apply below_drew)).mono hls) hb9); have HX : Aside0 (Kd.R k45 45 w9 wb.heap.size (fun _ => True) v9 ((E.take (i + 1)).map swapE) ∧ Below wb.heap.size wb w9) := ⟨by rw [HK.out]; exact Kd.R_mono h9 (fun _ _ => trivial), hB9⟩; have hk9 : w9.cell? ⟨g, 1, none⟩ = some (.slice (some ade) E.length c1) ∧ w9.cell? (ade.add (i * 2)) = some (.string x.f0) ∧ w9.cell? ⟨(ade.add (i * 2)).block, (ade.add (i * 2)).off + 1, none⟩ = some (.string x.f1) := (by
        obtain ⟨⟨⟨_, q1⟩, _⟩, _, q2⟩ := HCELL.out w9 hB9
        obtain ⟨ad2, e2, q3, q4⟩ := at_T45 q2 (i : Int) (Int.natCast_nonneg _) (by omega)
        injection e2 with e2
        subst e2
        rw [Int.toNat_natCast, get_rdE ci, HXE.out] at q3 q4
        exact ⟨q1, q3, q4⟩)))
    all_goals clear h9 hg9 hb9 hB9 hk9
    all_goals go_wp2_with fail
    all_goals go_roundg (gk - 1)
    all_goals first | omega | exact ⟨i + 1, by first | rfl | (rw [w64_ (by omega) (by omega)]; rfl) | simp, ⟨by omega⟩, HX⟩
end
end Go.Proofs.Ytmhbdgnajlnhnaa.P
/- The reference's Turn of the document's graph of a graph. -/
namespace Go.Proofs.Ytmhbdgnajlnhnaa.P
open Go.RowKit Go.Proofs.YtmhbdgnajlnhnaaW.PrintWords Go.Proofs.Ytmhbdgnajlnhnaa.Pl
section
variable {base p : Nat} {role : Nat → Role} {G : GG} {w : World}
/-- Turn of the document's graph of a graph -/
theorem rturn_callsG (hG : GOk G) (hn : G.ns.length ≤ 1000) (A0 : Option Addr) (c0 : Nat) (A1 : Option Addr) (c1 : Nat) (W : World) (h0 : Kd.C Kd.string W A0 G.ns.length G.ns) (hc0 : G.ns.length ≤ c0) (h1 : Kd.C k45 W A1 (edgesOf G G.ns).length (edgesOf G G.ns)) (hc1 : (edgesOf G G.ns).length ≤ c1) :
    Calls Try.prog 21 #[.agg #[.slice A0 G.ns.length c0, .slice A1 (edgesOf G G.ns).length c1]] W fun e w' => ∃ (v0 v1 : Value), e = .returned (.agg #[v0, v1]) ∧ Kd.R Kd.string 9 w' W.heap.size (fun _ => True) v0 (turnG G).ns ∧ Kd.R k45 45 w' W.heap.size (fun _ => True) v1 (edgesOf (turnG G) (turnG G).ns) ∧ Below W.heap.size W w' := by
  have h := rturn_calls A0 c0 G.ns A1 c1 (edgesOf G G.ns) h0 hc0 h1 hc1 (Nat.le_trans (edgesOf_len hG G.ns) (Nat.le_trans (Nat.mul_le_mul hn hn) (by decide))) (by omega)
  rw [turn_names hG, turn_edges hG] at h
  exact h
end
end Go.Proofs.Ytmhbdgnajlnhnaa.P
