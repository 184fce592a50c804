/- PathStems' own function: the walk. -/
import Derived.Test.YtpphdmpnnnimdaaDoorPlStem
import Derived.Test.YtpphdmpnnnimdaaDoorGFill
import Derived.BigQuiet
import Derived.Deep.LoopGhost
namespace Go.Proofs.YtpphdmpnnnimdaaDoor.P
open Go.RowKit Go.Proofs.YtpphdmpnnnimdaaDoorW.PrintWords Go.Proofs.YtpphdmpnnnimdaaDoorW.PrintLast Go.Proofs.YtpphdmpnnnimdaaDoorW.PrintMore Go.Proofs.YtpphdmpnnnimdaaDoor.Pl
set_option linter.unusedVariables false
theorem blk_new_ (w : World) (o : Obj) : (w.alloc o).heap[w.heap.size]? = some o := (MapKept.heap_alloc w o).1
theorem blk_cell_ {w : World} {g : Nat} {cells : Array Value} {t : TypeId} {fr : Nat × Nat} (h : w.heap[g]? = some (.cells cells t fr)) (j : Nat) {v : Value} (hv : cells[j]? = some v) : w.cell? ⟨g, j, none⟩ = some v := by
  simp [World.cell?, h, hv]
/-- the box's cells, behind a call -/
theorem box_cells {w w1 : World} {a b c d : ByteArray} {t : TypeId} (hb : Below (w.alloc (.cells #[.string a, .string b, .string c, .string d] t)).heap.size (w.alloc (.cells #[.string a, .string b, .string c, .string d] t)) w1) :
    w1.cell? ⟨w.heap.size, 0, none⟩ = some (.string a) ∧ w1.cell? ⟨w.heap.size, 1, none⟩ = some (.string b) ∧ w1.cell? ⟨w.heap.size, 2, none⟩ = some (.string c) ∧ w1.cell? ⟨w.heap.size, 3, none⟩ = some (.string d) := by
  have h := blk_new_ w (.cells #[.string a, .string b, .string c, .string d] t)
  have g : ∀ (j : Nat) (v : Value), #[Value.string a, .string b, .string c, .string d][j]? = some v → w1.cell? ⟨w.heap.size, j, none⟩ = some v := fun j v hv => by
    have h1 := blk_cell_ h j hv
    exact (hb.cell (World.block_lt_of_cell? _ _ h1)).trans h1
  exact ⟨g 0 _ rfl, g 1 _ rfl, g 2 _ rfl, g 3 _ rfl⟩
set_option maxHeartbeats 2000000 in
set_option maxRecDepth 100000 in
theorem stems_walk (ah be st s : ByteArray) (m : Int) (w : World) (hm : w.cell? ⟨0, 0, none⟩ = some (.int .i64 m)) (z0 : ah.size ≤ 140737488351232) (z1 : be.size ≤ 140737488351232) (z2 : st.size ≤ 140737488351232) (z3 : s.size ≤ 140737488351232) :
    Calls Tryd.prog 4 #[.agg #[.string ah, .string be, .string st, .string s]] w fun e w' => e = .returned (.bool true) ∧ Below w.heap.size w w' := by
  have e1 : wrap64 ((ah.size : Int) + (be.size : Int)) = (ah.size : Int) + (be.size : Int) := w64 (by omega) (by omega)
  have e2 : wrap64 ((ah.size : Int) + (be.size : Int) + (st.size : Int)) = (ah.size : Int) + (be.size : Int) + (st.size : Int) := w64 (by omega) (by omega)
  have e3 : wrap64 ((ah.size : Int) + (be.size : Int) + (st.size : Int) + (s.size : Int)) = (ah.size : Int) + (be.size : Int) + (st.size : Int) + (s.size : Int) := w64 (by omega) (by omega)
  by_cases hsum : (1000 : Int) < (ah.size : Int) + (be.size : Int) + (st.size : Int) + (s.size : Int)
  · have hsb : decide ((1000 : Int) < (ah.size : Int) + (be.size : Int) + (st.size : Int) + (s.size : Int)) = true := decide_eq_true hsum
    clear hsum
    go_enter Tryd.func4, Tryd.ntmps4
    go_wp2_with fail
    refine (works_calls _).mono ?_
    rintro e w1 ⟨rfl, hb1⟩
    obtain ⟨b0, b1, b2, b3⟩ := box_cells hb1
    have hb1w : Below w.heap.size w w1 := ((Below.refl _ w).alloc (Nat.le_refl _) _).trans (hb1.mono (by simp))
    go_wp2_with fail
    go_quiet (fail)
    go_wp2
    go_ret
    exact ⟨rfl, pw_below_drewN hb1w nq⟩
  have hsb : decide ((1000 : Int) < (ah.size : Int) + (be.size : Int) + (st.size : Int) + (s.size : Int)) = false := decide_eq_false hsum
  have s0 : ah.size ≤ 1000 := by omega
  have s1 : be.size ≤ 1000 := by omega
  have s2 : st.size ≤ 1000 := by omega
  have s3 : s.size ≤ 1000 := by omega
  obtain ⟨X, hX⟩ : ∃ X, ah ++ be = X := ⟨_, rfl⟩
  have hXL : L X = L ah ++ L be := by rw [← hX, L_append]
  have hXs : X.size = ah.size + be.size := by rw [size_L, hXL, List.length_append, ← size_L, ← size_L]
  have hXb : X.size ≤ 2000 := by omega
  have HXL := Aside0.mk hXL
  clear hXL hXs hsum z0 z1 z2 z3
  have kb := fun W => print_bytes (P := Tryd.prog) 9 27 5 Tryd.underlying9 Tryd.underlying27 Tryd.underlying5 X W
  go_enter Tryd.func4, Tryd.ntmps4
  go_wp2_with fail
  refine (works_calls _).mono ?_
  rintro e w1 ⟨rfl, hb1⟩
  obtain ⟨b0, b1, b2, b3⟩ := box_cells hb1
  have hb1w : Below w.heap.size w w1 := ((Below.refl _ w).alloc (Nat.le_refl _) _).trans (hb1.mono (by simp))
  go_wp2_with fail
  go_quiet (fail)
  have hb2w := pw_below_drewN hb1w nq
  have hb3w := bytes_below hb2w hb2w.size 5 X
  have hcell := fun j (hj : j < X.size) => Lib.bytesWorld_cell (w1.drewN nq) 5 X j hj
  have HCELL := Aside0.mk hcell
  clear hb1 b0 b1 b2 b3 hcell hb1w
  go_wp2_with fail
  have hsz : (w1.drewN nq).heap.size = w1.heap.size := by simp
  have HC2 : Aside0 (∀ j, j < X.size → (Lib.bytesWorld (w1.drewN nq) 5 X).cell? ⟨w1.heap.size, j, none⟩ = some (.int .u8 (X.data.toList.getD j 0).toNat)) := ⟨fun j hj => by rw [← hsz]; exact HCELL.out j hj⟩
  obtain ⟨W6, hW6⟩ : ∃ W6, W6 = Lib.bytesWorld (w1.drewN nq) 5 X := ⟨_, rfl⟩
  rw [← hW6] at hb3w HC2
  rw [← hW6]
  clear HCELL hsz hW6 kb hb2w
  go_loopg [40] (X.size + 1) (fun n iv wq => ∃ i : Nat, iv = .int .i64 (i : Int) ∧ Aside0 (i + n = X.size + 1 ∧ i ≤ X.size) ∧ Aside0 (∀ j, j < i → (h : j < (L X).length) → (L X)[j] ≠ 37) ∧ wq = W6)
  case atStart => exact ⟨0, rfl, ⟨Nat.zero_add _, Nat.zero_le _⟩, ⟨fun j h => absurd h (Nat.not_lt_zero _)⟩, rfl⟩
  case round =>
    obtain ⟨i, rfl, ⟨hn, hil⟩, ⟨hno⟩, rfl⟩ := hrel
    by_cases c1 : i < X.size
    case pos =>
      have c1b : decide ((i : Int) < (X.size : Int)) = true := decide_eq_true (by omega)
      have hlt : i < (L X).length := by rw [← size_L]; exact c1
      have hcell := HC2.out i c1
      have hgd : X.data.toList.getD i 0 = (L X)[i] := by
        show (L X).getD i 0 = _
        rw [List.getD_eq_getElem?_getD, List.getElem?_eq_getElem hlt]; rfl
      rw [hgd] at hcell
      by_cases h37 : (L X)[i] = 37
      · rw [h37] at hcell
        have hcell2 : wr.cell? ⟨w1.heap.size, i, none⟩ = some (.int .u8 37) := hcell
        clear hcell hgd hno
        go_wp2
        go_ret
        exact ⟨rfl, hb3w⟩
      · have hne : (((L X)[i].toNat : Int) == 37) = false := beq_eq_false_iff_ne.mpr (fun e => h37 ((u8_eq _ 37 (by decide)).1 e))
        have hno2 : ∀ j, j < i + 1 → (h : j < (L X).length) → (L X)[j] ≠ 37 := fun j hj h => by
          rcases Nat.lt_succ_iff_lt_or_eq.1 hj with hj | rfl
          · exact hno j hj h
          · exact h37
        have HNO := Aside0.mk hno2
        obtain ⟨b, hb⟩ : ∃ b : Int, ((L X)[i].toNat : Int) = b := ⟨_, rfl⟩
        rw [hb] at hcell hne
        clear hgd hno hno2 h37 hb
        go_wp2
        go_roundg (gk - 1)
        case measure => omega
        case rel => exact ⟨i + 1, by first | rfl | (rw [w64 (by omega) (by omega)]; rfl) | simp, ⟨by omega, by omega⟩, HNO, rfl⟩
    have c1b : decide ((i : Int) < (X.size : Int)) = false := decide_eq_false (by omega)
    have h37 : (37 : UInt8) ∉ L X := fun hmem => by
      obtain ⟨j, hj, e⟩ := List.getElem_of_mem hmem
      exact hno j (by rw [← size_L] at hj; omega) hj e
    rw [HXL.out, List.mem_append] at h37
    have ha37 : (37 : UInt8) ∉ L ah := fun h => h37 (.inl h)
    have hb37 : (37 : UInt8) ∉ L be := fun h => h37 (.inr h)
    obtain ⟨P, hP⟩ : ∃ P, ah ++ (⟨#[37]⟩ : ByteArray) ++ be = P := ⟨_, rfl⟩
    have hPL : L P = L ah ++ 37 :: L be := by rw [← hP, L_append, L_append, List.append_assoc]; rfl
    have hPs : P.size ≤ 2001 := by rw [size_L, hPL, List.length_append, List.length_cons, ← size_L, ← size_L]; omega
    have hFL : fillL (L P) (L st) = L ah ++ L st ++ L be := by rw [hPL, fill_pattern ha37 hb37]
    obtain ⟨F, hF⟩ : ∃ F, B (fillL (L P) (L st)) = F := ⟨_, rfl⟩
    have hFl : L F = L ah ++ L st ++ L be := by rw [← hF, L_B, hFL]
    have hFe : ah ++ st ++ be = F := L_inj (by rw [hFl, L_append, L_append])
    have hFs : F.size ≤ 3000 := by rw [size_L, hFl, List.length_append, List.length_append, ← size_L, ← size_L, ← size_L]; omega
    have hm1 : path_Match.f P F = some (st, decide (L st ≠ [])) := by
      rw [pathmatch_one P F (by omega) (by omega) (L ah) (L be) hPL ha37 hb37, hFl, stem_full, B_L]
    obtain ⟨⟨g, ok⟩, hg⟩ : ∃ r, stem (L ah) (L be) (L s) = r := ⟨_, rfl⟩
    have hm2 : path_Match.f P s = some (g, ok) := by rw [pathmatch_one P s (by omega) (by omega) (L ah) (L be) hPL ha37 hb37, hg]
    have hany := stem_any (L ah) (L be) (L s)
    rw [hg] at hany
    dsimp only at hany
    have hgfill : ok = true → B (fillL (L P) (L g)) = s ∧ g.size ≤ 1000 := fun ho => by
      rcases hany with ⟨h, _⟩ | ⟨_, _, h⟩
      · rw [ho] at h; cases h
      · refine ⟨L_inj (by rw [L_B, hPL, fill_pattern ha37 hb37]; exact h), ?_⟩
        have h4 := congrArg List.length h
        rw [List.length_append, List.length_append, ← size_L, ← size_L, ← size_L, ← size_L] at h4
        omega
    have hgne : (ok = false ∧ g = ⟨#[]⟩) ∨ (ok = true ∧ g ≠ ⟨#[]⟩) := hany.imp id (fun h => ⟨h.1, h.2.1⟩)
    obtain ⟨ob, hob⟩ : ∃ ob, decide (L st ≠ []) = ob := ⟨_, rfl⟩
    have hem : st.toList.isEmpty = !ob := by
      rw [← hob, toList_L]
      cases L st <;> simp
    rw [hob] at hm1
    clear hob
    have HM1 := Aside0.mk hm1
    have HM2 := Aside0.mk hm2
    have HGF := Aside0.mk hgfill
    have HGN := Aside0.mk hgne
    have HF := Aside0.mk hF
    have hmr : wr.cell? ⟨0, 0, none⟩ = some (.int .i64 m) := (hb3w.cell (World.block_lt_of_cell? _ _ hm)).trans hm
    clear hm1 hm2 hgfill hgne hany hg hFl hFL hPL h37 ha37 hb37 hno hF
    go_wp2_with fail
    refine (fill_calls P st m wr hmr (by omega) (by omega)).mono ?_
    rintro e w7 ⟨rfl, hb7⟩
    rw [HF.out]
    have hb7w := below_then hb3w hb3w.size hb7
    go_wp2_with fail
    refine (path_Match.calls P F st ob w7 HM1.out).mono ?_
    rintro e w8 ⟨rfl, ⟨nd8, rfl⟩⟩
    have hb8w := pw_below_drewN hb7w nd8
    obtain ⟨W8, hW8⟩ : ∃ W8, W8 = w7.drewN nd8 := ⟨_, rfl⟩
    rw [← hW8] at hb8w
    rw [← hW8]
    have hm8 : W8.cell? ⟨0, 0, none⟩ = some (.int .i64 m) := (hb8w.cell (World.block_lt_of_cell? _ _ hm)).trans hm
    clear hW8 hmr hb7
    go_wp2_with fail
    refine (path_Match.calls P s g ok W8 HM2.out).mono ?_
    rintro e w9 ⟨rfl, ⟨nd9, rfl⟩⟩
    have hb9w := pw_below_drewN hb8w nd9
    obtain ⟨W9, hW9⟩ : ∃ W9, W9 = W8.drewN nd9 := ⟨_, rfl⟩
    rw [← hW9] at hb9w
    rw [← hW9]
    have hm9 : W9.cell? ⟨0, 0, none⟩ = some (.int .i64 m) := (hb9w.cell (World.block_lt_of_cell? _ _ hm)).trans hm
    clear hW9 hm8
    rcases HGN.out with ⟨rfl, rfl⟩ | ⟨rfl, hgn⟩
    · have hee : ((⟨#[]⟩ : ByteArray).toList.isEmpty) = true := by rw [toList_L]; rfl
      go_wp2
      go_ret
      exact ⟨rfl, hb9w⟩
    · obtain ⟨hgf, hgs⟩ := HGF.out rfl
      have hge : g.toList.isEmpty = false := by
        rw [toList_L, ← Bool.not_eq_true, List.isEmpty_iff]
        exact fun e => hgn (L_inj (by rw [e]; rfl))
      have hss : (s.toList == s.toList) = true := beq_self_eq_true _
      have HGf := Aside0.mk hgf
      clear hgf hgn
      go_wp2_with fail
      refine (fill_calls P g m W9 hm9 (by omega) (by omega)).mono ?_
      rintro e w10 ⟨rfl, hb10⟩
      rw [HGf.out]
      have hb10w := below_then hb9w hb9w.size hb10
      go_wp2
      go_ret
      exact ⟨rfl, hb10w⟩
end Go.Proofs.YtpphdmpnnnimdaaDoor.P
