/- TreeLists' own function, walked. -/
import Derived.Test.YtkldaghhfnpcjaaGLawPlaysW
import Derived.Test.YtkldaghhfnpcjaaGFix
import Derived.WalkLawsBesides
import Derived.IntWalk
namespace Go.Proofs.Ytkldaghhfnpcjaa.P
open Go.RowKit Go.Maps Go.Shelf Go.Proofs.YtkldaghhfnpcjaaW.PrintWords Go.Proofs.YtkldaghhfnpcjaaW.PrintLast Go.Proofs.YtkldaghhfnpcjaaW.PrintMore Go.Proofs.Ytkldaghhfnpcjaa.Pl
set_option linter.unusedVariables false
set_option linter.unusedSimpArgs false
attribute [local go_sem] Oper.semAt_some
set_option maxRecDepth 100000 in
set_option maxHeartbeats 16000000 in
theorem lists_walk (l : List S28) (A : Option Addr) (c : Nat) (pre : ByteArray) (left : Int) (w : World) (hC : Kd.C k28 w A l.length l) (hc : l.length ≤ c) (hl : l.length ≤ 10000000000000) (hb : ∀ o ∈ l, o.f1.size ≤ 1000000000000000 ∧ o.f2.size ≤ 1000000000000000) (hpre : pre.size ≤ maxLen) :
    Calls Try.prog 3 #[.slice A l.length c, .string pre, .int .i64 left] w fun e w' => e = .returned (.bool true) ∧ Below w.heap.size w w' := by
  have hres : ∀ (tmps : Array Value) (hs : tmps[6]?.getD undef = .pointer (some ⟨w.heap.size + 2, 0, none⟩)) (W' : World), W'.cell? ⟨w.heap.size + 2, 0, none⟩ = some (.bool true) →
      (results Try.f3 tmps).run Try.prog W' = .ok (.bool true) W' := by
    intro tmps hs W' hc
    simp [results, Try.f3, go_sem, hc, hs]
  have hres := Aside0.mk hres
  obtain ⟨bl, hev, hfin⟩ := long_ev l hl hb
  obtain ⟨k, hk⟩ := ev_some hev
  have HC := Aside0.mk (And.intro hC (And.intro hc hfin))
  have hpre2 : pre.size ≤ 9223372036854775807 := by unfold maxLen at hpre; omega
  clear hev hfin hC hb hpre
  refine (callsIn_wide (n := 6)).1 (callsIn_of_wp_marks Try.func3 rfl trivial ?_ rfl)
  simp only [Try.ntmps3, List.size_toArray, List.length_cons, List.length_nil, Nat.reduceAdd, Nat.reduceSub, Array.replicate_succ, Array.replicate_zero, List.push_toArray, List.append_toArray, List.nil_append, List.cons_append]
  rw [wpIn_wide]
  go_wp2_with fail
  refine (works_calls _).mono ?_
  rintro e w1 ⟨rfl, hb1⟩
  obtain ⟨W0, hW0⟩ : ∃ W0, ((w.alloc (.cells #[.string pre] 9)).alloc (.cells #[.int .i64 left] 3)).alloc (.cells #[.bool false] 4) = W0 := ⟨_, rfl⟩
  have hs0 : W0.heap.size = w.heap.size + 3 := by rw [← hW0]; simp
  have hB0 : Below w.heap.size w W0 := by rw [← hW0]; exact (((Below.refl _ w).alloc (Nat.le_refl _) _).alloc (by simp) _).alloc (by simp; omega) _
  have x4 : Boxed W0 w.heap.size 9 (.string pre) := by rw [← hW0]; exact ((Boxed.new w 9 _).alloc _).alloc _
  have x5 : Boxed W0 (w.heap.size + 1) 3 (.int .i64 left) := by
    rw [← hW0]
    have := (Boxed.new (w.alloc (.cells #[.string pre] 9)) 3 (.int .i64 left)).alloc (.cells #[.bool false] 4)
    rwa [World.size_alloc] at this
  have x6 : Boxed W0 (w.heap.size + 2) 4 (.bool false) := by
    rw [← hW0]
    have := Boxed.new ((w.alloc (.cells #[.string pre] 9)).alloc (.cells #[.int .i64 left] 3)) 4 (.bool false)
    rwa [World.size_alloc, World.size_alloc] at this
  rw [hW0] at hb1
  clear hW0
  have H0 := Aside0.mk (And.intro hB0 (And.intro hs0 (And.intro x4 (And.intro x5 x6))))
  have hlg := brickyardlaw10_long.calls k A c l bl w1 (Kd.C_below HC.out.1 (hB0.trans (hb1.mono hB0.size))) HC.out.2.1 hk
  have H1 := Aside0.mk hb1
  clear hb1 hk hB0 hs0 x4 x5 x6
  go_wp2_with fail
  refine hlg.mono ?_
  rintro e w2 ⟨rfl, ⟨n2, rfl⟩⟩
  clear hlg
  have H2 := Aside0.mk (H1.out.trans ((pw_below_drewN (Below.refl _ w1) n2).mono H1.out.size))
  generalize w1.drewN n2 = w2 at *
  have hend := Aside0.mk (fun (W : World) (hB : Below W0.heap.size W0 W) (ds : List Deferred) (hi : Nat) (hm : Marks w.heap.size W hi ds) (hhi : hi ≤ w.heap.size + 2 ∨ True) => (⟨H0.out.1.trans (hB.mono H0.out.1.size), (hB.block _ H0.out.2.2.1.lt).trans H0.out.2.2.1, (hB.block _ H0.out.2.2.2.1.lt).trans H0.out.2.2.2.1, (hB.block _ H0.out.2.2.2.2.lt).trans H0.out.2.2.2.2⟩ : Below w.heap.size w W ∧ Boxed W w.heap.size 9 (.string pre) ∧ Boxed W (w.heap.size + 1) 3 (.int .i64 left) ∧ Boxed W (w.heap.size + 2) 4 (.bool false)))
  have hbx := Aside0.mk (fun (W : World) (hB : Below W0.heap.size W0 W) => (⟨H0.out.1.trans (hB.mono H0.out.1.size), (hB.block _ H0.out.2.2.1.lt).trans H0.out.2.2.1, (hB.block _ H0.out.2.2.2.1.lt).trans H0.out.2.2.2.1, (hB.block _ H0.out.2.2.2.2.lt).trans H0.out.2.2.2.2⟩ : Below w.heap.size w W ∧ Boxed W w.heap.size 9 (.string pre) ∧ Boxed W (w.heap.size + 1) 3 (.int .i64 left) ∧ Boxed W (w.heap.size + 2) 4 (.bool false)))
  clear hend
  cases bl with
  | true =>
    obtain ⟨hBw, b4, b5, b6⟩ := hbx.out _ H2.out
    have hc6 := b6.cell
    have hf6 := b6.frozen
    have HB := Aside0.mk hBw
    clear hBw b4 b5 b6
    go_wp2_with fail
    refine leaves_marks (Br := w.heap.size + 2) (fun W' hb hc => ⟨_, hres.out _ rfl W' hc, rfl, hb⟩) [] 0 _ trivial ?_ (World.cell?_setCell_same' _ _ _ (by rw [hc6]; rfl))
    exact HB.out.setCell (p := ⟨w.heap.size + 2, 0, none⟩) (by simp) _
  | false =>
  by_cases c400 : l.length ≤ 400
  case neg =>
    have k1 : decide ((400 : Int) < (l.length : Int)) = true := decide_eq_true (by omega)
    obtain ⟨hBw, b4, b5, b6⟩ := hbx.out _ H2.out
    have hc6 := b6.cell
    have hf6 := b6.frozen
    have HB := Aside0.mk hBw
    clear hBw b4 b5 b6
    go_wp2_with fail
    refine leaves_marks (Br := w.heap.size + 2) (fun W' hb hc => ⟨_, hres.out _ rfl W' hc, rfl, hb⟩) [] 0 _ trivial ?_ (World.cell?_setCell_same' _ _ _ (by rw [hc6]; rfl))
    exact HB.out.setCell (p := ⟨w.heap.size + 2, 0, none⟩) (by simp) _
  have k1 : decide ((400 : Int) < (l.length : Int)) = false := decide_eq_false (by omega)
  go_wp2_with fail
  refine (tnew2_calls w2).mono ?_
  rintro e w3 ⟨rfl, hF3, hB3⟩
  have hba := (Below.refl w3.heap.size w3).alloc (Nat.le_refl _) (.cells #[.pointer (some ⟨w2.heap.size + 1, 0, none⟩)] 25)
  have H3 := Aside0.mk (And.intro (hF3.below hba) (And.intro (Boxed.new w3 25 (.pointer (some ⟨w2.heap.size + 1, 0, none⟩))) (And.intro ((H2.out.trans (hB3.mono H2.out.size)).trans (hba.mono (Nat.le_trans H2.out.size hB3.size))) (And.intro hB3.size hF3.lt.1))))
  clear hF3 hB3 hba k1
  go_wp2_with fail
  go_loopg [31] (l.length + 1) (fun n v31 wr => ∃ (i : Nat) (S : TS), v31 = .int .i64 (i : Int) ∧ Aside0 (i + n = l.length + 1 ∧ i ≤ l.length) ∧ Aside0 (TFix wr (w2.heap.size + 1) w2.heap.size S ∧ S.cs.length ≤ i ∧ Boxed wr w3.heap.size 25 (.pointer (some ⟨w2.heap.size + 1, 0, none⟩))) ∧ Aside0 (Below W0.heap.size W0 wr))
  case atStart => exact ⟨0, ⟨[], []⟩, rfl, ⟨by omega, by omega⟩, ⟨H3.out.1, Nat.le_refl _, H3.out.2.1⟩, ⟨H3.out.2.2.1⟩⟩
  case round =>
    obtain ⟨i, S, rfl, ⟨hi, hil⟩, HT, HB⟩ := hrel
    obtain ⟨wo, rfl⟩ : ∃ wo : World, wo = wr := ⟨_, rfl⟩
    have hshort := HC.out.2.2 (by first | trivial | rfl)
    by_cases d0 : i < l.length
    · have k1 : decide ((i : Int) < (l.length : Int)) = true := decide_eq_true (by omega)
      obtain ⟨ad, rfl, x0, x1, x2, x3⟩ := at_T28 (Kd.C_below HC.out.1 (hbx.out _ HB.out).1) (i : Int) (by omega) (by omega)
      have hrd : rd_T28 l (i : Int) = l[i]'d0 := by
        unfold rd_T28
        rw [Int.toNat_natCast, List.getD_eq_getElem?_getD, List.getElem?_eq_getElem d0]
        rfl
      have hsz := hshort.2 (l[i]'d0) (List.getElem_mem d0)
      rw [hrd, Int.toNat_natCast] at x0 x1 x2 x3
      obtain ⟨⟨f0, f1, f2, f3⟩, ho⟩ : ∃ o, l[i]'d0 = o := ⟨_, rfl⟩
      rw [ho] at x0 x1 x2 x3 hsz
      have hm1 : f1.size ≤ maxLen := by unfold maxLen; have : f1.size < 1048576 := hsz.1; omega
      have i0 : (0 : Int) ≤ (i : Int) := by omega
      have i1 : (i : Int) < (l.length : Int) := by omega
      have hba := (Below.refl wo.heap.size wo).alloc (Nat.le_refl _) (.cells #[.int .i64 f0, .string f1, .string f2, .int .i64 f3] 28)
      have HA := Aside0.mk (And.intro (HT.out.1.below hba) (And.intro (HT.out.2.2.alloc (.cells #[.int .i64 f0, .string f1, .string f2, .int .i64 f3] 28)) (And.intro (HB.out.trans (hba.mono HB.out.size)) (And.intro hm1 HT.out.2.2.lt))))
      have hc7 := HA.out.2.1.cell
      clear hrd hsz ho hba hshort hm1
      by_cases e0 : f0 = 0
      · subst e0
        have hwc := HA.out.1.write f1 f2 HA.out.2.2.2.1 (by have := HT.out.2.1; omega)
        go_wp2_with fail
        refine hwc.mono ?_
        rintro e w5 ⟨rfl, hT5, hB5⟩
        clear hwc
        have H6 := Aside0.mk (And.intro hT5 (And.intro (step_len S 0 f1 f2) (And.intro (turn_boxed hB5 HA.out.2.1 (by have := H3.out.2.2.2; omega)) (HA.out.2.2.1.trans (hB5.below (fun k hk => by have := H2.out.size; omega) HA.out.2.2.1.size)))))
        clear hT5 hB5
        go_wp2_with fail
        go_roundg (gk - 1)
        case measure => omega
        case rel => exact ⟨i + 1, _, by first | rfl | (rw [w64_ (by omega) (by omega)]; rfl) | simp, ⟨by omega, by omega⟩, ⟨H6.out.1, Nat.le_trans H6.out.2.1 (Nat.succ_le_succ HT.out.2.1), H6.out.2.2.1⟩, ⟨H6.out.2.2.2⟩⟩
      · have b0 : (f0 == 0) = false := beq_eq_false_iff_ne.mpr e0
        clear e0
        go_wp2_with fail
        go_roundg (gk - 1)
        case measure => omega
        case rel => exact ⟨i + 1, S, by first | rfl | (rw [w64_ (by omega) (by omega)]; rfl) | simp, ⟨by omega, by omega⟩, ⟨HA.out.1, Nat.le_succ_of_le HT.out.2.1, HA.out.2.1⟩, ⟨HA.out.2.2.1⟩⟩
    · have k1 : decide ((i : Int) < (l.length : Int)) = false := decide_eq_false (by omega)
      have hSl : S.cs.length ≤ 400 := by have := HT.out.2.1; omega
      have hls := listed_tree HT.out.1.mem ⟨#[]⟩
      rw [list_all] at hls
      have hc7 := HT.out.2.2.cell
      have HSl := Aside0.mk hSl
      clear hSl hshort
      go_wp2_with fail
      refine hls.mono ?_
      rintro e w6 ⟨v, rfl, hR6, hB6⟩
      clear hls
      obtain ⟨A6, c6, rfl⟩ := Kd.R_slice hR6
      rw [List.length_map]
      obtain ⟨N, hN⟩ : ∃ N, S.fs.length = N := ⟨_, rfl⟩
      have hNle : N ≤ 256 := by rw [← hN]; exact HT.out.1.good.few
      rw [hN]
      have hb6 := (Below.refl w6.heap.size w6).alloc (Nat.le_refl _) (.cells #[.slice A6 N c6] 31)
      have hF6 := (HT.out.1.below hB6).below hb6
      have x7 : Boxed (w6.alloc (.cells #[.slice A6 N c6] 31)) w3.heap.size 25 (.pointer (some ⟨w2.heap.size + 1, 0, none⟩)) := Boxed.alloc (show Boxed w6 w3.heap.size 25 (.pointer (some ⟨w2.heap.size + 1, 0, none⟩)) from (hB6.block _ HT.out.2.2.lt).trans HT.out.2.2) _
      have x10 : Boxed (w6.alloc (.cells #[.slice A6 N c6] 31)) w6.heap.size 31 (.slice A6 N c6) := Boxed.new w6 31 _
      have hW6 := (HB.out.trans (hB6.mono HB.out.size)).trans (hb6.mono (Nat.le_trans HB.out.size hB6.size))
      have x4 := (hbx.out _ hW6).2.1
      have hlst := tlist_calls hF6.mem pre
      have hc7 := x7.cell
      have hc4 := x4.cell
      have H6 := Aside0.mk (And.intro hF6 (And.intro x7 (And.intro x10 (And.intro hW6 (And.intro (Kd.R_below hR6 hb6) hN)))))
      have HB6s := Aside0.mk hB6.size
      clear hF6 x7 x10 hW6 x4 hR6 hB6 hb6 hN
      go_wp2_with fail
      refine hlst.mono ?_
      rintro e w7 ⟨bv, v7, rfl, hbv, hble, hR7, hB7⟩
      clear hlst
      have HX6 := Aside0.mk (show w3.heap.size < w6.heap.size from by have := H6.out.2.1.lt; have h10 := HT.out.2.2.lt; have := HB6s.out; omega)
      have hnf := fun (W : World) fn first cap => run_eql_func_nil (P := Try.prog) W 35 Try.underlying35 fn first cap
      have hbv2 : Boxed w7 bv 31 v7 := hbv
      have H7 := Aside0.mk (And.intro (H6.out.1.below hB7) (And.intro (boxed_below H6.out.2.1 hB7) (And.intro (boxed_below H6.out.2.2.1 hB7) (And.intro (H6.out.2.2.2.1.trans (hB7.mono H6.out.2.2.2.1.size)) (And.intro (Kd.R_below H6.out.2.2.2.2.1 hB7) (And.intro hbv2 (And.intro hR7 hble)))))))
      have hc7 := H7.out.2.1.cell
      have hc10 := H7.out.2.2.1.cell
      have hlen := fun n => tlen_calls (H7.out.1.below (pw_below_drewN (Below.refl _ w7) n)).mem
      rw [H6.out.2.2.2.2.2] at hlen
      have n3 : ((N : Int) != (N : Int)) = false := bne_self_eq_false _
      clear hbv hbv2 hR7 hB7 hble hc4
      go_wp2_with fail
      go_quiet ((go_at_call 16; exact Calls.quiet_of_same (hlen _)))
      clear hlen
      obtain ⟨w8, hw8⟩ : ∃ w8, w7.drewN nq = w8 := ⟨_, rfl⟩
      rw [hw8]
      have hb8 : Below w7.heap.size w7 w8 := by rw [← hw8]; exact pw_below_drewN (Below.refl _ _) nq
      have H8 := Aside0.mk (And.intro (H7.out.1.below hb8) (And.intro (boxed_below H7.out.2.1 hb8) (And.intro (boxed_below H7.out.2.2.1 hb8) (And.intro (H7.out.2.2.2.1.trans (hb8.mono H7.out.2.2.2.1.size)) (And.intro (Kd.R_below H7.out.2.2.2.2.1 hb8) (And.intro (boxed_below H7.out.2.2.2.2.2.1 hb8) (And.intro (Kd.R_below H7.out.2.2.2.2.2.2.1 hb8) H7.out.2.2.2.2.2.2.2)))))))
      clear hw8 hb8 hc7 hc10
      have hc10 := H8.out.2.2.1.cell
      go_wp2_with fail
      obtain ⟨keys, hkeys⟩ : ∃ keys, S.fs.map (·.1) = keys := ⟨_, rfl⟩
      have hkl : keys.length = N := by rw [← hkeys, List.length_map]; exact H6.out.2.2.2.2.2
      have hks : SS keys := by rw [← hkeys]; exact List.pairwise_map.2 H8.out.1.good.rise
      have hlt : listT S pre = keys.filter (startsB · pre) := by rw [← hkeys]; rfl
      have hRk : Kd.R Kd.string 9 w8 wo.heap.size (fun _ => True) (.slice A6 N c6) keys := by
        have := H8.out.2.2.2.2.1
        rw [List.length_map, H6.out.2.2.2.2.2, hkeys] at this
        exact this
      have HK := Aside0.mk (And.intro hkl (And.intro hks (And.intro hlt (And.intro hRk hkeys))))
      have hR0 : Kd.R Kd.string 9 w8 w8.heap.size (fun _ => True) (.slice none 0 0) ((keys.take 0).filter (startsB · pre)) := Kd.R_nil _ _ _ _ _
      have HR0 := Aside0.mk hR0
      clear hkl hks hlt hRk hkeys hR0 hc10
      go_loopg [13, 68] (N + 1) (fun n v13 v68 wr => ∃ j : Nat, v68 = .int .i64 (j : Int) ∧ Aside0 (j + n = N + 1 ∧ j ≤ N) ∧ Aside0 (Kd.R Kd.string 9 wr w8.heap.size (fun _ => True) v13 ((keys.take j).filter (startsB · pre))) ∧ Aside0 (Below w8.heap.size w8 wr))
      case atStart => exact ⟨0, rfl, ⟨by omega, by omega⟩, ⟨HR0.out⟩, ⟨Below.refl _ _⟩⟩
      case round =>
        obtain ⟨j, rfl, HJ, HR, HB2⟩ := hrel
        obtain ⟨wx, rfl⟩ : ∃ wx : World, wx = wr := ⟨_, rfl⟩
        have hjn := HJ.out.2
        have hWx := H8.out.2.2.2.1.trans (HB2.out.mono H8.out.2.2.2.1.size)
        by_cases e1 : j < N
        · have k3 : decide ((j : Int) < (N : Int)) = true := decide_eq_true (by omega)
          have hjl : j < keys.length := by rw [HK.out.1]; exact e1
          obtain ⟨hnn, hcc, hCC⟩ := Kd.R_reads' (Kd.R_below HK.out.2.2.2.1 HB2.out)
          obtain ⟨adk, rfl, y0⟩ := Kd.at_string hCC (j : Int) (by omega) (by omega)
          have hrd : rdOf ByteArray.empty keys (j : Int) = keys[j]'hjl := by
            unfold rdOf
            rw [Int.toNat_natCast, List.getD_eq_getElem?_getD, List.getElem?_eq_getElem hjl]
            rfl
          rw [hrd, Int.toNat_natCast] at y0
          have hprev : 0 < j → ∃ y, wx.cell? (adk.add (j - 1)) = some (.string y) ∧ Op.bytesLess y.toList (keys[j]'hjl).toList = true := fun hj => by
            obtain ⟨adk', he, y1⟩ := Kd.at_string hCC ((j - 1 : Nat) : Int) (by omega) (by omega)
            injection he with he
            subst he
            have hj1 : j - 1 < keys.length := by omega
            have hrd1 : rdOf ByteArray.empty keys ((j - 1 : Nat) : Int) = keys[j - 1]'hj1 := by
              unfold rdOf
              rw [Int.toNat_natCast, List.getD_eq_getElem?_getD, List.getElem?_eq_getElem hj1]
              rfl
            rw [hrd1, Int.toNat_natCast] at y1
            exact ⟨_, y1, (less_ltB _ _).2 (List.pairwise_iff_getElem.1 HK.out.2.1 (j - 1) j hj1 hjl (by omega))⟩
          have htk : (keys.take (j + 1)).filter (startsB · pre) = ((keys.take j).filter (startsB · pre)) ++ (if startsB (keys[j]'hjl) pre = true then [keys[j]'hjl] else []) := by
            rw [List.take_succ_eq_append_getElem hjl, List.filter_append]
            congr 1
            simp [List.filter_cons]
          obtain ⟨q, hq⟩ : ∃ q, keys[j]'hjl = q := ⟨_, rfl⟩
          rw [hq] at y0 hprev htk
          have hxl : ((keys.take j).filter (startsB · pre)).length ≤ 256 := Nat.le_trans (List.length_filter_le _ _) (by simp; omega)
          obtain ⟨xs, hxs⟩ : ∃ xs, (keys.take j).filter (startsB · pre) = xs := ⟨_, rfl⟩
          have hRx := HR.out
          rw [hxs] at hRx htk hxl
          have HTK := Aside0.mk htk
          have HRx := Aside0.mk hRx
          obtain ⟨A5, c5, rfl⟩ := Kd.R_slice hRx
          obtain ⟨b4, b5, b6⟩ := (hbx.out _ hWx).2
          have x10 := boxed_below (boxed_below H8.out.2.2.1 (Below.refl _ _)) HB2.out
          have hc4 := b4.cell
          have hc10 := x10.cell
          have j0 : (0 : Int) ≤ (j : Int) := by omega
          have j1 : (j : Int) < (N : Int) := by omega
          have HP := Aside0.mk hprev
          have HJ2 := Aside0.mk (show 0 < j ∨ j = 0 by omega)
          have hwsz := HB2.out.size
          clear hnn hcc hCC hrd hq htk hprev hjl hxs hRx b4 b5 b6 x10 hWx
          rcases HJ2.out with hj | hj
          · obtain ⟨y, y1, y2⟩ := HP.out hj
            have k5 : decide ((0 : Int) < (j : Int)) = true := decide_eq_true (by omega)
            have k6 : (0 : Int) ≤ (j : Int) - 1 := by omega
            have k7 : (1 : Int) ≤ (j : Int) := by omega
            have k8 : (j : Int) - 1 < (N : Int) := by omega
            have k9 : ((j : Int) - 1).toNat = j - 1 := by omega
            go_wp2_with fail
            clear y1 y2 k5 k6 k7 k8 k9 hj
            by_cases c2 : pre.size ≤ q.size
            · have k2 : decide ((pre.size : Int) ≤ (q.size : Int)) = true := decide_eq_true (by omega)
              have p3 : (pre.size : Int) ≤ (q.size : Int) := by omega
              have hst := starts_take c2
              cases hsb : startsB q pre with
              | false =>
                rw [hsb] at hst
                rw [hsb, if_neg (by decide), List.append_nil] at HTK
                go_quiet (fail)
                go_wp2_with fail
                go_roundg (gk - 1)
                case measure => have := HJ.out; omega
                case rel => exact ⟨j + 1, by first | rfl | (rw [w64_ (by omega) (by omega)]; rfl) | simp, ⟨by have := HJ.out; omega, by omega⟩, ⟨by rw [HTK.out]; exact Kd.R_below HRx.out (pw_below_drewN (Below.refl _ wx) _)⟩, ⟨HB2.out.trans ((pw_below_drewN (Below.refl _ wx) _).mono HB2.out.size)⟩⟩
              | true =>
                rw [hsb] at hst
                rw [hsb, if_pos rfl] at HTK
                go_quiet (fail)
                obtain ⟨wq, hwq⟩ : ∃ wq, wx.drewN nq = wq := ⟨_, rfl⟩
                have hbq : Below wx.heap.size wx wq := by rw [← hwq]; exact pw_below_drewN (Below.refl _ wx) nq
                have HQ := Aside0.mk (And.intro (Kd.R_below HRx.out hbq) (HB2.out.trans (hbq.mono HB2.out.size)))
                have hqsz := HQ.out.2.size
                rw [hwq]
                clear hwq hbq
                go_wp2_with (first | (at_builtin; refine txt_push (base := w8.heap.size) rfl rfl rfl rfl rfl (Kd.R_mono HQ.out.1 (fun _ h => h)) hqsz (by omega) ?_; intro v1 wz hR1 hg1))
                have hB1 := pw_below_grown HQ.out.2 _ hqsz hg1 (fun k hk => ((Kd.R_bound HQ.out.1).1 k hk).2.1)
                have hR1' := Kd.R_mono hR1 (fun _ _ => (trivial : True))
                clear hR1 hg1
                go_wp2_with fail
                go_roundg (gk - 1)
                case measure => have := HJ.out; omega
                case rel => exact ⟨j + 1, by first | rfl | (rw [w64_ (by omega) (by omega)]; rfl) | simp, ⟨by have := HJ.out; omega, by omega⟩, ⟨by rw [HTK.out]; exact hR1'⟩, ⟨hB1⟩⟩
            · have k2 : decide ((pre.size : Int) ≤ (q.size : Int)) = false := decide_eq_false (by omega)
              rw [starts_short c2, if_neg (by decide), List.append_nil] at HTK
              go_quiet (fail)
              go_wp2_with fail
              go_roundg (gk - 1)
              case measure => have := HJ.out; omega
              case rel => exact ⟨j + 1, by first | rfl | (rw [w64_ (by omega) (by omega)]; rfl) | simp, ⟨by have := HJ.out; omega, by omega⟩, ⟨by rw [HTK.out]; exact Kd.R_below HRx.out (pw_below_drewN (Below.refl _ wx) _)⟩, ⟨HB2.out.trans ((pw_below_drewN (Below.refl _ wx) _).mono HB2.out.size)⟩⟩
          · have k5 : decide ((0 : Int) < (j : Int)) = false := decide_eq_false (by omega)
            have k5n : decide (0 < j) = false := decide_eq_false (by omega)
            have k5m : ¬ 0 < j := by omega
            clear hj
            go_wp2_with fail
            clear k5 k5n k5m
            by_cases c2 : pre.size ≤ q.size
            · have k2 : decide ((pre.size : Int) ≤ (q.size : Int)) = true := decide_eq_true (by omega)
              have p3 : (pre.size : Int) ≤ (q.size : Int) := by omega
              have hst := starts_take c2
              cases hsb : startsB q pre with
              | false =>
                rw [hsb] at hst
                rw [hsb, if_neg (by decide), List.append_nil] at HTK
                go_quiet (fail)
                go_wp2_with fail
                go_roundg (gk - 1)
                case measure => have := HJ.out; omega
                case rel => exact ⟨j + 1, by first | rfl | (rw [w64_ (by omega) (by omega)]; rfl) | simp, ⟨by have := HJ.out; omega, by omega⟩, ⟨by rw [HTK.out]; exact Kd.R_below HRx.out (pw_below_drewN (Below.refl _ wx) _)⟩, ⟨HB2.out.trans ((pw_below_drewN (Below.refl _ wx) _).mono HB2.out.size)⟩⟩
              | true =>
                rw [hsb] at hst
                rw [hsb, if_pos rfl] at HTK
                go_quiet (fail)
                obtain ⟨wq, hwq⟩ : ∃ wq, wx.drewN nq = wq := ⟨_, rfl⟩
                have hbq : Below wx.heap.size wx wq := by rw [← hwq]; exact pw_below_drewN (Below.refl _ wx) nq
                have HQ := Aside0.mk (And.intro (Kd.R_below HRx.out hbq) (HB2.out.trans (hbq.mono HB2.out.size)))
                have hqsz := HQ.out.2.size
                rw [hwq]
                clear hwq hbq
                go_wp2_with (first | (at_builtin; refine txt_push (base := w8.heap.size) rfl rfl rfl rfl rfl (Kd.R_mono HQ.out.1 (fun _ h => h)) hqsz (by omega) ?_; intro v1 wz hR1 hg1))
                have hB1 := pw_below_grown HQ.out.2 _ hqsz hg1 (fun k hk => ((Kd.R_bound HQ.out.1).1 k hk).2.1)
                have hR1' := Kd.R_mono hR1 (fun _ _ => (trivial : True))
                clear hR1 hg1
                go_wp2_with fail
                go_roundg (gk - 1)
                case measure => have := HJ.out; omega
                case rel => exact ⟨j + 1, by first | rfl | (rw [w64_ (by omega) (by omega)]; rfl) | simp, ⟨by have := HJ.out; omega, by omega⟩, ⟨by rw [HTK.out]; exact hR1'⟩, ⟨hB1⟩⟩
            · have k2 : decide ((pre.size : Int) ≤ (q.size : Int)) = false := decide_eq_false (by omega)
              rw [starts_short c2, if_neg (by decide), List.append_nil] at HTK
              go_quiet (fail)
              go_wp2_with fail
              go_roundg (gk - 1)
              case measure => have := HJ.out; omega
              case rel => exact ⟨j + 1, by first | rfl | (rw [w64_ (by omega) (by omega)]; rfl) | simp, ⟨by have := HJ.out; omega, by omega⟩, ⟨by rw [HTK.out]; exact Kd.R_below HRx.out (pw_below_drewN (Below.refl _ wx) _)⟩, ⟨HB2.out.trans ((pw_below_drewN (Below.refl _ wx) _).mono HB2.out.size)⟩⟩
        · have k3 : decide ((j : Int) < (N : Int)) = false := decide_eq_false (by omega)
          have hRw := HR.out
          rw [List.take_of_length_le (by rw [HK.out.1]; omega), ← HK.out.2.2.1] at hRw
          obtain ⟨want, hwant⟩ : ∃ want, listT S pre = want := ⟨_, rfl⟩
          rw [hwant] at hRw
          have hwl : want.length ≤ N := by rw [← hwant, HK.out.2.2.1, ← HK.out.1]; exact List.length_filter_le _ _
          have hwp : ∀ x ∈ want, isP x = true := fun x hx => by
            rw [← hwant, mem_list] at hx
            obtain ⟨s, hs⟩ := Option.isSome_iff_exists.1 hx.1
            exact (H8.out.1.good.short _ (fget_mem hs)).1
          obtain ⟨A13, c13, rfl⟩ := Kd.R_slice hRw
          have hba := (Below.refl wx.heap.size wx).alloc (Nat.le_refl _) (.cells #[.int .i64 0] 3)
          obtain ⟨wl, hwl0⟩ : ∃ wl, wx.alloc (.cells #[.int .i64 0] 3) = wl := ⟨_, rfl⟩
          rw [hwl0] at hba
          have hwls : wl.heap.size = wx.heap.size + 1 := by rw [← hwl0]; simp
          have x16 : Boxed wl wx.heap.size 3 (.int .i64 0) := by rw [← hwl0]; exact Boxed.new wx 3 _
          have hbl := (HB2.out.trans (hba.mono HB2.out.size))
          have hR7 : Kd.R Kd.string 9 wl 0 (fun _ => True) v7 want := by
            have := Kd.R_below H8.out.2.2.2.2.2.2.1 hbl
            rw [hwant] at this
            exact Kd.R_lower this (Nat.zero_le _)
          have hv7 : ∀ k, v7.ownBlock = some k → k < wx.heap.size := fun k hk => Nat.lt_of_lt_of_le ((Kd.R_bound H8.out.2.2.2.2.2.2.1).1 k hk).2.2.1 HB2.out.size
          have hv7b : ∀ k, v7.ownBlock = some k → w6.heap.size < k := fun k hk => by have := ((Kd.R_bound H8.out.2.2.2.2.2.2.1).1 k hk).2.1; simp at this; omega
          have hv13 : ∀ k, (Value.slice A13 want.length c13).ownBlock = some k → w8.heap.size ≤ k ∧ k < wx.heap.size := fun k hk => ⟨((Kd.R_bound hRw).1 k hk).2.1, ((Kd.R_bound hRw).1 k hk).2.2.1⟩
          have HV := Aside0.mk (And.intro hv7b hv13)
          have HL := Aside0.mk (And.intro (H8.out.1.below hbl) (And.intro (boxed_below H8.out.2.1 hbl) (And.intro (boxed_below H8.out.2.2.1 hbl) (And.intro (H8.out.2.2.2.1.trans (hbl.mono H8.out.2.2.2.1.size)) (And.intro (boxed_below H8.out.2.2.2.2.2.1 hbl) (And.intro hR7 (And.intro (Kd.R_below hRw hba) (And.intro x16 (And.intro hwls hv7)))))))))
          have HW := Aside0.mk (And.intro hwl hwp)
          have hwl2 : want.length ≤ 256 := by omega
          clear hRw hwant hwp hbl hR7 x16 hwls hba hWx hv7 hv7b hv13
          have Hw := Aside0.mk hwl0
          clear hwl0
          go_wp2_with fail
          rw [Hw.out]
          clear Hw
          have hwls := HL.out.2.2.2.2.2.2.2.2.1
          refine mid_range (id := 4) (fun D W => ∃ cnt : Nat, cnt ≤ want.length ∧ Boxed W wx.heap.size 3 (.int .i64 (cnt : Int)) ∧ Below wx.heap.size wl W ∧ wl.heap.size ≤ D ∧ W.heap[D]? = some (.deferred (some []))) ?_ ?_
          · refine (wpIn_wide (n := 6)).1 ?_
            apply wpIn_rangeFunc_ownG (F := Fence.wide) (n := 6) rfl (by decide) (gf := 44) (lb := #[.pointer (some ⟨bv, 0, none⟩)]) rfl trivial (enters_of Try.func44 (by kernel_rfl) rfl)
              (values_stops (6 - 1) bv 0 v7 want (by omega) _ HL.out.2.2.2.2.1.lt (fun k hk => by have := HL.out.2.2.2.2.2.2.2.2.2 k hk; omega) HL.out.2.2.2.2.1.cell HL.out.2.2.2.2.2.1)
              (fun h1 h2 k hk => (h2 k hk).trans (h1 k hk)) (fun W q o o' hq _ _ _ k hk => World.putObj_heap_other (by have := HL.out.2.2.2.2.2.2.2.2.2 k hk; omega)) (Below.refl _ _) (fun _ => rfl)
              (fun pr W => Boxed W wx.heap.size 3 (.int .i64 (pr.length : Int)) ∧ Below wx.heap.size wl W) (fun cd pr W => (cd = .exit 4 ∧ Boxed W wx.heap.size 3 (.int .i64 (pr.length : Int))) ∧ Below wx.heap.size wl W)
              (OwnFrom.and (Own.from (boxed_own _ _ _) _) (ownFrom_below (by omega) (by omega)))
              (fun cd => OwnFrom.and (OwnFrom.and (ownFrom_pure _ (fun _ => cd = .exit 4)) (Own.from (boxed_own _ _ _) _)) (ownFrom_below (by omega) (by omega)))
              ⟨HL.out.2.2.2.2.2.2.2.1, Below.refl _ _⟩
            case hassign =>
              intro lp x W K hK
              gi_wp2
              exact hK
            case hbody =>
              rintro lp pr x W ⟨hbx16, hBw⟩ hlt
              obtain ⟨b4, b5, b6⟩ := (hbx.out _ HL.out.2.2.2.1).2
              have y5 : Boxed W (w.heap.size + 1) 3 (.int .i64 left) := (hBw.block _ (by have := H0.out.2.1; have := H8.out.2.2.2.1.size; have := HB2.out.size; omega)).trans b5
              have hxge : w.heap.size + 1 < wx.heap.size := by have := H0.out.2.1; have := H8.out.2.2.2.1.size; have := HB2.out.size; omega
              obtain ⟨i, hi⟩ : ∃ i : Int, i = (pr.length : Int) := ⟨_, rfl⟩
              rw [← hi] at hbx16
              have hne1 : (wx.heap.size = w.heap.size + 1) = False := eq_false (by omega)
              have hne2 : (w.heap.size + 1 = wx.heap.size) = False := eq_false (by omega)
              have hcl := y5.cell
              have hcl2 := (y5.other (B' := wx.heap.size) (by omega) (.int .i64 (i + 1))).cell
              have h12 := hbx16.cell
              have h12f := hbx16.frozen
              have wi : wrap64 (i + 1) = i + 1 := w64_ (by omega) (by omega)
              have hl2 : (((pr ++ [x]).length : Nat) : Int) = i + 1 := by simp; omega
              have HBo := Aside0.mk (And.intro hl2 (And.intro (hbx16.set (.int .i64 (i + 1))) (hBw.setCell (p := ⟨wx.heap.size, 0, none⟩) (Nat.le_refl _) (.int .i64 (i + 1)))))
              clear hbx16 hBw hlt hi y5 b4 b5 b6 hl2 hxge
              by_cases hle : left ≤ i + 1
              · have c87 : decide (left ≤ i + 1) = true := decide_eq_true hle
                clear hle
                gi_wp2
                refine ⟨(KeepsOthers.setCell _ _ _).from _, ⟨rfl, ?_⟩, HBo.out.2.2⟩
                rw [HBo.out.1]
                exact HBo.out.2.1
              · have c87 : decide (left ≤ i + 1) = false := decide_eq_false hle
                clear hle
                gi_wp2
                refine ⟨(KeepsOthers.setCell _ _ _).from _, fun k hk => Below.heap_setCell _ _ _ k (by have := HL.out.2.2.2.2.2.2.2.2.2 k hk; show k ≠ wx.heap.size; omega), ?_, HBo.out.2.2⟩
                rw [HBo.out.1]
                exact HBo.out.2.1
            case hdone =>
              rintro D xs W hD rfl ⟨hb16, hBw⟩ hK
              exact ⟨.inl rfl, D, rfl, _, Nat.le_refl _, hb16, hBw, hD, hK⟩
            case hstop =>
              rintro D cd pr W hD hSp ⟨⟨rfl, hb16⟩, hBw⟩ hK
              refine wpIn_wide.2 (wp_exit ?_)
              exact ⟨.inr rfl, D, rfl, _, hSp.length_le, hb16, hBw, hD, hK⟩
          rintro D W1 ⟨cnt, hcnt, hb16, hBw1, hD, hDK⟩
          have hxge : W0.heap.size ≤ wx.heap.size := Nat.le_trans H8.out.2.2.2.1.size HB2.out.size
          have hltx : ∀ k, k < wx.heap.size → W1.heap[k]? = wl.heap[k]? := hBw1.block
          have hFx := HL.out.1.lt
          have hp4 : w2.heap.size + 1 < wx.heap.size ∧ w3.heap.size < wx.heap.size ∧ w6.heap.size < wx.heap.size ∧ bv < wx.heap.size := by
            have h1 := H8.out.2.1.lt
            have h2 := H8.out.2.2.1.lt
            have h3 := H8.out.2.2.2.2.2.1.lt
            have h4 := H8.out.1.lt
            have := HB2.out.size
            omega
          have H9 := Aside0.mk (And.intro (HL.out.1.step (hltx _ (by omega)) (hltx _ (by omega))) (And.intro ((hltx _ hp4.2.1).trans HL.out.2.1 : Boxed W1 w3.heap.size 25 (.pointer (some ⟨w2.heap.size + 1, 0, none⟩))) (And.intro ((hltx _ hp4.2.2.1).trans HL.out.2.2.1 : Boxed W1 w6.heap.size 31 (.slice A6 N c6)) (And.intro (HL.out.2.2.2.1.trans (hBw1.mono hxge)) (And.intro ((hltx _ hp4.2.2.2).trans HL.out.2.2.2.2.1 : Boxed W1 bv 31 v7) (And.intro (row_kept HL.out.2.2.2.2.2.1 (fun k hk => hltx k (HL.out.2.2.2.2.2.2.2.2.2 k hk))) (And.intro hDK (And.intro hD hp4))))))))
          have hrow13 : Kd.R Kd.string 9 W1 w8.heap.size (fun _ => True) (.slice A13 want.length c13) want := row_kept HL.out.2.2.2.2.2.2.1 (fun k hk => hltx k (HV.out.2 k hk).2)
          have hc16 := hb16.cell
          have hc7 := Boxed.cell (show Boxed W1 w3.heap.size 25 (.pointer (some ⟨w2.heap.size + 1, 0, none⟩)) from H9.out.2.1)
          have k91 : decide ((want.length : Int) < (cnt : Int)) = false := decide_eq_false (by omega)
          have HR13 := Aside0.mk hrow13
          have hpb3 : w2.heap.size + 1 < w3.heap.size ∧ w3.heap.size ≤ w6.heap.size := ⟨H3.out.2.2.2.2, by have := HX6.out; omega⟩
          have HPB := Aside0.mk hpb3
          have H8s := Aside0.mk (show w6.heap.size < w8.heap.size from by have := H8.out.2.2.1.lt; omega)
          clear hb16 hBw1 hD hDK hltx hFx hp4 hrow13 hpb3
          rcases (show want.length = 0 ∨ 0 < want.length by omega) with hw0 | hw0
          · have k92 : decide (0 < want.length) = false := decide_eq_false (by omega)
            have k93 : ¬ 0 < want.length := by omega
            clear hw0
            obtain ⟨W2, hW2⟩ : ∃ W2, W2 = W1 := ⟨_, rfl⟩
            have hcc : ∀ k, k < wl.heap.size → k ≠ w2.heap.size + 1 → k ≠ w2.heap.size → W2.heap[k]? = W1.heap[k]? := fun k _ _ _ => by rw [hW2]
            have HT2 := Aside0.mk (show ∃ S2, TFix W2 (w2.heap.size + 1) w2.heap.size S2 ∧ S2.cs.length ≤ 401 ∧ Turn (fun k => k = w2.heap.size + 1 ∨ k = w2.heap.size) W1 W2 from by rw [hW2]; exact ⟨S, H9.out.1, by have := HSl.out; omega, Turn.refl _ _⟩)
            have HWW := Aside0.mk hW2
            clear hW2 hcc
            go_wp2_with fail
            rw [← HWW.out]
            obtain ⟨S2, hF2, hSl2, hT2⟩ := HT2.out
            have hba2 := (Below.refl W2.heap.size W2).alloc (Nat.le_refl _) (.cells #[.slice none 0 0] 31)
            obtain ⟨wk, hwk⟩ : ∃ wk, W2.alloc (.cells #[.slice none 0 0] 31) = wk := ⟨_, rfl⟩
            rw [hwk] at hba2 ⊢
            have hwks : wk.heap.size = W2.heap.size + 1 := by rw [← hwk]; simp
            have x17 : Boxed wk W2.heap.size 31 (.slice none 0 0) := by rw [← hwk]; exact Boxed.new W2 31 _
            clear hwk
            have HN := Aside0.mk (show (w2.heap.size + 1 < w3.heap.size ∧ w3.heap.size < w6.heap.size ∧ w6.heap.size < w8.heap.size ∧ w8.heap.size ≤ wx.heap.size) ∧ (wl.heap.size = wx.heap.size + 1 ∧ wl.heap.size ≤ D ∧ D < W1.heap.size ∧ W1.heap.size ≤ W2.heap.size) ∧ (W0.heap.size ≤ w2.heap.size ∧ W0.heap.size = w.heap.size + 3 ∧ wk.heap.size = W2.heap.size + 1 ∧ w6.heap.size < bv ∧ bv < w8.heap.size) from
              ⟨⟨HPB.out.1, HX6.out, H8s.out, HB2.out.size⟩, ⟨HL.out.2.2.2.2.2.2.2.2.1, H9.out.2.2.2.2.2.2.2.1, (Array.getElem?_eq_some_iff.1 H9.out.2.2.2.2.2.2.1).1, hT2.size⟩, ⟨H2.out.size, H0.out.2.1, hwks, by have := H8.out.2.2.2.2.2.2.2; simp at this; omega, H8.out.2.2.2.2.2.1.lt⟩⟩)
            have hk1 : ∀ k, k < W1.heap.size → k ≠ w2.heap.size + 1 → k ≠ w2.heap.size → wk.heap[k]? = W1.heap[k]? := fun k h1 h2 h3 => (hba2.block k (Nat.lt_of_lt_of_le h1 hT2.size)).trans (hT2.block k h1 (fun h => by rcases h with h | h; exact h2 h; exact h3 h))
            have HK1 := Aside0.mk (And.intro (hF2.below hba2) (And.intro ((hk1 _ (by have := HN.out; omega) (by have := HN.out; omega) (by have := HN.out; omega)).trans H9.out.2.1 : Boxed wk w3.heap.size 25 (.pointer (some ⟨w2.heap.size + 1, 0, none⟩))) (And.intro ((hk1 _ (by have := HN.out; omega) (by have := HN.out; omega) (by have := HN.out; omega)).trans H9.out.2.2.1 : Boxed wk w6.heap.size 31 (.slice A6 N c6)) (And.intro ((hk1 _ (by have := HN.out; omega) (by have := HN.out; omega) (by have := HN.out; omega)).trans H9.out.2.2.2.2.1 : Boxed wk bv 31 v7) (And.intro (row_kept H9.out.2.2.2.2.2.1 (fun k hk => hk1 k (by have := HN.out; have := HL.out.2.2.2.2.2.2.2.2.2 k hk; omega) (by have := HN.out; have := HV.out.1 k hk; omega) (by have := HN.out; have := HV.out.1 k hk; omega))) (And.intro (row_kept HR13.out (fun k hk => hk1 k (by have := HN.out; have := HV.out.2 k hk; omega) (by have := HN.out; have := HV.out.2 k hk; omega) (by have := HN.out; have := HV.out.2 k hk; omega))) (And.intro ((hk1 D (by have := HN.out; omega) (by have := HN.out; omega) (by have := HN.out; omega)).trans H9.out.2.2.2.2.2.2.1) (And.intro (H9.out.2.2.2.1.trans ((hT2.below (base := W0.heap.size) (fun k hk => by have := HN.out; omega) H9.out.2.2.2.1.size).trans (hba2.mono (by have := HN.out; omega)))) x17))))))))
            clear hF2 hba2 hwks x17 hk1 hT2
            refine (wpIn_wide (n := 6)).1 ?_
            apply wpIn_rangeFunc_ownG (F := Fence.wide) (n := 6) rfl (by decide) (gf := 44) (lb := #[.pointer (some ⟨bv, 0, none⟩)]) rfl trivial (enters_of Try.func44 (by kernel_rfl) rfl)
              (values_stops (6 - 1) bv 0 v7 want (by omega) _ (by have := HN.out; omega) (fun k hk => by have := HL.out.2.2.2.2.2.2.2.2.2 k hk; have := HN.out; omega) (Boxed.cell (show Boxed wk bv 31 v7 from HK1.out.2.2.2.1)) HK1.out.2.2.2.2.1)
              (fun h1 h2 k hk => (h2 k hk).trans (h1 k hk)) (fun W q o o' hq _ _ _ k hk => World.putObj_heap_other (by have := HL.out.2.2.2.2.2.2.2.2.2 k hk; have := HN.out; omega)) (Below.refl _ _) (fun _ => rfl)
              (Got wk (w2.heap.size + 1) w2.heap.size W2.heap.size 401) (fun _ _ _ => False)
              (got_own (by have := HN.out; omega) (by have := HN.out; omega) (by have := HN.out; omega)) (fun cd => ownFrom_pure _ (fun _ => False))
              ⟨_, S2, HK1.out.2.2.2.2.2.2.2.2, ⟨rfl, .inl ⟨rfl, rfl⟩⟩, HK1.out.1, by simpa using hSl2, Turn.refl _ _⟩
            case hassign =>
              intro lp x W K hK
              gi_wp2
              exact hK
            case hstop =>
              intro D2 cd pr W _ _ hx _
              exact hx.elim
            case hbody =>
              rintro lp pr x W _ hlt
              exact absurd hlt (by omega)
            case hdone =>
              rintro D2 xs W hD2 rfl ⟨u, S3, hbu, hur, hF3, hS3, hT3⟩ hK2
              have hRu : Kd.R Kd.string 9 W wk.heap.size (fun _ => True) u xs := Kd.R_of_own hur (fun _ _ => trivial)
              have hR13 := row_kept HK1.out.2.2.2.2.2.1 (fun k hk => hT3.block k (by have := HV.out.2 k hk; have := HN.out; omega) (by have := HV.out.2 k hk; have := HN.out; omega))
              obtain ⟨A7, c7, rfl⟩ := Kd.R_slice hRu
              obtain ⟨hn7, hc7x, hC7⟩ := Kd.R_reads' hRu
              obtain ⟨hn13, hc13, hC13⟩ := Kd.R_reads' hR13
              have htx := texts_calls (by omega) hC7 hc7x hC13 hc13
              obtain ⟨bw, q4, q5, q6⟩ := hbx.out _ HK1.out.2.2.2.2.2.2.2.1
              have y6 : Boxed W (w.heap.size + 2) 4 (.bool false) := turn_boxed hT3 q6 (show ¬ ((w.heap.size + 2 = w2.heap.size + 1 ∨ w.heap.size + 2 = w2.heap.size) ∨ w.heap.size + 2 = W2.heap.size) from by have := HN.out; omega)
              have hBW : Below w.heap.size w W := bw.trans (hT3.below (base := w.heap.size) (fun k hk => by have := HN.out; omega) bw.size)
              have hDK : W.heap[D]? = some (.deferred (some [])) := (hT3.block D (by have := HN.out; omega) (show ¬ ((D = w2.heap.size + 1 ∨ D = w2.heap.size) ∨ D = W2.heap.size) from by have := HN.out; omega)).trans HK1.out.2.2.2.2.2.2.1
              have hmk : Marks (w.heap.size + 3) W W.heap.size [{ target := .collected D2, args := #[] }, { target := .collected D, args := #[] }] :=
                ⟨D2, rfl, by have := HN.out; omega, (Array.getElem?_eq_some_iff.1 hK2).1, hK2, D, rfl, by have := HN.out; omega, by have := HN.out; omega, hDK, trivial⟩
              have hc17 := hbu.cell
              have hc6 := fun n => (show Boxed (W.drewN n) (w.heap.size + 2) 4 (.bool false) from y6).cell
              have hf6 := fun n => (show Boxed (W.drewN n) (w.heap.size + 2) 4 (.bool false) from y6).frozen
              have HD := Aside0.mk (And.intro hBW (And.intro hmk y6))
              clear hbu hur hF3 hS3 hT3 hRu hR13 hn7 hc7x hC7 hn13 hc13 hC13 bw q4 q5 q6 y6 hBW hDK hmk hK2
              go_wp2_with fail
              refine htx.mono ?_
              rintro e w9 ⟨rfl, ⟨n9, rfl⟩⟩
              have hc6b := hc6 n9
              have hf6b := hf6 n9
              clear htx hc6 hf6
              go_wp2_with fail
              refine leaves_marks (Br := w.heap.size + 2) (fun W' hb hc => ⟨_, hres.out _ rfl W' hc, rfl, hb⟩) [{ target := .collected D2, args := #[] }, { target := .collected D, args := #[] }] W.heap.size _ ?_ ?_ (World.cell?_setCell_same' _ _ _ (by rw [hc6b]; rfl))
              · exact (HD.out.2.1.kept (fun k h1 h2 => Below.heap_setCell _ _ _ k (by show k ≠ w.heap.size + 2; omega))).lower (by omega)
              · exact (HD.out.1.trans ((pw_below_drewN (Below.refl _ W) n9).mono HD.out.1.size)).setCell (p := ⟨w.heap.size + 2, 0, none⟩) (by simp) _
          · have k92 : decide (0 < want.length) = true := decide_eq_true (by omega)
            obtain ⟨hnn, hcc, hCC⟩ := Kd.R_reads' HR13.out
            obtain ⟨ad13, rfl, y0⟩ := Kd.at_string hCC ((want.length - 1 : Nat) : Int) (by omega) (by omega)
            have hwlt : want.length - 1 < want.length := by omega
            have hrd : rdOf ByteArray.empty want ((want.length - 1 : Nat) : Int) = want[want.length - 1]'hwlt := by
              unfold rdOf
              rw [Int.toNat_natCast, List.getD_eq_getElem?_getD, List.getElem?_eq_getElem hwlt]
              rfl
            rw [hrd, Int.toNat_natCast] at y0
            have hxp := HW.out.2 _ (List.getElem_mem hwlt)
            obtain ⟨x, hx⟩ : ∃ x, want[want.length - 1]'hwlt = x := ⟨_, rfl⟩
            rw [hx] at y0 hxp
            have hxm : x.size ≤ maxLen := by have := isP_size hxp; unfold maxLen; omega
            have k6 : (0 : Int) ≤ (want.length : Int) - 1 := by omega
            have k7 : (1 : Int) ≤ (want.length : Int) := by omega
            have k8 : (want.length : Int) - 1 < (want.length : Int) := by omega
            have k9 : ((want.length : Int) - 1).toNat = want.length - 1 := by omega
            have hwr : IntKind.i64.wrap ((want.length : Int) - 1) = (want.length : Int) - 1 := IntWalk.i64_in _ (by omega)
            have hrm := fun (W : World) (h : TFix W (w2.heap.size + 1) w2.heap.size S) => h.remove x hxm (by have := HSl.out; omega)
            have HF9 := Aside0.mk (H9.out.1.below (Below.drew (Below.refl _ W1)))
            clear hnn hcc hCC hrd hx hxp hwlt hw0
            go_wp2_with fail
            go_region_held3 (fun W => W.cell? ⟨w3.heap.size, 0, none⟩ = some (.pointer (some ⟨w2.heap.size + 1, 0, none⟩)) ∧ W.cell? (ad13.add (want.length - 1)) = some (.string x)) (first | exact ⟨hc7, y0⟩ | exact ⟨hc7', y0'⟩)
              (first | (go_at_call 17; refine (hrm _ HF9.out).mono ?_; rintro e W2 ⟨rfl, hF2, hT2⟩; have hc7' := (turn_boxed hT2 (show Boxed W1.drew w3.heap.size 25 _ from H9.out.2.1) (by have := HPB.out; omega)).cell; have y0' := turn_cell hT2 (show W1.drew.cell? _ = _ from y0) (by rw [add_block]; have h1 := HV.out.2 ad13.block rfl; have h2 := HPB.out; have h3 := H8s.out; omega)))
            have HT2 := Aside0.mk (show ∃ S2, TFix W2 (w2.heap.size + 1) w2.heap.size S2 ∧ S2.cs.length ≤ 401 ∧ Turn (fun k => k = w2.heap.size + 1 ∨ k = w2.heap.size) W1 W2 from ⟨_, hF2, by have h1 := HSl.out; unfold removeT; split <;> simp <;> omega, ⟨hT2.os, hT2.tape, hT2.output, hT2.size, hT2.block⟩⟩)
            clear hF2 hT2 hc7' y0' y0 hc7 HF9 hrm hwr k6 k7 k8 k9
            go_wp2_with fail
            obtain ⟨S2, hF2, hSl2, hT2⟩ := HT2.out
            have hba2 := (Below.refl W2.heap.size W2).alloc (Nat.le_refl _) (.cells #[.slice none 0 0] 31)
            obtain ⟨wk, hwk⟩ : ∃ wk, W2.alloc (.cells #[.slice none 0 0] 31) = wk := ⟨_, rfl⟩
            rw [hwk] at hba2 ⊢
            have hwks : wk.heap.size = W2.heap.size + 1 := by rw [← hwk]; simp
            have x17 : Boxed wk W2.heap.size 31 (.slice none 0 0) := by rw [← hwk]; exact Boxed.new W2 31 _
            clear hwk
            have HN := Aside0.mk (show (w2.heap.size + 1 < w3.heap.size ∧ w3.heap.size < w6.heap.size ∧ w6.heap.size < w8.heap.size ∧ w8.heap.size ≤ wx.heap.size) ∧ (wl.heap.size = wx.heap.size + 1 ∧ wl.heap.size ≤ D ∧ D < W1.heap.size ∧ W1.heap.size ≤ W2.heap.size) ∧ (W0.heap.size ≤ w2.heap.size ∧ W0.heap.size = w.heap.size + 3 ∧ wk.heap.size = W2.heap.size + 1 ∧ w6.heap.size < bv ∧ bv < w8.heap.size) from
              ⟨⟨HPB.out.1, HX6.out, H8s.out, HB2.out.size⟩, ⟨HL.out.2.2.2.2.2.2.2.2.1, H9.out.2.2.2.2.2.2.2.1, (Array.getElem?_eq_some_iff.1 H9.out.2.2.2.2.2.2.1).1, hT2.size⟩, ⟨H2.out.size, H0.out.2.1, hwks, by have := H8.out.2.2.2.2.2.2.2; simp at this; omega, H8.out.2.2.2.2.2.1.lt⟩⟩)
            have hk1 : ∀ k, k < W1.heap.size → k ≠ w2.heap.size + 1 → k ≠ w2.heap.size → wk.heap[k]? = W1.heap[k]? := fun k h1 h2 h3 => (hba2.block k (Nat.lt_of_lt_of_le h1 hT2.size)).trans (hT2.block k h1 (fun h => by rcases h with h | h; exact h2 h; exact h3 h))
            have HK1 := Aside0.mk (And.intro (hF2.below hba2) (And.intro ((hk1 _ (by have := HN.out; omega) (by have := HN.out; omega) (by have := HN.out; omega)).trans H9.out.2.1 : Boxed wk w3.heap.size 25 (.pointer (some ⟨w2.heap.size + 1, 0, none⟩))) (And.intro ((hk1 _ (by have := HN.out; omega) (by have := HN.out; omega) (by have := HN.out; omega)).trans H9.out.2.2.1 : Boxed wk w6.heap.size 31 (.slice A6 N c6)) (And.intro ((hk1 _ (by have := HN.out; omega) (by have := HN.out; omega) (by have := HN.out; omega)).trans H9.out.2.2.2.2.1 : Boxed wk bv 31 v7) (And.intro (row_kept H9.out.2.2.2.2.2.1 (fun k hk => hk1 k (by have := HN.out; have := HL.out.2.2.2.2.2.2.2.2.2 k hk; omega) (by have := HN.out; have := HV.out.1 k hk; omega) (by have := HN.out; have := HV.out.1 k hk; omega))) (And.intro (row_kept HR13.out (fun k hk => hk1 k (by have := HN.out; have := HV.out.2 k hk; omega) (by have := HN.out; have := HV.out.2 k hk; omega) (by have := HN.out; have := HV.out.2 k hk; omega))) (And.intro ((hk1 D (by have := HN.out; omega) (by have := HN.out; omega) (by have := HN.out; omega)).trans H9.out.2.2.2.2.2.2.1) (And.intro (H9.out.2.2.2.1.trans ((hT2.below (base := W0.heap.size) (fun k hk => by have := HN.out; omega) H9.out.2.2.2.1.size).trans (hba2.mono (by have := HN.out; omega)))) x17))))))))
            clear hF2 hba2 hwks x17 hk1 hT2
            refine (wpIn_wide (n := 6)).1 ?_
            apply wpIn_rangeFunc_ownG (F := Fence.wide) (n := 6) rfl (by decide) (gf := 44) (lb := #[.pointer (some ⟨bv, 0, none⟩)]) rfl trivial (enters_of Try.func44 (by kernel_rfl) rfl)
              (values_stops (6 - 1) bv 0 v7 want (by omega) _ (by have := HN.out; omega) (fun k hk => by have := HL.out.2.2.2.2.2.2.2.2.2 k hk; have := HN.out; omega) (Boxed.cell (show Boxed wk bv 31 v7 from HK1.out.2.2.2.1)) HK1.out.2.2.2.2.1)
              (fun h1 h2 k hk => (h2 k hk).trans (h1 k hk)) (fun W q o o' hq _ _ _ k hk => World.putObj_heap_other (by have := HL.out.2.2.2.2.2.2.2.2.2 k hk; have := HN.out; omega)) (Below.refl _ _) (fun _ => rfl)
              (Got wk (w2.heap.size + 1) w2.heap.size W2.heap.size 401) (fun _ _ _ => False)
              (got_own (by have := HN.out; omega) (by have := HN.out; omega) (by have := HN.out; omega)) (fun cd => ownFrom_pure _ (fun _ => False))
              ⟨_, S2, HK1.out.2.2.2.2.2.2.2.2, ⟨rfl, .inl ⟨rfl, rfl⟩⟩, HK1.out.1, by simpa using hSl2, Turn.refl _ _⟩
            case hassign =>
              intro lp x W K hK
              gi_wp2
              exact hK
            case hstop =>
              intro D2 cd pr W _ _ hx _
              exact hx.elim
            case hbody =>
              rintro lp pr x W ⟨u, S3, hbu, hur, hF3, hS3, hT3⟩ hlt
              have hRu : Kd.R Kd.string 9 W wk.heap.size (fun _ => True) u pr := Kd.R_of_own hur (fun _ _ => trivial)
              obtain ⟨A7, c7, rfl⟩ := Kd.R_slice hRu
              have hWs := hT3.size
              have hcell := hbu.cell
              have HU := Aside0.mk (And.intro hbu (And.intro hur (And.intro hRu (And.intro hF3 (And.intro hS3 hT3)))))
              have hz7 : ∀ V : World, Turn (fun k => (k = w2.heap.size + 1 ∨ k = w2.heap.size) ∨ k = W2.heap.size) wk V → Boxed V w3.heap.size 25 (.pointer (some ⟨w2.heap.size + 1, 0, none⟩)) ∧ Boxed V w6.heap.size 31 (.slice A6 N c6) ∧ Boxed V w.heap.size 9 (.string pre) := fun V hV =>
                ⟨turn_boxed hV HK1.out.2.1 (by have := HN.out; omega), turn_boxed hV HK1.out.2.2.1 (by have := HN.out; omega), turn_boxed hV (hbx.out _ HK1.out.2.2.2.2.2.2.2.1).2.1 (by have := HN.out; omega)⟩
              have HZ := Aside0.mk hz7
              have hpn : pr.length ≤ 256 := by omega
              have hp16 : pr.length < W2.heap.size + 1 ∨ True := .inr trivial
              clear hbu hur hRu hF3 hS3 hT3 hz7 hp16
              gi_wp2_with (first | (gi_at_builtin; refine txt_push_in (base := wk.heap.size) (W := W) (xs := pr) (v := .slice A7 pr.length c7) rfl rfl rfl rfl rfl HU.out.2.1 (by omega) (by omega) ?_; intro v' w3' hown' hg3; (obtain ⟨g', cap', rfl⟩ := ownsRow_succ hown'); have HA := Aside0.mk (Boxed.appended HU.out.1 (by decide) (own_lower HU.out.2.1) (Nat.zero_le _) (Nat.zero_le _) (own_lower hown') hg3); have HO := Aside0.mk (And.intro hown' (And.intro hg3 (pw_below_grown ((Below.refl wk.heap.size W).alloc hWs (.cells #[.string x] 9)) _ (by simp; omega) hg3 (fun k hk => ((Kd.R_bound HU.out.2.2.1).1 k hk).2.1)))); have hc3 := HA.out.1.cell; have hf3 := HA.out.1.frozen; have hc4 := HA.out.2.1.cell; have HTA := Aside0.mk ((HU.out.2.2.2.2.2.below_more HO.out.2.2).setCell ⟨W2.heap.size, 0, none⟩ (.slice (some ⟨g', 0, none⟩) (pr.length + 1) cap') (.inr rfl)); have hc7A := (HZ.out _ HTA.out).1.cell; clear hown' hg3))
              obtain ⟨WA, hWA⟩ : ∃ WA, w3'.setCell ⟨W2.heap.size, 0, none⟩ (.slice (some ⟨g', 0, none⟩) (pr.length + 1) cap') = WA := ⟨_, rfl⟩
              rw [hWA]
              have hxe : encs Value.string (pr ++ [x]) = encs Value.string pr ++ [.string x] := by simp [encs]
              have hge : wk.heap.size ≤ g' := by
                rcases HO.out.1.2 with ⟨e, _⟩ | ⟨g, cap, cur, e, h1, _⟩
                · cases e
                · cases e; exact h1
              have HWA := Aside0.mk (show Turn (fun k => (k = w2.heap.size + 1 ∨ k = w2.heap.size) ∨ k = W2.heap.size) wk WA ∧ TFix WA (w2.heap.size + 1) w2.heap.size S3 ∧ KeepsFrom wk.heap.size W WA ∧ Boxed WA W2.heap.size 31 (.slice (some ⟨g', 0, none⟩) (pr.length + 1) cap') ∧ WA.ownsRow wk.heap.size 9 1 (.slice (some ⟨g', 0, none⟩) (pr.length + 1) cap') (pr.length + 1) (encs Value.string (pr ++ [x])) ∧ RowKp v7 W WA from by
                rw [← hWA]
                refine ⟨HTA.out, HU.out.2.2.2.1.step ?_ ?_, HA.out.2.2.2.1.from _, HA.out.2.1, ?_, fun k hk => ?_⟩
                · exact (Below.heap_setCell _ _ _ _ (by have := HN.out; show _ ≠ W2.heap.size; omega)).trans (HO.out.2.2.block _ (by have := HN.out; omega))
                · exact (Below.heap_setCell _ _ _ _ (by have := HN.out; show _ ≠ W2.heap.size; omega)).trans (HO.out.2.2.block _ (by have := HN.out; omega))
                · rw [hxe]
                  exact HO.out.1.kept (grownBy_setCell' w3' W2.heap.size _) (.inr (by simp [Value.ownBlock]; have := HN.out; omega))
                · have := HL.out.2.2.2.2.2.2.2.2.2 k hk
                  exact (Below.heap_setCell _ _ _ _ (by have := HN.out; show _ ≠ W2.heap.size; omega)).trans (HO.out.2.2.block _ (by have := HN.out; omega)))
              clear hWA hxe hc3 hf3 hc4 hc7A hcell HTA HO HA hWs
              refine ⟨trivial, ?_⟩
              refine (CallsIn.inRound lp (callsIn_wide.2 (HWA.out.2.1.remove2 x (by have := HU.out.2.2.2.2.1; omega)))).mono ?_
              rintro e WB ⟨n1, rfl, ⟨S4, hFB, hS4⟩, hTB⟩
              have hTWB := HWA.out.1.trans hTB (fun k hk => .inl (.inl hk))
              have HWB := Aside0.mk (And.intro hFB (And.intro hS4 (And.intro hTB hTWB)))
              obtain ⟨q7, q10, q4⟩ := HZ.out _ hTWB
              have hc7B := q7.cell
              have hc4B := q4.cell
              have hmx : Try.prog.follows .mixedOrders = true := by kernel_rfl
              have hmin : min (pre.size : Int) 9 ≤ (pre.size : Int) := Int.min_le_left _ _
              have hmin0 : 0 ≤ min (pre.size : Int) 9 := by omega
              clear hFB hS4 hTB hTWB q7 q10 q4
              gi_wp2_with fail
              have hwr := fun s => (HWB.out.1.below (Below.drew (Below.refl _ WB))).write2 ⟨#[122, 122, 47, 110, 101, 119]⟩ s (by decide) (by have := HU.out.2.2.2.2.1; have := HWB.out.2.1; omega)
              gi_region_with_o ((refine ⟨trivial, ?_⟩; refine (CallsIn.inRound lp (callsIn_wide.2 (hwr _))).mono ?_; rintro e WC ⟨n2, rfl, ⟨S5, hFC, hS5⟩, hTC⟩))
              all_goals
                have hTWC := HWB.out.2.2.2.drew.trans hTC (fun k hk => .inl (.inl hk))
                have q17 := turn_boxed hTC (ok := fun k => k = w2.heap.size + 1 ∨ k = w2.heap.size) (show Boxed WB.drew W2.heap.size 31 _ from turn_boxed (ok := fun k => k = w2.heap.size + 1 ∨ k = w2.heap.size) HWB.out.2.2.1.drew HWA.out.2.2.2.1 (show ¬ (W2.heap.size = w2.heap.size + 1 ∨ W2.heap.size = w2.heap.size) from by have := HN.out; omega)) (show ¬ (W2.heap.size = w2.heap.size + 1 ∨ W2.heap.size = w2.heap.size) from by have := HN.out; omega)
                have q10 := (HZ.out _ hTWC).2.1
                have hc17 := q17.cell
                have hc10 := q10.cell
                have k95 : decide ((N : Int) < (pr.length : Int) + 1) = false := decide_eq_false (by have := HW.out.1; omega)
                have k95n : decide (N < pr.length + 1) = false := decide_eq_false (by have := HW.out.1; omega)
                have HWC := Aside0.mk (And.intro hFC (And.intro hS5 (And.intro hTC (And.intro hTWC q17))))
                clear hFC hS5 hTC hTWC q17 q10 hwr hc7B hc4B hmin hmin0
                gi_wp2_with fail
                have hpb : ∀ k, (k = w2.heap.size + 1 ∨ k = w2.heap.size) → k < wk.heap.size := fun k hk => by have := HN.out; omega
                have hkk : ∀ k, k < WA.heap.size → k ≠ w2.heap.size + 1 → k ≠ w2.heap.size → WC.heap[k]? = WA.heap[k]? := fun k h1 h2 h3 =>
                  (HWC.out.2.2.1.block k (Nat.lt_of_lt_of_le h1 HWB.out.2.2.1.size) (fun h => by rcases h with h | h; exact h2 h; exact h3 h)).trans (HWB.out.2.2.1.block k h1 (fun h => by rcases h with h | h; exact h2 h; exact h3 h))
                refine ⟨HWA.out.2.2.1.trans ((keepsFrom_turn HWB.out.2.2.1 hpb).trans (((KeepsOthers.drew WB).from _).trans (keepsFrom_turn HWC.out.2.2.1 hpb))), fun k hk => (hkk k ?_ ?_ ?_).trans (HWA.out.2.2.2.2.2 k hk), ⟨_, S5, HWC.out.2.2.2.2, ?_, HWC.out.1, ?_, HWC.out.2.2.2.1⟩⟩
                · have := HL.out.2.2.2.2.2.2.2.2.2 k hk; have := HN.out; have := HWA.out.1.size; omega
                · have := HV.out.1 k hk; have := HN.out; omega
                · have := HV.out.1 k hk; have := HN.out; omega
                · have hrA : Kd.R Kd.string 9 WA wk.heap.size (fun _ => True) (.slice (some ⟨g', 0, none⟩) (pr.length + 1) cap') (pr ++ [x]) := Kd.R_of_own (by rw [List.length_append, List.length_singleton]; exact HWA.out.2.2.2.2.1) (fun _ _ => trivial)
                  refine Kd.own_of_R (row_kept hrA (fun k hk => hkk k ((Kd.R_bound hrA).1 k hk).2.2.1 ?_ ?_))
                  · have := ((Kd.R_bound hrA).1 k hk).2.1; have := HN.out; omega
                  · have := ((Kd.R_bound hrA).1 k hk).2.1; have := HN.out; omega
                · have h1 := HWC.out.2.1; have h2 := HWB.out.2.1; have h3 := HU.out.2.2.2.2.1
                  rw [List.length_append, List.length_singleton]; omega
            case hdone =>
              rintro D2 xs W hD2 rfl ⟨u, S3, hbu, hur, hF3, hS3, hT3⟩ hK2
              have hRu : Kd.R Kd.string 9 W wk.heap.size (fun _ => True) u xs := Kd.R_of_own hur (fun _ _ => trivial)
              have hR13 := row_kept HK1.out.2.2.2.2.2.1 (fun k hk => hT3.block k (by have := HV.out.2 k hk; have := HN.out; omega) (by have := HV.out.2 k hk; have := HN.out; omega))
              obtain ⟨A7, c7, rfl⟩ := Kd.R_slice hRu
              obtain ⟨hn7, hc7x, hC7⟩ := Kd.R_reads' hRu
              obtain ⟨hn13, hc13, hC13⟩ := Kd.R_reads' hR13
              have htx := texts_calls (by omega) hC7 hc7x hC13 hc13
              obtain ⟨bw, q4, q5, q6⟩ := hbx.out _ HK1.out.2.2.2.2.2.2.2.1
              have y6 : Boxed W (w.heap.size + 2) 4 (.bool false) := turn_boxed hT3 q6 (show ¬ ((w.heap.size + 2 = w2.heap.size + 1 ∨ w.heap.size + 2 = w2.heap.size) ∨ w.heap.size + 2 = W2.heap.size) from by have := HN.out; omega)
              have hBW : Below w.heap.size w W := bw.trans (hT3.below (base := w.heap.size) (fun k hk => by have := HN.out; omega) bw.size)
              have hDK : W.heap[D]? = some (.deferred (some [])) := (hT3.block D (by have := HN.out; omega) (show ¬ ((D = w2.heap.size + 1 ∨ D = w2.heap.size) ∨ D = W2.heap.size) from by have := HN.out; omega)).trans HK1.out.2.2.2.2.2.2.1
              have hmk : Marks (w.heap.size + 3) W W.heap.size [{ target := .collected D2, args := #[] }, { target := .collected D, args := #[] }] :=
                ⟨D2, rfl, by have := HN.out; omega, (Array.getElem?_eq_some_iff.1 hK2).1, hK2, D, rfl, by have := HN.out; omega, by have := HN.out; omega, hDK, trivial⟩
              have hc17 := hbu.cell
              have hc6 := fun n => (show Boxed (W.drewN n) (w.heap.size + 2) 4 (.bool false) from y6).cell
              have hf6 := fun n => (show Boxed (W.drewN n) (w.heap.size + 2) 4 (.bool false) from y6).frozen
              have HD := Aside0.mk (And.intro hBW (And.intro hmk y6))
              clear hbu hur hF3 hS3 hT3 hRu hR13 hn7 hc7x hC7 hn13 hc13 hC13 bw q4 q5 q6 y6 hBW hDK hmk hK2
              go_wp2_with fail
              refine htx.mono ?_
              rintro e w9 ⟨rfl, ⟨n9, rfl⟩⟩
              have hc6b := hc6 n9
              have hf6b := hf6 n9
              clear htx hc6 hf6
              go_wp2_with fail
              refine leaves_marks (Br := w.heap.size + 2) (fun W' hb hc => ⟨_, hres.out _ rfl W' hc, rfl, hb⟩) [{ target := .collected D2, args := #[] }, { target := .collected D, args := #[] }] W.heap.size _ ?_ ?_ (World.cell?_setCell_same' _ _ _ (by rw [hc6b]; rfl))
              · exact (HD.out.2.1.kept (fun k h1 h2 => Below.heap_setCell _ _ _ k (by show k ≠ w.heap.size + 2; omega))).lower (by omega)
              · exact (HD.out.1.trans ((pw_below_drewN (Below.refl _ W) n9).mono HD.out.1.size)).setCell (p := ⟨w.heap.size + 2, 0, none⟩) (by simp) _
end Go.Proofs.Ytkldaghhfnpcjaa.P
