/- TreeCopies' own function, walked. -/
import Derived.Test.YtkldaghhfnpcjaaGLawPlaysW
import Derived.Test.YtkldaghhfnpcjaaGRCopy
namespace Go.Proofs.Ytkldaghhfnpcjaa.P
open Go.RowKit Go.Maps Go.Proofs.YtkldaghhfnpcjaaW.PrintWords Go.Proofs.YtkldaghhfnpcjaaW.PrintLast Go.Proofs.YtkldaghhfnpcjaaW.PrintMore Go.Proofs.Ytkldaghhfnpcjaa.Pl
set_option linter.unusedVariables false
set_option linter.unusedSimpArgs false
theorem TMem.same {w w' : World} {base p : Nat} {ok : Nat → Prop} {S : TS} (h : TMem w base ok p S) (hk : ∀ k, ok k → w'.heap[k]? = w.heap[k]?) (hs : w.heap.size ≤ w'.heap.size) : TMem w' base ok p S := by
  obtain ⟨m, hb, hm⟩ := h.blk
  refine ⟨⟨m, (hk p h.own).trans hb, ?_⟩, h.own, fun k hk => ⟨(h.bound k hk).1, Nat.lt_of_lt_of_le (h.bound k hk).2 hs⟩, h.good, h.few⟩
  rcases hm with hm | ⟨b, e, hne, hok, hM⟩
  · exact .inl hm
  · exact .inr ⟨b, e, hne, hok, hM.step (hk b hok)⟩
theorem RMem.same {w w' : World} {base r : Nat} {ok : Nat → Prop} {S : TS} (h : RMem w base ok r S) (hk : ∀ k, ok k → w'.heap[k]? = w.heap[k]?) (hs : w.heap.size ≤ w'.heap.size) : RMem w' base ok r S := by
  obtain ⟨vF, vC, hb, hF, hC⟩ := h.blk
  exact ⟨⟨vF, vC, (hk r h.own).trans hb, Kd.R_step hF (fun k ho _ => hk k ho), Kd.R_step hC (fun k ho _ => hk k ho)⟩, h.own, fun k hk => ⟨(h.bound k hk).1, Nat.lt_of_lt_of_le (h.bound k hk).2 hs⟩⟩
/-- two pairs of trees, apart -/
structure Four (w : World) (b0 p r : Nat) (S : TS) (p2 r2 : Nat) (S2 : TS) : Prop where
  t : ∃ ok ok2 ok3 ok4, TMem w b0 ok p S ∧ RMem w b0 ok2 r S ∧ TMem w b0 ok3 p2 S2 ∧ RMem w b0 ok4 r2 S2 ∧ (∀ k, ok k → ¬ ok2 k) ∧ (∀ k, ok3 k → ¬ ok4 k) ∧ ∀ k, ok3 k ∨ ok4 k → ¬ ok k ∧ ¬ ok2 k
section
variable {w w' : World} {b0 p r p2 r2 : Nat} {S S2 : TS}
theorem Four.swap (h : Four w b0 p r S p2 r2 S2) : Four w b0 p2 r2 S2 p r S := by
  obtain ⟨ok, ok2, ok3, ok4, h1, h2, h3, h4, h5, h6, h7⟩ := h.t
  exact ⟨ok3, ok4, ok, ok2, h3, h4, h1, h2, h6, h5, fun k hk => ⟨fun h8 => by rcases hk with hk | hk; exact (h7 k (.inl h8)).1 hk; exact (h7 k (.inl h8)).2 hk, fun h8 => by rcases hk with hk | hk; exact (h7 k (.inr h8)).1 hk; exact (h7 k (.inr h8)).2 hk⟩⟩
theorem Four.below (h : Four w b0 p r S p2 r2 S2) (hb : Below w.heap.size w w') : Four w' b0 p r S p2 r2 S2 := by
  obtain ⟨ok, ok2, ok3, ok4, h1, h2, h3, h4, h5⟩ := h.t
  exact ⟨ok, ok2, ok3, ok4, h1.below hb, h2.below hb, h3.below hb, h4.below hb, h5⟩
theorem Four.good (h : Four w b0 p r S p2 r2 S2) : TOk S ∧ b0 ≤ w.heap.size := by
  obtain ⟨ok, ok2, ok3, ok4, h1, _⟩ := h.t
  exact ⟨h1.good, by have := h1.bound p h1.own; omega⟩
theorem Four.like (h : Four w b0 p r S p2 r2 S2) : Calls Try.prog 23 #[.pointer (some ⟨p, 0, none⟩), .pointer (some ⟨r, 0, none⟩)] w fun e w' => e = .returned (.bool true) ∧ Below w.heap.size w w' := by
  obtain ⟨ok, ok2, ok3, ok4, h1, h2, h3, h4, h5, h6, h7⟩ := h.t
  exact like_calls (fr := fun _ => False) (w0 := w) ⟨ok, ok2, h1, h2, h5, fun k hk => hk.elim⟩
theorem Four.does (h : Four w b0 p r S p2 r2 S2) (hc : S.cs.length < 1000000) (kd : Int) (a s : ByteArray) (n : Int) (ha : a.size ≤ maxLen) :
    Calls Try.prog 24 #[.pointer (some ⟨p, 0, none⟩), .pointer (some ⟨r, 0, none⟩), .agg #[.int .i64 kd, .string a, .string s, .int .i64 n]] w fun e w' => e = .returned (.bool true) ∧ Four w' b0 p r (stepT S kd a s) p2 r2 S2 ∧ Below b0 w w' := by
  have hg := h.good
  obtain ⟨ok, ok2, ok3, ok4, h1, h2, h3, h4, h5, h6, h7⟩ := h.t
  have two : Two (fun k => ok3 k ∨ ok4 k) w w b0 p r S := ⟨ok, ok2, h1, h2, h5, fun k hk => ⟨(h7 k hk).1, (h7 k hk).2, by rcases hk with hk | hk; exact (h3.bound k hk).2; exact (h4.bound k hk).2, rfl⟩⟩
  refine (does_calls two hg.1 hg.2 hc kd a s n ha).mono ?_
  rintro e w' ⟨he, ht, hb⟩
  obtain ⟨ok', ok2', g1, g2, g3, g4⟩ := ht.t
  exact ⟨he, ⟨ok', ok2', ok3, ok4, g1, g2, h3.same (fun k hk => (g4 k (.inl hk)).2.2.2) hb.size, h4.same (fun k hk => (g4 k (.inr hk)).2.2.2) hb.size, g3, h6, fun k hk => ⟨(g4 k hk).1, (g4 k hk).2.1⟩⟩, hb⟩
end
set_option maxRecDepth 100000 in
set_option maxHeartbeats 16000000 in
theorem copies_walk (l : List S28) (A : Option Addr) (c : Nat) (l1 : List S28) (A1 : Option Addr) (c1 : Nat) (l2 : List S28) (A2 : Option Addr) (c2 : Nat) (w : World)
    (hC : Kd.C k28 w A l.length l) (hc : l.length ≤ c) (hl : l.length ≤ 10000000000000) (hb : ∀ o ∈ l, o.f1.size ≤ 1000000000000000 ∧ o.f2.size ≤ 1000000000000000)
    (hC1 : Kd.C k28 w A1 l1.length l1) (hc1 : l1.length ≤ c1) (hl1 : l1.length ≤ 10000000000000) (hb1 : ∀ o ∈ l1, o.f1.size ≤ 1000000000000000 ∧ o.f2.size ≤ 1000000000000000)
    (hC2 : Kd.C k28 w A2 l2.length l2) (hc2 : l2.length ≤ c2) (hl2 : l2.length ≤ 10000000000000) (hb2 : ∀ o ∈ l2, o.f1.size ≤ 1000000000000000 ∧ o.f2.size ≤ 1000000000000000) :
    Calls Try.prog 9 #[.slice A l.length c, .slice A1 l1.length c1, .slice A2 l2.length c2] w fun e w' => e = .returned (.bool true) ∧ Below w.heap.size w w' := by
  obtain ⟨b, hev, hfin⟩ := long_ev l hl hb
  obtain ⟨k, hk⟩ := ev_some hev
  obtain ⟨b1, hev1, hfin1⟩ := long_ev l1 hl1 hb1
  obtain ⟨k1, hk1⟩ := ev_some hev1
  obtain ⟨b2, hev2, hfin2⟩ := long_ev l2 hl2 hb2
  obtain ⟨k2, hk2⟩ := ev_some hev2
  have HC := Aside0.mk (And.intro hC (And.intro hC1 hC2))
  have HF := Aside0.mk (And.intro hfin (And.intro hfin1 hfin2))
  have HL := Aside0.mk (fun (W : World) (hB : Below w.heap.size w W) => And.intro (brickyardlaw10_long.calls k A c l b W (Kd.C_below hC hB) hc hk) (And.intro (brickyardlaw10_long.calls k1 A1 c1 l1 b1 W (Kd.C_below hC1 hB) hc1 hk1) (brickyardlaw10_long.calls k2 A2 c2 l2 b2 W (Kd.C_below hC2 hB) hc2 hk2)))
  clear hev hfin hC hb hk hev1 hfin1 hC1 hb1 hk1 hev2 hfin2 hC2 hb2 hk2
  go_enter Try.func9, Try.ntmps9
  go_wp2_with fail
  refine (works_calls w).mono ?_
  rintro e w1 ⟨rfl, hB1⟩
  have H1 := Aside0.mk hB1
  clear hB1
  go_wp2_with fail
  refine (HL.out _ H1.out).1.mono ?_
  rintro e w2 ⟨rfl, ⟨n2, rfl⟩⟩
  have H2 := Aside0.mk (H1.out.trans ((pw_below_drewN (Below.refl _ w1) n2).mono H1.out.size))
  generalize w1.drewN n2 = w2 at *
  cases b with
  | true =>
    go_wp2_with fail
    go_ret
    exact ⟨rfl, H2.out⟩
  | false =>
  go_wp2_with fail
  refine (HL.out _ H2.out).2.1.mono ?_
  rintro e w3 ⟨rfl, ⟨n3, rfl⟩⟩
  have H3 := Aside0.mk (H2.out.trans ((pw_below_drewN (Below.refl _ w2) n3).mono H2.out.size))
  generalize w2.drewN n3 = w3 at *
  cases b1 with
  | true =>
    go_wp2_with fail
    go_ret
    exact ⟨rfl, H3.out⟩
  | false =>
  go_wp2_with fail
  refine (HL.out _ H3.out).2.2.mono ?_
  rintro e w4 ⟨rfl, ⟨n4, rfl⟩⟩
  have H4 := Aside0.mk (H3.out.trans ((pw_below_drewN (Below.refl _ w3) n4).mono H3.out.size))
  generalize w3.drewN n4 = w4 at *
  cases b2 with
  | true =>
    go_wp2_with fail
    go_ret
    exact ⟨rfl, H4.out⟩
  | false =>
  by_cases c600 : l.length + l1.length + l2.length ≤ 600
  case neg =>
    have k1 : decide ((600 : Int) < (l.length : Int) + (l1.length : Int) + (l2.length : Int)) = true := decide_eq_true (by omega)
    go_wp2_with fail
    go_ret
    exact ⟨rfl, H4.out⟩
  have k1 : decide ((600 : Int) < (l.length : Int) + (l1.length : Int) + (l2.length : Int)) = false := decide_eq_false (by omega)
  have hs0 := (HF.out.1 (by first | trivial | rfl)).2
  have hs1 := (HF.out.2.1 (by first | trivial | rfl)).2
  have hs2 := (HF.out.2.2 (by first | trivial | rfl)).2
  have HS := Aside0.mk (And.intro hs0 (And.intro hs1 hs2))
  clear hs0 hs1 hs2 HF HL
  go_wp2_with fail
  refine (tnew_calls w4).mono ?_
  rintro e w5 ⟨rfl, hM5, hB5⟩
  have H5 := Aside0.mk (And.intro hM5 (And.intro hB5 (H4.out.trans (hB5.mono H4.out.size))))
  clear hM5 hB5 k1
  go_wp2_with fail
  have hbn := (Below.refl w5.heap.size w5).alloc (Nat.le_refl _) (.cells #[.slice none 0 0, .slice none 0 0] 54)
  have two : Two (fun _ => False) w5 (w5.alloc (.cells #[.slice none 0 0, .slice none 0 0] 54)) w4.heap.size (w4.heap.size + 1) w5.heap.size ⟨[], []⟩ :=
    two_new ⟨_, H5.out.1.below hbn, fun k hk => (H5.out.1.bound k hk).2⟩ (World.alloc_heap_new w5 _) H5.out.2.1.size
  have H6 := Aside0.mk (And.intro two (And.intro (H5.out.2.2.trans (hbn.mono H5.out.2.2.size)) (Nat.le_trans H5.out.2.1.size hbn.size)))
  clear two hbn
  go_loopg [9] (l.length + 1) (fun n v9 wr => ∃ (i : Nat) (S : TS), v9 = .int .i64 (i : Int) ∧ Aside0 (i + n = l.length + 1 ∧ i ≤ l.length) ∧ Aside0 (Two (fun _ => False) w5 wr w4.heap.size (w4.heap.size + 1) w5.heap.size S ∧ TOk S ∧ S.cs.length ≤ i) ∧ Aside0 (Below w.heap.size w wr ∧ w4.heap.size ≤ wr.heap.size))
  case atStart => exact ⟨0, ⟨[], []⟩, rfl, ⟨by omega, by omega⟩, ⟨H6.out.1, TOk.empty, Nat.le_refl _⟩, ⟨H6.out.2⟩⟩
  case round =>
    obtain ⟨i, S, rfl, ⟨hi, hil⟩, HT, HB0⟩ := hrel
    have HB := Aside0.mk HB0.out.1
    by_cases d0 : i < l.length
    · have k1 : decide ((i : Int) < (l.length : Int)) = true := decide_eq_true (by omega)
      obtain ⟨ada, rfl, x0a, x1a, x2a, x3a⟩ := at_T28 (Kd.C_below HC.out.1 HB.out) (i : Int) (by omega) (by omega)
      have hrd : rd_T28 l (i : Int) = l[i]'d0 := by
        unfold rd_T28
        rw [Int.toNat_natCast, List.getD_eq_getElem?_getD, List.getElem?_eq_getElem d0]
        rfl
      have hsz := HS.out.1 (l[i]'d0) (List.getElem_mem d0)
      rw [hrd, Int.toNat_natCast] at x0a x1a x2a x3a
      obtain ⟨⟨f0a, f1a, f2a, f3a⟩, ho⟩ : ∃ o, l[i]'d0 = o := ⟨_, rfl⟩
      rw [ho] at x0a x1a x2a x3a hsz
      have hma : f1a.size ≤ maxLen := by unfold maxLen; have : f1a.size < 1048576 := hsz.1; omega
      have HMa := Aside0.mk hma
      have i1a : (i : Int) < (l.length : Int) := by omega
      clear hrd hsz ho hma
      have i0 : (0 : Int) ≤ (i : Int) := by omega
      have hds := does_calls HT.out.1 HT.out.2.1 HB0.out.2 (by have := HT.out.2.2; omega) f0a f1a f2a f3a HMa.out
      go_wp2_with fail
      refine hds.mono ?_
      rintro e w7 ⟨rfl, hT7, hB7⟩
      clear hds
      have H7 := Aside0.mk (And.intro hT7 (And.intro (TOk.step HT.out.2.1 f0a f1a f2a) (And.intro (Nat.le_trans (step_len S f0a f1a f2a) (Nat.succ_le_succ HT.out.2.2)) (And.intro (HB0.out.1.trans (hB7.mono H4.out.size)) (Nat.le_trans HB0.out.2 hB7.size)))))
      clear hT7 hB7
      go_wp2_with fail
      go_roundg (gk - 1)
      case measure => omega
      case rel => exact ⟨i + 1, _, by first | rfl | (rw [w64_ (by omega) (by omega)]; rfl) | simp, ⟨by omega, by omega⟩, ⟨H7.out.1, H7.out.2.1, H7.out.2.2.1⟩, ⟨H7.out.2.2.2⟩⟩
    · have k1 : decide ((i : Int) < (l.length : Int)) = false := decide_eq_false (by omega)
      obtain ⟨wo, rfl⟩ : ∃ wo : World, wo = wr := ⟨_, rfl⟩
      obtain ⟨ok, ok2, hM, hR, hap, -⟩ := HT.out.1.t
      have hcp := tcopy_calls hM
      have H7 := Aside0.mk (And.intro hM (And.intro hR hap))
      have hSl : S.cs.length ≤ 600 := by have := HT.out.2.2; omega
      have HSl := Aside0.mk hSl
      clear hM hR hap hSl
      go_wp2_with fail
      refine hcp.mono ?_
      rintro e w7 ⟨p2, ok3, rfl, hM3, hB7⟩
      clear hcp
      have hR7 := H7.out.2.1.below hB7
      have hrc := rcopy_calls hR7 HT.out.2.1.few (by have := HSl.out; omega)
      have H8 := Aside0.mk (And.intro hM3 (And.intro hB7 hR7))
      clear hM3 hB7 hR7
      go_wp2_with fail
      refine hrc.mono ?_
      rintro e w8 ⟨r2, ok4, rfl, hR4, hB8⟩
      clear hrc
      have four : Four w8 w4.heap.size p2 r2 S (w4.heap.size + 1) w5.heap.size S := by
        have hb70 := H8.out.2.1
        have b1 := H7.out.1.bound
        have b2 := H7.out.2.1.bound
        have b3 := H8.out.1.bound
        have b4 := hR4.bound
        have hbase := HB0.out.2
        have hs7 := hb70.size
        refine ⟨ok3, ok4, ok, ok2, ?_, ?_, (H7.out.1.below hb70).below hB8, H8.out.2.2.below hB8, fun k h3 h4 => ?_, H7.out.2.2, fun k hk => ⟨fun h3 => ?_, fun h4 => ?_⟩⟩
        · have hx := H8.out.1.below hB8
          exact ⟨hx.blk, hx.own, fun k hk => ⟨by have := b3 k hk; omega, (hx.bound k hk).2⟩, hx.good, hx.few⟩
        · obtain ⟨vF, vC, g1, g2, g3⟩ := hR4.blk
          exact ⟨⟨vF, vC, g1, Kd.R_lower g2 (by omega), Kd.R_lower g3 (by omega)⟩, hR4.own, fun k hk => ⟨by have := b4 k hk; omega, (b4 k hk).2⟩⟩
        · have := b3 k h3; have := b4 k h4; omega
        · have := b3 k h3
          rcases hk with hk | hk
          · have := b1 k hk; omega
          · have := b2 k hk; omega
        · have := b4 k h4
          rcases hk with hk | hk
          · have := b1 k hk; omega
          · have := b2 k hk; omega
      have hlk := four.like
      have H9 := Aside0.mk (And.intro four ((HB.out.trans (H8.out.2.1.mono HB.out.size)).trans (hB8.mono (Nat.le_trans HB.out.size H8.out.2.1.size))))
      clear four hR4 hB8
      go_wp2_with fail
      refine hlk.mono ?_
      rintro e w9 ⟨rfl, hB9⟩
      clear hlk
      have H10 := Aside0.mk (And.intro (H9.out.1.below hB9) (H9.out.2.trans (hB9.mono H9.out.2.size)))
      clear hB9
      go_wp2_with fail
      go_loopg [12] (l1.length + l2.length + 1) (fun n v12 wr => ∃ (i : Nat) (S S2 : TS), v12 = .int .i64 (i : Int) ∧ Aside0 (i + n = l1.length + l2.length + 1) ∧ Aside0 (Four wr w4.heap.size (w4.heap.size + 1) w5.heap.size S p2 r2 S2 ∧ S.cs.length ≤ 600 + i ∧ S2.cs.length ≤ 600 + i) ∧ Aside0 (Below w.heap.size w wr))
      case atStart => exact ⟨0, S, S, rfl, ⟨by omega⟩, ⟨H10.out.1.swap, by have := HSl.out; omega, by have := HSl.out; omega⟩, ⟨H10.out.2⟩⟩
      case round =>
        clear HB
        obtain ⟨i, S, S2, rfl, ⟨hi⟩, HX, HB⟩ := hrel
        have i0 : (0 : Int) ≤ (i : Int) := by omega
        by_cases d1 : i < l1.length
        · have k3 : decide ((i : Int) < (l1.length : Int)) = true := decide_eq_true (by omega)
          obtain ⟨adb, rfl, x0b, x1b, x2b, x3b⟩ := at_T28 (Kd.C_below HC.out.2.1 HB.out) (i : Int) (by omega) (by omega)
          have hrd : rd_T28 l1 (i : Int) = l1[i]'d1 := by
            unfold rd_T28
            rw [Int.toNat_natCast, List.getD_eq_getElem?_getD, List.getElem?_eq_getElem d1]
            rfl
          have hsz := HS.out.2.1 (l1[i]'d1) (List.getElem_mem d1)
          rw [hrd, Int.toNat_natCast] at x0b x1b x2b x3b
          obtain ⟨⟨f0b, f1b, f2b, f3b⟩, ho⟩ : ∃ o, l1[i]'d1 = o := ⟨_, rfl⟩
          rw [ho] at x0b x1b x2b x3b hsz
          have hmb : f1b.size ≤ maxLen := by unfold maxLen; have : f1b.size < 1048576 := hsz.1; omega
          have HMb := Aside0.mk hmb
          have i1b : (i : Int) < (l1.length : Int) := by omega
          clear hrd hsz ho hmb
          have hds := HX.out.1.does (by have := HX.out.2.1; omega) f0b f1b f2b f3b HMb.out
          by_cases d2 : i < l2.length
          · have k4 : decide ((i : Int) < (l2.length : Int)) = true := decide_eq_true (by omega)
            go_wp2_with fail
            refine hds.mono ?_
            rintro e w11 ⟨rfl, hF, hBF⟩
            clear hds
            have H11 := Aside0.mk (And.intro hF (And.intro (HB.out.trans (hBF.mono H4.out.size)) (Nat.le_trans (step_len S f0b f1b f2b) (Nat.succ_le_succ HX.out.2.1))))
            clear hF hBF HB
            have HB := Aside0.mk H11.out.2.1
            obtain ⟨add, rfl, x0d, x1d, x2d, x3d⟩ := at_T28 (Kd.C_below HC.out.2.2 HB.out) (i : Int) (by omega) (by omega)
            have hrd : rd_T28 l2 (i : Int) = l2[i]'d2 := by
              unfold rd_T28
              rw [Int.toNat_natCast, List.getD_eq_getElem?_getD, List.getElem?_eq_getElem d2]
              rfl
            have hsz := HS.out.2.2 (l2[i]'d2) (List.getElem_mem d2)
            rw [hrd, Int.toNat_natCast] at x0d x1d x2d x3d
            obtain ⟨⟨f0d, f1d, f2d, f3d⟩, ho⟩ : ∃ o, l2[i]'d2 = o := ⟨_, rfl⟩
            rw [ho] at x0d x1d x2d x3d hsz
            have hmd : f1d.size ≤ maxLen := by unfold maxLen; have : f1d.size < 1048576 := hsz.1; omega
            have HMd := Aside0.mk hmd
            have i1d : (i : Int) < (l2.length : Int) := by omega
            clear hrd hsz ho hmd
            have hds := H11.out.1.swap.does (by have := HX.out.2.2; omega) f0d f1d f2d f3d HMd.out
            go_wp2_with fail
            refine hds.mono ?_
            rintro e w12 ⟨rfl, hF, hBF⟩
            clear hds
            have H12 := Aside0.mk (And.intro hF (And.intro (HB.out.trans (hBF.mono H4.out.size)) (Nat.le_trans (step_len S2 f0d f1d f2d) (Nat.succ_le_succ HX.out.2.2))))
            clear hF hBF
            go_wp2_with fail
            go_roundg (gk - 1)
            case measure => omega
            case rel => exact ⟨i + 1, _, _, by first | rfl | (rw [w64_ (by omega) (by omega)]; rfl) | simp, ⟨by omega⟩, ⟨H12.out.1.swap, by have := H11.out.2.2; omega, by have := H12.out.2.2; omega⟩, ⟨H12.out.2.1⟩⟩
          · have k4 : decide ((i : Int) < (l2.length : Int)) = false := decide_eq_false (by omega)
            go_wp2_with fail
            refine hds.mono ?_
            rintro e w11 ⟨rfl, hF, hBF⟩
            clear hds
            have H11 := Aside0.mk (And.intro hF (And.intro (HB.out.trans (hBF.mono H4.out.size)) (Nat.le_trans (step_len S f0b f1b f2b) (Nat.succ_le_succ HX.out.2.1))))
            clear hF hBF
            go_wp2_with fail
            go_roundg (gk - 1)
            case measure => omega
            case rel => exact ⟨i + 1, _, _, by first | rfl | (rw [w64_ (by omega) (by omega)]; rfl) | simp, ⟨by omega⟩, ⟨H11.out.1, by have := H11.out.2.2; omega, by have := HX.out.2.2; omega⟩, ⟨H11.out.2.1⟩⟩
        · have k3 : decide ((i : Int) < (l1.length : Int)) = false := decide_eq_false (by omega)
          by_cases d2 : i < l2.length
          · have k4 : decide ((i : Int) < (l2.length : Int)) = true := decide_eq_true (by omega)
            obtain ⟨add, rfl, x0d, x1d, x2d, x3d⟩ := at_T28 (Kd.C_below HC.out.2.2 HB.out) (i : Int) (by omega) (by omega)
            have hrd : rd_T28 l2 (i : Int) = l2[i]'d2 := by
              unfold rd_T28
              rw [Int.toNat_natCast, List.getD_eq_getElem?_getD, List.getElem?_eq_getElem d2]
              rfl
            have hsz := HS.out.2.2 (l2[i]'d2) (List.getElem_mem d2)
            rw [hrd, Int.toNat_natCast] at x0d x1d x2d x3d
            obtain ⟨⟨f0d, f1d, f2d, f3d⟩, ho⟩ : ∃ o, l2[i]'d2 = o := ⟨_, rfl⟩
            rw [ho] at x0d x1d x2d x3d hsz
            have hmd : f1d.size ≤ maxLen := by unfold maxLen; have : f1d.size < 1048576 := hsz.1; omega
            have HMd := Aside0.mk hmd
            have i1d : (i : Int) < (l2.length : Int) := by omega
            clear hrd hsz ho hmd
            have hds := HX.out.1.swap.does (by have := HX.out.2.2; omega) f0d f1d f2d f3d HMd.out
            go_wp2_with fail
            refine hds.mono ?_
            rintro e w12 ⟨rfl, hF, hBF⟩
            clear hds
            have H12 := Aside0.mk (And.intro hF (And.intro (HB.out.trans (hBF.mono H4.out.size)) (Nat.le_trans (step_len S2 f0d f1d f2d) (Nat.succ_le_succ HX.out.2.2))))
            clear hF hBF
            go_wp2_with fail
            go_roundg (gk - 1)
            case measure => omega
            case rel => exact ⟨i + 1, _, _, by first | rfl | (rw [w64_ (by omega) (by omega)]; rfl) | simp, ⟨by omega⟩, ⟨H12.out.1.swap, by have := HX.out.2.1; omega, by have := H12.out.2.2; omega⟩, ⟨H12.out.2.1⟩⟩
          · have k4 : decide ((i : Int) < (l2.length : Int)) = false := decide_eq_false (by omega)
            have hlk := HX.out.1.like
            go_wp2_with fail
            refine hlk.mono ?_
            rintro e w11 ⟨rfl, hB11⟩
            clear hlk
            have hlk := (HX.out.1.below hB11).swap.like
            have H11 := Aside0.mk (HB.out.trans (hB11.mono HB.out.size))
            clear hB11
            go_wp2_with fail
            refine hlk.mono ?_
            rintro e w12 ⟨rfl, hB12⟩
            clear hlk
            have H12 := Aside0.mk (H11.out.trans (hB12.mono H11.out.size))
            clear hB12
            go_wp2_with fail
            go_ret
            exact ⟨rfl, H12.out⟩
end Go.Proofs.Ytkldaghhfnpcjaa.P
