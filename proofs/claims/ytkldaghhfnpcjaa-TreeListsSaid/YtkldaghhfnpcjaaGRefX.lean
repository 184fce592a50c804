/- Folded: GRef, GRefR, GRefW, GRefX. -/
import Derived.Test.YtkldaghhfnpcjaaGListed
import Derived.Test.YtkldaghhfnpcjaaPxf48
import Derived.RangeFuncBox
/- The document's tree: what lies in memory; At, Read. -/
namespace Go.Proofs.Ytkldaghhfnpcjaa.P
open Go.RowKit Go.Maps Go.Proofs.YtkldaghhfnpcjaaW.PrintWords Go.Proofs.YtkldaghhfnpcjaaW.PrintLast Go.Proofs.YtkldaghhfnpcjaaW.PrintMore Go.Proofs.Ytkldaghhfnpcjaa.Pl
set_option linter.unusedVariables false
set_option linter.unusedSimpArgs false
def toF (l : Fs) : List S73 := l.map (fun x => ⟨x.1, x.2⟩)
theorem toF_len (l : Fs) : (toF l).length = l.length := by simp [toF]
structure RMem (w : World) (base : Nat) (ok : Nat → Prop) (r : Nat) (S : TS) : Prop where
  blk : ∃ vF vC, w.heap[r]? = some (.cells #[vF, vC] 54 (0, 0)) ∧ Kd.R k73 73 w base ok vF (toF S.fs) ∧ Kd.R Kd.string 9 w base ok vC S.cs
  own : ok r
  bound : ∀ k, ok k → base ≤ k ∧ k < w.heap.size
theorem RMem.keep {w w' : World} {base r : Nat} {ok ok2 : Nat → Prop} {S : TS} (h : RMem w base ok r S) (ht : Turn ok2 w w') (hd : ∀ k, ok k → ¬ ok2 k) : RMem w' base ok r S := by
  obtain ⟨vF, vC, hb, hF, hC⟩ := h.blk
  have hp := h.bound r h.own
  exact ⟨⟨vF, vC, (ht.block r hp.2 (hd r h.own)).trans hb, Kd.R_step hF (fun k hk hlt => ht.block k hlt (hd k hk)), Kd.R_step hC (fun k hk hlt => ht.block k hlt (hd k hk))⟩, h.own, fun k hk => ⟨(h.bound k hk).1, Nat.lt_of_lt_of_le (h.bound k hk).2 ht.size⟩⟩
theorem RMem.below {w w' : World} {base r : Nat} {ok : Nat → Prop} {S : TS} (h : RMem w base ok r S) (hb : Below w.heap.size w w') : RMem w' base ok r S :=
  h.keep (ok2 := fun _ => False) (Turn.of_below hb) (fun _ _ h => h)
def RDid (w : World) (base : Nat) (ok : Nat → Prop) (r : Nat) (S' : TS) (w' : World) : Prop := ∃ ok', RMem w' base ok' r S' ∧ (∀ k, ok' k → ok k ∨ w.heap.size ≤ k) ∧ Turn ok w w'
/-- the row that is read at i -/
theorem rd_toF {l : Fs} {i : Int} (h0 : 0 ≤ i) (h1 : i < (l.length : Int)) : ∃ h : i.toNat < l.length, rd_T73 (toF l) i = ⟨(l[i.toNat]'h).1, (l[i.toNat]'h).2⟩ := by
  have h : i.toNat < l.length := by omega
  refine ⟨h, ?_⟩
  unfold rd_T73 toF
  rw [List.getD_eq_getElem?_getD, List.getElem?_map, List.getElem?_eq_getElem h]
  rfl
theorem at_lt {l : Fs} {a : ByteArray} {i : Int} (h0 : 0 ≤ i) (h1 : i < (fat l a : Int)) : Op.bytesLess (rd_T73 (toF l) i).f0.toList a.toList = true := by
  have hle := fat_le l a
  obtain ⟨h, e⟩ := rd_toF (l := l) h0 (by omega)
  rw [e, less_eq, decide_eq_true_iff]
  exact fat_lt i.toNat (by omega) h
theorem at_ge {l : Fs} {a : ByteArray} (h1 : fat l a < l.length) : Op.bytesLess (rd_T73 (toF l) (fat l a : Int)).f0.toList a.toList = false := by
  obtain ⟨h, e⟩ := rd_toF (l := l) (i := (fat l a : Int)) (by omega) (by omega)
  rw [e, less_eq, decide_eq_false_iff_not]
  have := fat_not (p := a) h1
  simpa using this
theorem at_get {l : Fs} (hl : FS l) (a : ByteArray) : fget l a = if fat l a < l.length ∧ (rd_T73 (toF l) (fat l a : Int)).f0 = a then some (rd_T73 (toF l) (fat l a : Int)).f1 else none := by
  rw [fget_fat hl]
  by_cases h1 : fat l a < l.length
  · obtain ⟨h, e⟩ := rd_toF (l := l) (i := (fat l a : Int)) (by omega) (by omega)
    rw [dif_pos h1, e]
    simp only [Int.toNat_natCast]
    by_cases h2 : (l[fat l a]'h1).1 = a
    · rw [if_pos h2, if_pos ⟨h1, h2⟩]
    · rw [if_neg h2, if_neg (fun h => h2 h.2)]
  · rw [dif_neg h1, if_neg (fun h => h1 h.1)]
section
variable {w : World} {base r : Nat} {ok : Nat → Prop} {S : TS}
theorem RMem.cells (h : RMem w base ok r S) : ∃ A c A' c', w.cell? ⟨r, 0, none⟩ = some (.slice A S.fs.length c) ∧ S.fs.length ≤ c ∧ Kd.C k73 w A S.fs.length (toF S.fs) ∧ w.cell? ⟨r, 1, none⟩ = some (.slice A' S.cs.length c') ∧ S.cs.length ≤ c' ∧ Kd.C Kd.string w A' S.cs.length S.cs := by
  obtain ⟨vF, vC, hb, hF, hC⟩ := h.blk
  obtain ⟨A, c, rfl, h1, h2⟩ := Kd.R_reads hF
  obtain ⟨A', c', rfl, h3, h4⟩ := Kd.R_reads hC
  rw [toF_len] at *
  exact ⟨A, c, A', c', by rw [blk_cell hb]; rfl, h1, h2, by rw [blk_cell hb]; rfl, h3, h4⟩
theorem refis_calls (a : ByteArray) (w : World) : Calls Try.prog 48 #[.string a] w fun e w' => e = .returned (.bool (isP a)) ∧ Below w.heap.size w w' := by
  obtain ⟨k, hk⟩ := ev_some (refis_ev a)
  exact brickyardref09_Is.calls k a _ w hk
set_option maxRecDepth 100000 in
set_option maxHeartbeats 2000000 in
theorem rat_calls (h : RMem w base ok r S) (hf : FS S.fs) (hlen : S.fs.length ≤ 256) (a : ByteArray) :
    Calls Try.prog 49 #[.pointer (some ⟨r, 0, none⟩), .string a] w fun e w' => e = .returned (.tuple #[.int .i64 (fat S.fs a), .bool (fget S.fs a).isSome]) ∧ Drawn0 w w' := by
  obtain ⟨A, c, _, _, c0, hc, hC, _⟩ := h.cells
  obtain ⟨l, hl⟩ : ∃ l, S.fs = l := ⟨_, rfl⟩
  rw [hl] at c0 hc hC hf hlen ⊢
  obtain ⟨f, hfa⟩ : ∃ f : Int, f = (fat l a : Int) := ⟨_, rfl⟩
  have hfl : f ≤ (l.length : Int) := by have := fat_le l a; omega
  have hlt : ∀ i : Int, 0 ≤ i → i < f → Op.bytesLess (rd_T73 (toF l) i).f0.toList a.toList = true := fun i h0 h1 => at_lt h0 (by omega)
  have hge : f < (l.length : Int) → Op.bytesLess (rd_T73 (toF l) f).f0.toList a.toList = false := fun h1 => by rw [hfa]; exact at_ge (by omega)
  have hgt : (fget l a).isSome = decide (f < (l.length : Int) ∧ (rd_T73 (toF l) f).f0 = a) := by
    rw [at_get hf, hfa]
    by_cases h1 : fat l a < l.length ∧ (rd_T73 (toF l) (fat l a : Int)).f0 = a
    · rw [if_pos h1, decide_eq_true ⟨by omega, h1.2⟩]; rfl
    · rw [if_neg h1, decide_eq_false (fun h => h1 ⟨by omega, h.2⟩)]; rfl
  have hf0 : 0 ≤ f := by omega
  rw [← hfa]
  have HG := Aside0.mk hgt
  have HL := Aside0.mk (And.intro hlt hge)
  have hD0 := Drawn0.refl w
  have HCC := Aside0.mk hC
  clear h hl hf hlt hge hgt hfa hC
  go_enter Try.func49, Try.ntmps49
  go_wp2_with fail
  go_loopg [6] (l.length + 1) (fun n v6 wr => ∃ i : Int, v6 = .int .i64 i ∧ Aside0 (0 ≤ i ∧ i ≤ f ∧ i + n = l.length + 1) ∧ wr = w)
  case atStart => exact ⟨0, rfl, ⟨by omega, by omega, by omega⟩, rfl⟩
  case round =>
    obtain ⟨i, rfl, ⟨i0, i1, i2⟩, rfl⟩ := hrel
    by_cases c1 : i < f
    · have k1 : decide (i < (l.length : Int)) = true := decide_eq_true (by omega)
      obtain ⟨ad, rfl, x0, x1⟩ := at_T73 HCC.out i i0 (by omega)
      have hb := HL.out.1 i i0 c1
      have p1 : i < (l.length : Int) := by omega
      have wi : wrap64 (i + 1) = i + 1 := w64_ (by omega) (by omega)
      clear x1
      go_wp2_with fail
      go_roundg (gk - 1)
      case measure => omega
      case rel => exact ⟨i + 1, by first | rfl | rw [wi], ⟨by omega, by omega, by omega⟩, rfl⟩
    · obtain rfl : i = f := by omega
      by_cases c2 : i < (l.length : Int)
      · have k1 : decide (i < (l.length : Int)) = true := decide_eq_true c2
        obtain ⟨ad, rfl, x0, x1⟩ := at_T73 HCC.out i i0 c2
        have hb := HL.out.2 c2
        have HE := Aside0.mk (show (fget l a).isSome = ((rd_T73 (toF l) i).f0.toList == a.toList) from by
          rw [HG.out, Bool.eq_iff_iff, decide_eq_true_iff, beq_iff_eq]
          exact ⟨fun h => by rw [h.2], fun h => ⟨c2, L_inj (by rw [← toList_L, ← toList_L, h])⟩⟩)
        clear x1 c1
        go_wp2_with fail
        go_quiet (fail)
        try go_wp2_with fail
        go_ret2
        exact ⟨by rw [HE.out]; rfl, by repeat (first | exact Drawn0.refl _ | apply Drawn0.step)⟩
      · have k1 : decide (i < (l.length : Int)) = false := decide_eq_false c2
        have HE := Aside0.mk (show (fget l a).isSome = false from by rw [HG.out]; exact decide_eq_false (fun h => c2 h.1))
        clear c1
        go_wp2_with fail
        go_quiet (fail)
        try go_wp2_with fail
        go_ret2
        exact ⟨by rw [HE.out]; rfl, by repeat (first | exact Drawn0.refl _ | apply Drawn0.step)⟩
end
end Go.Proofs.Ytkldaghhfnpcjaa.P
/- The document's tree: Read, List, Since. -/
namespace Go.Proofs.Ytkldaghhfnpcjaa.P
open Go.RowKit Go.Maps Go.Proofs.YtkldaghhfnpcjaaW.PrintWords Go.Proofs.YtkldaghhfnpcjaaW.PrintLast Go.Proofs.YtkldaghhfnpcjaaW.PrintMore Go.Proofs.Ytkldaghhfnpcjaa.Pl
set_option linter.unusedVariables false
set_option linter.unusedSimpArgs false
section
variable {w : World} {base r : Nat} {ok : Nat → Prop} {S : TS}
set_option maxRecDepth 100000 in
set_option maxHeartbeats 2000000 in
theorem rread_calls (h : RMem w base ok r S) (hf : FS S.fs) (hlen : S.fs.length ≤ 256) (a : ByteArray) :
    Calls Try.prog 37 #[.pointer (some ⟨r, 0, none⟩), .string a] w fun e w' => e = .returned (.tuple #[.string (readT S a).1, .int .i64 (readT S a).2]) ∧ Below w.heap.size w w' := by
  go_enter Try.func37, Try.ntmps37
  go_wp2_with fail
  refine (refis_calls a w).mono ?_
  rintro e w1 ⟨rfl, hb1⟩
  have h1 := h.below hb1
  cases hp : isP a with
  | false =>
    have HE := Aside0.mk (show readT S a = (⟨#[]⟩, 2) from by unfold readT; rw [if_neg (by rw [hp]; decide)])
    clear h h1
    go_wp2_with fail
    go_ret2
    exact ⟨by rw [HE.out]; rfl, hb1⟩
  | true =>
    have hat := rat_calls h1 hf hlen a
    have H1 := Aside0.mk (And.intro h1 hb1)
    clear h h1 hb1
    go_wp2_with fail
    refine hat.mono ?_
    rintro e w2 ⟨rfl, ⟨nd, rfl⟩⟩
    clear hat
    have hB := H1.out.2.trans ((pw_below_drewN (Below.refl _ w1) nd).mono H1.out.2.size)
    have h2 := H1.out.1.below (pw_below_drewN (Below.refl _ w1) nd)
    obtain ⟨A, c, _, _, c0, hc, hC, _⟩ := h2.cells
    have hg := at_get hf a
    by_cases hx : fat S.fs a < S.fs.length ∧ (rd_T73 (toF S.fs) (fat S.fs a : Int)).f0 = a
    · rw [if_pos hx] at hg
      have HE := Aside0.mk (show readT S a = ((rd_T73 (toF S.fs) (fat S.fs a : Int)).f1, 0) from by unfold readT; rw [if_pos hp, hg])
      have his : (fget S.fs a).isSome = true := by rw [hg]; rfl
      rw [his]
      obtain ⟨f, hfa⟩ : ∃ f : Int, f = (fat S.fs a : Int) := ⟨_, rfl⟩
      rw [← hfa] at HE ⊢
      obtain ⟨ad, rfl, x0, x1⟩ := at_T73 hC f (by omega) (by omega)
      have p0 : 0 ≤ f := by omega
      have p1 : f < (S.fs.length : Int) := by omega
      have HB := Aside0.mk hB
      clear hg his hx hfa x0 hC h2 hB H1
      go_wp2_with fail
      go_ret2
      exact ⟨by rw [HE.out]; rfl, HB.out⟩
    · rw [if_neg hx] at hg
      have HE := Aside0.mk (show readT S a = (⟨#[]⟩, 4) from by unfold readT; rw [if_pos hp, hg])
      have his : (fget S.fs a).isSome = false := by rw [hg]; rfl
      rw [his]
      have HB := Aside0.mk hB
      clear hg his hx hC h2 c0 hB H1
      go_wp2_with fail
      go_ret2
      exact ⟨by rw [HE.out]; rfl, HB.out⟩
/-- a row of the call's own -/
def Row (w : World) (l : List ByteArray) (e : Ending) (w' : World) : Prop := ∃ v, e = .returned v ∧ Kd.R Kd.string 9 w' w.heap.size (fun _ => True) v l ∧ Below w.heap.size w w'
theorem toF_get {l : Fs} {i : Nat} (h : i < l.length) : rd_T73 (toF l) (i : Int) = ⟨(l[i]'h).1, (l[i]'h).2⟩ := by
  obtain ⟨h', e⟩ := rd_toF (l := l) (i := (i : Int)) (by omega) (by omega)
  rw [e]
  simp
theorem starts_take {p pre : ByteArray} (hs : pre.size ≤ p.size) : ((p.extract 0 pre.size).toList == pre.toList) = startsB p pre := by
  unfold startsB
  rw [toList_L, toList_L, L_extract, List.drop_zero, Nat.sub_zero, size_L pre]
theorem starts_short {p pre : ByteArray} (hs : ¬ pre.size ≤ p.size) : startsB p pre = false := by
  unfold startsB
  rw [beq_eq_false_iff_ne]
  intro e
  have := congrArg List.length e
  rw [List.length_take, ← size_L, ← size_L] at this
  omega
set_option maxRecDepth 100000 in
set_option maxHeartbeats 2000000 in
theorem rlist_calls (h : RMem w base ok r S) (hlen : S.fs.length ≤ 256) (pre : ByteArray) :
    Calls Try.prog 38 #[.pointer (some ⟨r, 0, none⟩), .string pre] w (Row w (listT S pre)) := by
  have hrlt := (h.bound r h.own).2
  obtain ⟨A, c, _, _, c0, hc, hC, _⟩ := h.cells
  obtain ⟨l, hl⟩ : ∃ l, S.fs = l := ⟨_, rfl⟩
  have HLT := Aside0.mk (show listT S pre = (l.map (·.1)).filter (startsB · pre) by rw [← hl]; rfl)
  rw [hl] at c0 hc hC hlen
  have HC := Aside0.mk (And.intro hC (And.intro c0 hrlt))
  have hB0 := Below.refl w.heap.size w
  have hR0 : Kd.R Kd.string 9 w w.heap.size (fun _ => True) (.slice none 0 0) (((l.take 0).map (·.1)).filter (startsB · pre)) := Kd.R_nil _ _ _ _ _
  have hml : l.length ≤ 256 := hlen
  clear h hl hC c0 hrlt
  go_enter Try.func38, Try.ntmps38
  go_wp2_with fail
  go_loopg [5, 6] (l.length + 1) (fun n v5 v6 wr => ∃ k : Nat, v6 = .int .i64 (k : Int) ∧ Aside0 (k + n = l.length + 1) ∧ Aside0 (Below w.heap.size w wr) ∧ Aside0 (Kd.R Kd.string 9 wr w.heap.size (fun _ => True) v5 (((l.take k).map (·.1)).filter (startsB · pre))))
  case atStart => exact ⟨0, rfl, ⟨by omega⟩, ⟨hB0⟩, ⟨hR0⟩⟩
  case round =>
    obtain ⟨k, rfl, ⟨hk⟩, HB, HR⟩ := hrel
    clear hB0 hR0
    have c0 := (HB.out.cell (p := ⟨r, 0, none⟩) HC.out.2.2).trans HC.out.2.1
    have hCw := Kd.C_below HC.out.1 HB.out
    by_cases c1 : k < l.length
    case neg =>
      have k1 : decide ((k : Int) < (l.length : Int)) = false := decide_eq_false (by omega)
      have hR := HR.out
      rw [List.take_of_length_le (by omega)] at hR
      obtain ⟨A5, c5, rfl⟩ := Kd.R_slice hR
      have HE := Aside0.mk (And.intro hR HB.out)
      clear hCw hR
      go_wp2_with fail
      go_ret
      exact ⟨_, rfl, by rw [HLT.out]; exact HE.out.1, HE.out.2⟩
    have k1 : decide ((k : Int) < (l.length : Int)) = true := decide_eq_true (by omega)
    obtain ⟨ad, rfl, x0, x1⟩ := at_T73 hCw (k : Int) (by omega) (by omega)
    rw [toF_get c1, Int.toNat_natCast] at x0
    obtain ⟨q, hq⟩ : ∃ q, (l[k]'c1).1 = q := ⟨_, rfl⟩
    rw [hq] at x0
    have htk : ((l.take (k + 1)).map (·.1)).filter (startsB · pre) = (((l.take k).map (·.1)).filter (startsB · pre)) ++ (if startsB q pre = true then [q] else []) := by
      rw [List.take_succ_eq_append_getElem c1, List.map_append, List.filter_append]
      congr 1
      rw [← hq]
      simp [List.filter_cons]
    have HTK := Aside0.mk htk
    have i0 : (0 : Int) ≤ (k : Int) := by omega
    have i1 : (k : Int) < (l.length : Int) := by omega
    have hwsz := HB.out.size
    have hxl : (((l.take k).map (·.1)).filter (startsB · pre)).length ≤ 256 := Nat.le_trans (List.length_filter_le _ _) (by simp; omega)
    clear x1 htk hq hCw
    obtain ⟨xs, hxs⟩ : ∃ xs, ((l.take k).map (·.1)).filter (startsB · pre) = xs := ⟨_, rfl⟩
    rw [hxs] at HR HTK hxl
    clear hxs
    obtain ⟨A5, c5, rfl⟩ := Kd.R_slice HR.out
    by_cases c2 : pre.size ≤ q.size
    · have k2 : decide ((pre.size : Int) ≤ (q.size : Int)) = true := decide_eq_true (by omega)
      have p3 : (pre.size : Int) ≤ (q.size : Int) := by omega
      have hst := starts_take c2
      cases hsb : startsB q pre with
      | false =>
        rw [hsb] at hst
        rw [hsb, if_neg (by decide), List.append_nil] at HTK
        go_wp2_with fail
        go_roundg (gk - 1)
        case measure => omega
        case rel => exact ⟨k + 1, by first | rfl | (rw [w64_ (by omega) (by omega)]; rfl) | simp, ⟨by omega⟩, HB, ⟨by rw [HTK.out]; exact HR.out⟩⟩
      | true =>
        rw [hsb] at hst
        rw [hsb, if_pos rfl] at HTK
        go_wp2_with (first | (at_builtin; refine txt_push (base := w.heap.size) rfl rfl rfl rfl rfl (Kd.R_mono HR.out (fun _ h => h)) hwsz (by omega) ?_; intro v1 w1 hR1 hg1))
        have hB1 := pw_below_grown HB.out _ hwsz hg1 (fun k hk => ((Kd.R_bound HR.out).1 k hk).2.1)
        have hR1' := Kd.R_mono hR1 (fun _ _ => (trivial : True))
        clear hR1 hg1
        go_wp2_with fail
        go_roundg (gk - 1)
        case measure => omega
        case rel => exact ⟨k + 1, by first | rfl | (rw [w64_ (by omega) (by omega)]; rfl) | simp, ⟨by omega⟩, ⟨hB1⟩, ⟨by rw [HTK.out]; exact hR1'⟩⟩
    · have k2 : decide ((pre.size : Int) ≤ (q.size : Int)) = false := decide_eq_false (by omega)
      rw [starts_short c2, if_neg (by decide), List.append_nil] at HTK
      go_wp2_with fail
      go_roundg (gk - 1)
      case measure => omega
      case rel => exact ⟨k + 1, by first | rfl | (rw [w64_ (by omega) (by omega)]; rfl) | simp, ⟨by omega⟩, HB, ⟨by rw [HTK.out]; exact HR.out⟩⟩
end
end Go.Proofs.Ytkldaghhfnpcjaa.P
/- The document's tree: Write, Remove. -/
namespace Go.Proofs.Ytkldaghhfnpcjaa.P
open Go.RowKit Go.Maps Go.Proofs.YtkldaghhfnpcjaaW.PrintWords Go.Proofs.YtkldaghhfnpcjaaW.PrintLast Go.Proofs.YtkldaghhfnpcjaaW.PrintMore Go.Proofs.Ytkldaghhfnpcjaa.Pl
set_option linter.unusedVariables false
set_option linter.unusedSimpArgs false
theorem info73 : (Try.prog.info? 73).map (fun i => (i.zero, i.size, i.bytes)) = some (some (.agg #[.string ⟨#[]⟩, .string ⟨#[]⟩]), 2, 32) := by kernel_rfl
/-- append(l, r...) of a row of files -/
theorem file_rows {W : World} {base m c : Nat} {A : Option Addr} {v : Value} {xs ys : List S73} {s y : Operand} {ops : Array Oper} {rest : List Oper} {o : Oper} {a : Act} {Q : Exit → Act → World → Prop}
    (hgd : o.guard = none) (ho : o.op = .call { callee := .builtin .append, args := #[s, y], argTypes := #[52, 52] }) (hs : a.eval s = v) (hy : a.eval y = .slice A m c)
    (hR : Kd.R k73 73 W base (fun _ => True) v xs) (hC : Kd.C k73 W A m ys) (hbase : base ≤ W.heap.size) (hl : (xs.length + m) * 32 ≤ 140737488355328)
    (h : ∀ v1 w1, Kd.R k73 73 w1 base (fun _ => True) v1 (xs ++ ys) → W.grownBy w1 v.ownBlock → wpList Try.prog ops Q rest (a.put o.dst v1) w1) : wpList Try.prog ops Q (o :: rest) a W :=
  Kd.R_append_rows (P := Try.prog) k73 (Rr := k73.K W) (w0 := W) (W := W) base hgd s y 52 73 (.agg #[.string ⟨#[]⟩, .string ⟨#[]⟩]) 32 ho Try.underlying52 info73 rfl (by decide) (by omega)
    v xs ys A m c (fun _ => True) (fun _ => False) hs hy hR hC (fun x cs hc => by rw [k73_open hc]; exact k73_mkM W base _ x) (fun _ hk => hk.elim) (fun k hk => trivial) (Below.refl _ _) hbase hl
    (fun v1 w1 h1 hbl hg hat => h v1 w1 h1 hg)
/-- append(l, File{p, s}) -/
theorem file_push {W : World} {n base : Nat} (hn : W.heap.size = n) {s y : Operand} {v : Value} {xs : List S73} {p t : ByteArray} {ops : Array Oper} {rest : List Oper} {o : Oper} {a : Act} {Q : Exit → Act → World → Prop}
    (hgd : o.guard = none) (ho : o.op = .call { callee := .builtin .append, args := #[s, y], argTypes := #[52, 52] }) (hs : a.eval s = v) (hy : a.eval y = .slice (some ⟨n, 0, none⟩) 1 1)
    (hR : Kd.R k73 73 W base (fun _ => True) v xs) (hbase : base ≤ W.heap.size) (hl : (xs.length + 1) * 32 ≤ 140737488355328)
    (h : ∀ v1 w1, Kd.R k73 73 w1 base (fun _ => True) v1 (xs ++ [⟨p, t⟩]) → W.grownBy w1 v.ownBlock → wpList Try.prog ops Q rest (a.put o.dst v1) w1) : wpList Try.prog ops Q (o :: rest) a (W.alloc (.cells #[.string p, .string t] 73)) := by
  subst hn
  exact Kd.R_append k73 (w0 := W) (W := W) base hgd s y 52 73 (.agg #[.string ⟨#[]⟩, .string ⟨#[]⟩]) 32 ho Try.underlying52 info73 rfl (by decide) (by omega) v xs ⟨p, t⟩ [.string p, .string t] (fun _ => True) (fun _ => False) hs hy (k73_mkM W base _ ⟨p, t⟩) (fun _ hk => hk.elim) (fun _ hk => trivial)
    hR (Below.refl _ _) hbase hl (fun v1 w1 h1 _ hg _ => h v1 w1 h1 hg)
def RDone (w : World) (base : Nat) (ok : Nat → Prop) (r : Nat) (R : TS × Int) (e : Ending) (w' : World) : Prop := e = .returned (.int .i64 R.2) ∧ RDid w base ok r R.1 w'
theorem RDid.of_below {w w1 : World} {base r : Nat} {ok : Nat → Prop} {S : TS} (h : RMem w base ok r S) (hb : Below w.heap.size w w1) : RDid w base ok r S w1 := ⟨ok, h.below hb, fun _ h => .inl h, Turn.of_below hb⟩
theorem RDid.behind {w w1 w2 : World} {base r : Nat} {ok : Nat → Prop} {S' : TS} (hb : Below w.heap.size w w1) (h : RDid w1 base ok r S' w2) : RDid w base ok r S' w2 := by
  obtain ⟨ok', h1, h2, h3⟩ := h
  exact ⟨ok', h1, fun k hk => by rcases h2 k hk with h | h; exact .inl h; exact .inr (Nat.le_trans hb.size h), (Turn.of_below hb).trans h3 (fun k hk => .inl hk)⟩
theorem rwrote {w w5 w6 : World} {base r : Nat} {ok : Nat → Prop} {S : TS} {vF vC vF' vC' : Value} {fs' : Fs} {a : ByteArray} (h : RMem w base ok r S) (hb : w.heap[r]? = some (.cells #[vF, vC] 54 (0, 0))) (hC : Kd.R Kd.string 9 w base ok vC S.cs)
    (hb5 : Below w.heap.size w w5) (hF : Kd.R k73 73 w5 w.heap.size (fun _ => True) vF' (toF fs')) (h6 : (w5.setCell ⟨r, 0, none⟩ vF').grownBy w6 vC.ownBlock)
    (hC6 : Kd.R Kd.string 9 w6 base (fun k => ok k ∨ w5.heap.size ≤ k) vC' (S.cs ++ [a])) : RDid w base ok r ⟨fs', S.cs ++ [a]⟩ (w6.setCell ⟨r, 1, none⟩ vC') := by
  have hr := h.bound r h.own
  have hne : some r ≠ vC.ownBlock := Kd.R_ne hC hb (by decide)
  have hCb : ∀ k, vC.ownBlock = some k → ok k ∧ k < w.heap.size := fun k hk => ⟨hC.1 k hk, (h.bound k (hC.1 k hk)).2⟩
  have b5 : w5.heap[r]? = some (.cells #[vF, vC] 54 (0, 0)) := blk_below hb hb5
  have b5' : (w5.setCell ⟨r, 0, none⟩ vF').heap[r]? = some (.cells #[vF', vC] 54 (0, 0)) := by have := blk_set b5 0 vF'; exact this
  have b6 := blk_grown b5' h6 hne
  have b7 : (w6.setCell ⟨r, 1, none⟩ vC').heap[r]? = some (.cells #[vF', vC'] 54 (0, 0)) := by have := blk_set b6 1 vC'; exact this
  have hs6 : w5.heap.size ≤ w6.heap.size := by have := h6.size; simpa using this
  have hs5 := hb5.size
  have ht : Turn ok w (w6.setCell ⟨r, 1, none⟩ vC') := by
    have t1 : Turn ok w (w5.setCell ⟨r, 0, none⟩ vF') := (Turn.of_below hb5).setCell _ _ h.own
    have t2 : Turn ok (w5.setCell ⟨r, 0, none⟩ vF') w6 := Turn.grown h6 (fun k hk => (hCb k hk).1)
    exact (t1.trans t2 (fun k hk => .inl hk)).setCell _ _ h.own
  refine ⟨fun k => ok k ∨ (w.heap.size ≤ k ∧ k < (w6.setCell ⟨r, 1, none⟩ vC').heap.size), ⟨⟨vF', vC', b7, ?_, ?_⟩, .inl h.own, fun k hk => ?_⟩, fun k hk => ?_, ht⟩
  · have hF1 : Kd.R k73 73 (w6.setCell ⟨r, 1, none⟩ vC') w.heap.size (fun k => True ∧ w.heap.size ≤ k ∧ k < w5.heap.size ∧ ∃ q, q ∈ 73 :: k73.E ∧ ∃ cells, w5.heap[k]? = some (.cells cells q (0, 0))) vF' (toF fs') := by
      refine Kd.R_step (Kd.R_bound hF) (fun k hk hlt => ?_)
      refine (Below.heap_setCell _ ⟨r, 1, none⟩ _ k (by show k ≠ r; omega)).trans ((h6.block k (by simpa using hlt) (fun e => ?_)).trans (Below.heap_setCell _ ⟨r, 0, none⟩ _ k (by show k ≠ r; omega)))
      have := hCb k e.symm
      omega
    exact Kd.R_lower (Kd.R_mono (Kd.R_bound hF1) (fun k hk => .inr ⟨hk.2.1, hk.2.2.1⟩)) (by omega)
  · have hC7 := Kd.R_set hC6 b6 (by intro q hq; simp [Kd.string, Kd.scalar] at hq; subst hq; decide) 1 vC'
    exact Kd.R_mono (Kd.R_bound hC7) (fun k hk => by
      rcases hk.1 with h1 | h1
      · exact .inl h1
      · exact .inr ⟨by omega, hk.2.2.1⟩)
  · have h7 := ht.size
    rcases hk with hk | hk
    · have := h.bound k hk; omega
    · omega
  · rcases hk with hk | hk
    · exact .inl hk
    · exact .inr hk.1
theorem toF_put {l : Fs} (hl : FS l) (p s : ByteArray) : toF (fput l p s) = (toF l).take (fat l p) ++ ⟨p, s⟩ :: (toF l).drop (if (fget l p).isSome = true then fat l p + 1 else fat l p) := by
  have hd : (if h : fat l p < l.length then (if (l[fat l p]'h).1 = p then fat l p + 1 else fat l p) else fat l p) = (if (fget l p).isSome = true then fat l p + 1 else fat l p) := by
    rw [fget_fat hl]
    by_cases h1 : fat l p < l.length
    · rw [dif_pos h1, dif_pos h1]
      by_cases h2 : (l[fat l p]'h1).1 = p
      · rw [if_pos h2, if_pos h2]; rfl
      · rw [if_neg h2, if_neg h2]; rfl
    · rw [dif_neg h1, dif_neg h1]; rfl
  rw [fput_fat, hd]
  unfold toF
  rw [List.map_append, List.map_cons, List.map_take, List.map_drop]
theorem toF_del {l : Fs} (hl : FS l) (p : ByteArray) {u : ByteArray} (h : fget l p = some u) : toF (fdel l p) = (toF l).take (fat l p) ++ (toF l).drop (fat l p + 1) := by
  rw [fdel_fat hl p h]
  unfold toF
  rw [List.map_append, List.map_take, List.map_drop]
end Go.Proofs.Ytkldaghhfnpcjaa.P
/- The document's tree: Write, Remove, walked. Written by tools/gen_refx.py. -/
namespace Go.Proofs.Ytkldaghhfnpcjaa.P
open Go.RowKit Go.Maps Go.Proofs.YtkldaghhfnpcjaaW.PrintWords Go.Proofs.YtkldaghhfnpcjaaW.PrintLast Go.Proofs.YtkldaghhfnpcjaaW.PrintMore Go.Proofs.Ytkldaghhfnpcjaa.Pl
set_option linter.unusedVariables false
set_option linter.unusedSimpArgs false
section
variable {w : World} {base r : Nat} {ok : Nat → Prop} {S : TS}
set_option maxRecDepth 100000 in
set_option maxHeartbeats 4000000 in
theorem rwrite_calls (h : RMem w base ok r S) (hf : FS S.fs) (hlen : S.fs.length ≤ 256) (hcs : S.cs.length < 1000000) (a s : ByteArray) :
    Calls Try.prog 35 #[.pointer (some ⟨r, 0, none⟩), .string a, .string s] w (RDone w base ok r (writeT S a s)) := by
  go_enter Try.func35, Try.ntmps35
  go_wp2_with fail
  refine (refis_calls a w).mono ?_
  rintro e w1 ⟨rfl, hb1⟩
  have H0 := Aside0.mk (And.intro h hb1)
  have h1 := h.below hb1
  clear h
  cases hp : isP a with
  | false =>
    have HE := Aside0.mk (show writeT S a s = (S, 2) from by unfold writeT; rw [if_neg (by rw [hp]; decide)])
    clear h1 hb1
    go_wp2_with fail
    go_ret
    exact ⟨by rw [HE.out]; rfl, by rw [HE.out]; exact RDid.of_below H0.out.1 H0.out.2⟩
  | true =>
  by_cases hsz : 4096 < s.size
  · have HE := Aside0.mk (show writeT S a s = (S, 3) from by unfold writeT; rw [if_pos hp, if_pos hsz])
    have cl : decide ((4096 : Int) < (s.size : Int)) = true := decide_eq_true (by omega)
    clear h1 hb1
    go_wp2_with fail
    go_ret
    exact ⟨by rw [HE.out]; rfl, by rw [HE.out]; exact RDid.of_below H0.out.1 H0.out.2⟩
  have cl : decide ((4096 : Int) < (s.size : Int)) = false := decide_eq_false (by omega)
  have hat := rat_calls h1 hf hlen a
  have H1 := Aside0.mk h1
  clear h1 hb1
  go_wp2_with fail
  refine hat.mono ?_
  rintro e wr ⟨rfl, ⟨nd, rfl⟩⟩
  clear hat
  have h2 := H1.out.below (pw_below_drewN (Below.refl _ w1) nd)
  have hB2 := H0.out.2.trans ((pw_below_drewN (Below.refl _ w1) nd).mono H0.out.2.size)
  generalize w1.drewN nd = wr at *
  obtain ⟨vF, vC, hbk, hRF, hRC⟩ := h2.blk
  obtain ⟨A, c, rfl, hc, hC⟩ := Kd.R_reads hRF
  obtain ⟨A', c', rfl, _⟩ := Kd.R_reads hRC
  have HK := Aside0.mk (And.intro hbk hRC)
  have hg := at_get hf a
  have hput := toF_put hf a s
  obtain ⟨l, hl⟩ : ∃ l, S.fs = l := ⟨_, rfl⟩
  obtain ⟨f, hfe⟩ : ∃ f : Int, f = (fat l a : Int) := ⟨_, rfl⟩
  have hfl : f ≤ (l.length : Int) := by have := fat_le l a; omega
  have hf0 : 0 ≤ f := by omega
  have HS := Aside0.mk hl
  have H2 := Aside0.mk (And.intro h2 hB2)
  have hfn : f.toNat = fat l a := by omega
  rw [toF_len] at hc hC hbk HK
  have c0 := blk_cell hbk 0
  have c1 := blk_cell hbk 1
  rw [hl] at c0 hc hC hlen HK
  simp only [hl] at c0 c1 hg hput ⊢
  rw [← hfe] at hg ⊢
  rw [← hfn] at hput
  have hg : fget S.fs a = if f < (l.length : Int) ∧ (rd_T73 (toF l) f).f0 = a then some (rd_T73 (toF l) f).f1 else none := by
    rw [hl, hg]
    by_cases h1 : f < (l.length : Int) ∧ (rd_T73 (toF l) f).f0 = a
    · rw [if_pos h1, if_pos ⟨by omega, h1.2⟩]
    · rw [if_neg h1, if_neg (fun h => h1 ⟨by omega, h.2⟩)]
  have HCC := Aside0.mk hC
  clear hbk hRF hRC h2 hB2 hC hf hfe hfn hl
  by_cases hx : f < (l.length : Int) ∧ (rd_T73 (toF l) f).f0 = a
  · obtain ⟨ad, rfl, _, x1⟩ := at_T73 HCC.out f hf0 hx.1
    have hgx : fget S.fs a = some (rd_T73 (toF l) f).f1 := by rw [hg, if_pos hx]
    have hgl := hgx
    rw [HS.out] at hgl
    rw [hgl]
    have p1 : f < (l.length : Int) := hx.1
    by_cases hus : (rd_T73 (toF l) f).f1 = s
    · have HE := Aside0.mk (show writeT S a s = (S, 0) from by unfold writeT; rw [if_pos hp, if_neg hsz, if_pos (by rw [hgx, hus])])
      have ce : ((rd_T73 (toF l) f).f1.toList == s.toList) = true := by rw [hus]; exact beq_self_eq_true _
      clear hg hgx hgl hx hput hus
      go_wp2_with fail
      go_ret
      exact ⟨by rw [HE.out]; rfl, by rw [HE.out]; exact RDid.behind H2.out.2 (RDid.of_below H2.out.1 (Below.refl _ _))⟩
    · have HE := Aside0.mk (show writeT S a s = (⟨fput S.fs a s, S.cs ++ [a]⟩, 0) from by unfold writeT; rw [if_pos hp, if_neg hsz, if_neg (by rw [hgx]; intro e; exact hus (Option.some.inj e)), if_neg (fun h => by rw [hgx] at h; cases h.1)])
      have ce : ((rd_T73 (toF l) f).f1.toList == s.toList) = false := beq_eq_false_iff_ne.mpr (fun e => hus (L_inj (by rw [← toList_L, ← toList_L, e])))
      rw [hgl] at hput
      have HI := Aside0.mk (hput.trans (by rw [if_pos (by rfl), show f.toNat + 1 = (f + 1).toNat by omega]))
      clear hg hgx hgl hx hput hus
      obtain ⟨i73, hi73, _, s73, _⟩ := info_parts info73
      have hcut1 := cut_to (P := Try.prog) 52 73 .i64 Try.underlying52 hi73 (some ad) l.length c f hf0 hfl hc
      have hcut2 := cut_from (P := Try.prog) 52 73 .i64 Try.underlying52 hi73 2 s73 (some ad) l.length c (f + 1) (by omega) (by omega)
      have hCl : Kd.C k73 wr (some ad) (toF l).length (toF l) := by rw [toF_len]; exact HCC.out
      have hct := Kd.C_take (m := f.toNat) hCl (by rw [toF_len]; omega)
      rw [show ((toF l).take f.toNat).length = f.toNat by rw [List.length_take, toF_len]; omega] at hct
      have hcd := Kd.C_drop (c := c) (m := (f + 1).toNat) hCl (by rw [toF_len]; omega) (by rw [toF_len]; exact hc)
      rw [List.length_drop, toF_len, show k73.sz = 2 from rfl] at hcd
      have hdl : l.length - (f + 1).toNat ≤ 256 := by omega
      generalize (if c = (f + 1).toNat then _ else _) = D at hcut2 hcd
      generalize l.length - (f + 1).toNat = dl at hcut2 hcd hdl
      generalize c - (f + 1).toNat = dc at hcut2
      have HCT := Aside0.mk hct
      have HCD := Aside0.mk hcd
      have hil : f.toNat ≤ 256 := by omega
      have htl : ((toF l).take f.toNat).length ≤ 256 := by rw [List.length_take]; omega
      obtain ⟨t7, ht7⟩ : ∃ t7, (toF l).take f.toNat = t7 := ⟨_, rfl⟩
      rw [ht7] at htl HI
      have wi : wrap64 (f + 1) = f + 1 := w64_ (by omega) (by omega)
      have HQ := Aside0.mk ht7
      clear hct hcd hi73 s73 hCl ht7
      go_wp2_with (first
        | (at_builtin; refine file_rows (base := wr.heap.size) (xs := []) rfl rfl rfl rfl (Kd.R_nil _ _ _ _ _) HCT.out (Nat.le_refl _) (by simp; omega) ?_; intro v1 w3 hR3 hg3; rw [List.nil_append, HQ.out] at hR3; obtain ⟨A7, c7, rfl⟩ := Kd.R_slice hR3; have hb3 := pw_below_grown (Below.refl wr.heap.size wr) _ (Nat.le_refl _) hg3 (fun k hk => by cases hk); have hs3 := hb3.size; have c0_3 := blk_cell (blk_below HK.out.1 hb3) 0; have c1_3 := blk_cell (blk_below HK.out.1 hb3) 1; have H3 := Aside0.mk (And.intro hR3 hb3); clear hg3 hR3 hb3)
        | (at_builtin; refine file_push (base := wr.heap.size) rfl rfl rfl rfl rfl H3.out.1 hs3 (by omega) ?_; intro v2 w4 hR4 hg4; have hb4 := pw_below_grown H3.out.2 _ hs3 hg4 (fun k hk => ((Kd.R_bound H3.out.1).1 k hk).2.1); have hs4 := hb4.size; obtain ⟨t8, ht8⟩ : ∃ t8, t7 ++ [(⟨a, s⟩ : S73)] = t8 := ⟨_, rfl⟩; have htl8 : t8.length ≤ 257 := (by rw [← ht8, List.length_append, List.length_singleton]; omega); rw [ht8] at hR4; obtain ⟨A8, c8, rfl⟩ := Kd.R_slice hR4; have c0_4 := blk_cell (blk_below HK.out.1 hb4) 0; have c1_4 := blk_cell (blk_below HK.out.1 hb4) 1; have H4 := Aside0.mk (And.intro hR4 (And.intro hb4 (And.intro (Kd.C_below HCD.out hb4) ht8))); clear hg4 hR4 hb4 ht8)
        | (at_builtin; refine file_rows (base := wr.heap.size) rfl rfl rfl rfl H4.out.1 H4.out.2.2.1 hs4 (by omega) ?_; intro v3 w5 hR5 hg5; have hb5 := pw_below_grown H4.out.2.1 _ hs4 hg5 (fun k hk => ((Kd.R_bound H4.out.1).1 k hk).2.1); rw [← H4.out.2.2.2, List.append_assoc, List.singleton_append, ← HI.out] at hR5; obtain ⟨t9, ht9⟩ : ∃ t9, toF (fput l a s) = t9 := ⟨_, rfl⟩; rw [ht9] at hR5; obtain ⟨A9, c9, rfl⟩ := Kd.R_slice hR5; have b5 := blk_below HK.out.1 hb5; have c0_5 := blk_cell b5 0; have f0_5 := blk_frozen b5 0; have c1_5 := blk_cell (blk_set b5 0 (.slice A9 t9.length c9)) 1; have hs5 := hb5.size; have H5 := Aside0.mk (And.intro hR5 (And.intro hb5 (And.intro ht9 (And.intro b5 (blk_set b5 0 (.slice A9 t9.length c9)))))); clear hg5 hR5 hb5 ht9 b5)
        | (at_builtin; refine txt_push (base := base) (v := .slice A' S.cs.length c') (by simp) rfl rfl rfl rfl (Kd.R_set (Kd.R_step HK.out.2 (fun k hk hlt => H5.out.2.1.block k hlt)) H5.out.2.2.2.1 (by intro q hq; simp [Kd.string, Kd.scalar] at hq; subst hq; decide) 0 (.slice A9 t9.length c9)) (by have := (H2.out.1.bound r H2.out.1.own); simp; omega) (by omega) ?_; intro v4 w6 hR6 hg6; have hne6 : some r ≠ (Value.slice A' S.cs.length c').ownBlock := Kd.R_ne HK.out.2 HK.out.1 (by decide); have b6 := blk_grown H5.out.2.2.2.2 hg6 hne6; obtain ⟨t10, ht10⟩ : ∃ t10, S.cs ++ [a] = t10 := ⟨_, rfl⟩; rw [ht10] at hR6; obtain ⟨A10, c10, rfl⟩ := Kd.R_slice hR6; have c1_6 := blk_cell b6 1; have f1_6 := blk_frozen b6 1; have H6 := Aside0.mk (And.intro hR6 (And.intro hg6 ht10)); clear hR6 hg6 ht10 b6 hne6))
      go_ret
      refine ⟨by rw [HE.out]; rfl, ?_⟩
      rw [HE.out]
      have h5 : Kd.R k73 73 w5 wr.heap.size (fun _ => True) (.slice A9 t9.length c9) (toF (fput S.fs a s)) := by rw [HS.out, H5.out.2.2.1]; exact H5.out.1
      have h6 : Kd.R Kd.string 9 w6 base (fun k => ok k ∨ w5.heap.size ≤ k) (.slice A10 t10.length c10) (S.cs ++ [a]) := by rw [H6.out.2.2]; exact Kd.R_mono H6.out.1 (fun k hk => hk.imp id (fun h => by simpa using h))
      exact RDid.behind H2.out.2 (rwrote H2.out.1 HK.out.1 HK.out.2 H5.out.2.1 h5 H6.out.2.1 h6)
  · have hgx : fget S.fs a = none := by rw [hg, if_neg hx]
    have hgl := hgx
    rw [HS.out] at hgl
    rw [hgl]
    by_cases hfull : l.length = 256
    · have HE := Aside0.mk (show writeT S a s = (S, 8) from by unfold writeT; rw [if_pos hp, if_neg hsz, if_neg (by rw [hgx]; simp), if_pos ⟨hgx, by rw [HS.out]; exact hfull⟩])
      rw [hfull] at c0
      clear hg hgx hgl hx hput
      go_wp2_with fail
      go_ret
      exact ⟨by rw [HE.out]; rfl, by rw [HE.out]; exact RDid.behind H2.out.2 (RDid.of_below H2.out.1 (Below.refl _ _))⟩
    · have HE := Aside0.mk (show writeT S a s = (⟨fput S.fs a s, S.cs ++ [a]⟩, 0) from by unfold writeT; rw [if_pos hp, if_neg hsz, if_neg (by rw [hgx]; simp), if_neg (fun h => hfull (by rw [← HS.out]; exact h.2))])
      have cf : (((l.length : Nat) : Int) == 256) = false := beq_eq_false_iff_ne.mpr (by omega)
      rw [hgl] at hput
      have HI := Aside0.mk (hput.trans (by rw [if_neg (by simp)]))
      clear hg hgx hgl hx hput hfull
      obtain ⟨i73, hi73, _, s73, _⟩ := info_parts info73
      have hcut1 := cut_to (P := Try.prog) 52 73 .i64 Try.underlying52 hi73 A l.length c f hf0 hfl hc
      have hcut2 := cut_from (P := Try.prog) 52 73 .i64 Try.underlying52 hi73 2 s73 A l.length c (f) (by omega) (by omega)
      have hCl : Kd.C k73 wr A (toF l).length (toF l) := by rw [toF_len]; exact HCC.out
      have hct := Kd.C_take (m := f.toNat) hCl (by rw [toF_len]; omega)
      rw [show ((toF l).take f.toNat).length = f.toNat by rw [List.length_take, toF_len]; omega] at hct
      have hcd := Kd.C_drop (c := c) (m := (f).toNat) hCl (by rw [toF_len]; omega) (by rw [toF_len]; exact hc)
      rw [List.length_drop, toF_len, show k73.sz = 2 from rfl] at hcd
      have hdl : l.length - (f).toNat ≤ 256 := by omega
      generalize (if c = (f).toNat then _ else _) = D at hcut2 hcd
      generalize l.length - (f).toNat = dl at hcut2 hcd hdl
      generalize c - (f).toNat = dc at hcut2
      have HCT := Aside0.mk hct
      have HCD := Aside0.mk hcd
      have hil : f.toNat ≤ 256 := by omega
      have htl : ((toF l).take f.toNat).length ≤ 256 := by rw [List.length_take]; omega
      obtain ⟨t7, ht7⟩ : ∃ t7, (toF l).take f.toNat = t7 := ⟨_, rfl⟩
      rw [ht7] at htl HI
      have wi : wrap64 (f + 1) = f + 1 := w64_ (by omega) (by omega)
      have HQ := Aside0.mk ht7
      clear hct hcd hi73 s73 hCl ht7
      go_wp2_with (first
        | (at_builtin; refine file_rows (base := wr.heap.size) (xs := []) rfl rfl rfl rfl (Kd.R_nil _ _ _ _ _) HCT.out (Nat.le_refl _) (by simp; omega) ?_; intro v1 w3 hR3 hg3; rw [List.nil_append, HQ.out] at hR3; obtain ⟨A7, c7, rfl⟩ := Kd.R_slice hR3; have hb3 := pw_below_grown (Below.refl wr.heap.size wr) _ (Nat.le_refl _) hg3 (fun k hk => by cases hk); have hs3 := hb3.size; have c0_3 := blk_cell (blk_below HK.out.1 hb3) 0; have c1_3 := blk_cell (blk_below HK.out.1 hb3) 1; have H3 := Aside0.mk (And.intro hR3 hb3); clear hg3 hR3 hb3)
        | (at_builtin; refine file_push (base := wr.heap.size) rfl rfl rfl rfl rfl H3.out.1 hs3 (by omega) ?_; intro v2 w4 hR4 hg4; have hb4 := pw_below_grown H3.out.2 _ hs3 hg4 (fun k hk => ((Kd.R_bound H3.out.1).1 k hk).2.1); have hs4 := hb4.size; obtain ⟨t8, ht8⟩ : ∃ t8, t7 ++ [(⟨a, s⟩ : S73)] = t8 := ⟨_, rfl⟩; have htl8 : t8.length ≤ 257 := (by rw [← ht8, List.length_append, List.length_singleton]; omega); rw [ht8] at hR4; obtain ⟨A8, c8, rfl⟩ := Kd.R_slice hR4; have c0_4 := blk_cell (blk_below HK.out.1 hb4) 0; have c1_4 := blk_cell (blk_below HK.out.1 hb4) 1; have H4 := Aside0.mk (And.intro hR4 (And.intro hb4 (And.intro (Kd.C_below HCD.out hb4) ht8))); clear hg4 hR4 hb4 ht8)
        | (at_builtin; refine file_rows (base := wr.heap.size) rfl rfl rfl rfl H4.out.1 H4.out.2.2.1 hs4 (by omega) ?_; intro v3 w5 hR5 hg5; have hb5 := pw_below_grown H4.out.2.1 _ hs4 hg5 (fun k hk => ((Kd.R_bound H4.out.1).1 k hk).2.1); rw [← H4.out.2.2.2, List.append_assoc, List.singleton_append, ← HI.out] at hR5; obtain ⟨t9, ht9⟩ : ∃ t9, toF (fput l a s) = t9 := ⟨_, rfl⟩; rw [ht9] at hR5; obtain ⟨A9, c9, rfl⟩ := Kd.R_slice hR5; have b5 := blk_below HK.out.1 hb5; have c0_5 := blk_cell b5 0; have f0_5 := blk_frozen b5 0; have c1_5 := blk_cell (blk_set b5 0 (.slice A9 t9.length c9)) 1; have hs5 := hb5.size; have H5 := Aside0.mk (And.intro hR5 (And.intro hb5 (And.intro ht9 (And.intro b5 (blk_set b5 0 (.slice A9 t9.length c9)))))); clear hg5 hR5 hb5 ht9 b5)
        | (at_builtin; refine txt_push (base := base) (v := .slice A' S.cs.length c') (by simp) rfl rfl rfl rfl (Kd.R_set (Kd.R_step HK.out.2 (fun k hk hlt => H5.out.2.1.block k hlt)) H5.out.2.2.2.1 (by intro q hq; simp [Kd.string, Kd.scalar] at hq; subst hq; decide) 0 (.slice A9 t9.length c9)) (by have := (H2.out.1.bound r H2.out.1.own); simp; omega) (by omega) ?_; intro v4 w6 hR6 hg6; have hne6 : some r ≠ (Value.slice A' S.cs.length c').ownBlock := Kd.R_ne HK.out.2 HK.out.1 (by decide); have b6 := blk_grown H5.out.2.2.2.2 hg6 hne6; obtain ⟨t10, ht10⟩ : ∃ t10, S.cs ++ [a] = t10 := ⟨_, rfl⟩; rw [ht10] at hR6; obtain ⟨A10, c10, rfl⟩ := Kd.R_slice hR6; have c1_6 := blk_cell b6 1; have f1_6 := blk_frozen b6 1; have H6 := Aside0.mk (And.intro hR6 (And.intro hg6 ht10)); clear hR6 hg6 ht10 b6 hne6))
      go_ret
      refine ⟨by rw [HE.out]; rfl, ?_⟩
      rw [HE.out]
      have h5 : Kd.R k73 73 w5 wr.heap.size (fun _ => True) (.slice A9 t9.length c9) (toF (fput S.fs a s)) := by rw [HS.out, H5.out.2.2.1]; exact H5.out.1
      have h6 : Kd.R Kd.string 9 w6 base (fun k => ok k ∨ w5.heap.size ≤ k) (.slice A10 t10.length c10) (S.cs ++ [a]) := by rw [H6.out.2.2]; exact Kd.R_mono H6.out.1 (fun k hk => hk.imp id (fun h => by simpa using h))
      exact RDid.behind H2.out.2 (rwrote H2.out.1 HK.out.1 HK.out.2 H5.out.2.1 h5 H6.out.2.1 h6)
set_option maxRecDepth 100000 in
set_option maxHeartbeats 4000000 in
theorem rremove_calls (h : RMem w base ok r S) (hf : FS S.fs) (hlen : S.fs.length ≤ 256) (hcs : S.cs.length < 1000000) (a : ByteArray) :
    Calls Try.prog 36 #[.pointer (some ⟨r, 0, none⟩), .string a] w (RDone w base ok r (removeT S a)) := by
  have hrd := rread_calls h hf hlen a
  go_enter Try.func36, Try.ntmps36
  go_wp2_with fail
  refine hrd.mono ?_
  rintro e w1 ⟨rfl, hb1⟩
  have H0 := Aside0.mk (And.intro h hb1)
  have h1 := h.below hb1
  clear h hrd
  by_cases hz : (readT S a).2 = 0
  case neg =>
    have HE := Aside0.mk (show removeT S a = (S, (readT S a).2) from by unfold removeT; rw [if_neg hz])
    have cz : ((readT S a).2 != 0) = true := by rw [bne_iff_ne]; exact hz
    clear h1 hb1 hz
    go_wp2_with fail
    go_ret
    exact ⟨by rw [HE.out]; rfl, by rw [HE.out]; exact RDid.of_below H0.out.1 H0.out.2⟩
  obtain ⟨hp, u, hgu, _⟩ := readT_zero.1 hz
  have HE := Aside0.mk (show removeT S a = (⟨fdel S.fs a, S.cs ++ [a]⟩, 0) from by unfold removeT; rw [if_pos hz])
  have cz : ((readT S a).2 != 0) = false := by rw [hz]; rfl
  obtain ⟨R0, hR0⟩ : ∃ R0, readT S a = R0 := ⟨_, rfl⟩
  rw [hR0] at cz ⊢
  have hat := rat_calls h1 hf hlen a
  have H1 := Aside0.mk h1
  clear h1 hb1 hz hR0
  go_wp2_with fail
  refine hat.mono ?_
  rintro e wr ⟨rfl, ⟨nd, rfl⟩⟩
  clear hat
  have h2 := H1.out.below (pw_below_drewN (Below.refl _ w1) nd)
  have hB2 := H0.out.2.trans ((pw_below_drewN (Below.refl _ w1) nd).mono H0.out.2.size)
  generalize w1.drewN nd = wr at *
  obtain ⟨vF, vC, hbk, hRF, hRC⟩ := h2.blk
  obtain ⟨A, c, rfl, hc, hC⟩ := Kd.R_reads hRF
  obtain ⟨A', c', rfl, _⟩ := Kd.R_reads hRC
  have HK := Aside0.mk (And.intro hbk hRC)
  have hg := at_get hf a
  have hput := toF_del hf a hgu
  obtain ⟨l, hl⟩ : ∃ l, S.fs = l := ⟨_, rfl⟩
  obtain ⟨f, hfe⟩ : ∃ f : Int, f = (fat l a : Int) := ⟨_, rfl⟩
  have hfl : f ≤ (l.length : Int) := by have := fat_le l a; omega
  have hf0 : 0 ≤ f := by omega
  have HS := Aside0.mk hl
  have H2 := Aside0.mk (And.intro h2 hB2)
  have hfn : f.toNat = fat l a := by omega
  rw [toF_len] at hc hC hbk HK
  have c0 := blk_cell hbk 0
  have c1 := blk_cell hbk 1
  rw [hl] at c0 hc hC hlen HK
  simp only [hl] at c0 c1 hg hput ⊢
  rw [← hfe] at hg ⊢
  rw [← hfn] at hput
  have hg : fget S.fs a = if f < (l.length : Int) ∧ (rd_T73 (toF l) f).f0 = a then some (rd_T73 (toF l) f).f1 else none := by
    rw [hl, hg]
    by_cases h1 : f < (l.length : Int) ∧ (rd_T73 (toF l) f).f0 = a
    · rw [if_pos h1, if_pos ⟨by omega, h1.2⟩]
    · rw [if_neg h1, if_neg (fun h => h1 ⟨by omega, h.2⟩)]
  have HCC := Aside0.mk hC
  clear hbk hRF hRC h2 hB2 hC hf hfe hfn hl
  have hx : f < (l.length : Int) ∧ (rd_T73 (toF l) f).f0 = a := by
    by_cases h1 : f < (l.length : Int) ∧ (rd_T73 (toF l) f).f0 = a
    · exact h1
    · rw [hgu, if_neg h1] at hg; cases hg
  have p1 : f < (l.length : Int) := hx.1
  have hgl := hgu
  rw [HS.out] at hgl
  rw [hgl]
  have wi1 : wrap64 (f + 1) = f + 1 := w64_ (by omega) (by omega)
  have HI := Aside0.mk (hput.trans (by rw [show f.toNat + 1 = (f + 1).toNat by omega]))
  clear hg hgl hgu hx hput
  obtain ⟨i73, hi73, _, s73, _⟩ := info_parts info73
  have hcut1 := cut_to (P := Try.prog) 52 73 .i64 Try.underlying52 hi73 A l.length c f hf0 hfl hc
  have hcut2 := cut_from (P := Try.prog) 52 73 .i64 Try.underlying52 hi73 2 s73 A l.length c (f + 1) (by omega) (by omega)
  have hCl : Kd.C k73 wr A (toF l).length (toF l) := by rw [toF_len]; exact HCC.out
  have hct := Kd.C_take (m := f.toNat) hCl (by rw [toF_len]; omega)
  rw [show ((toF l).take f.toNat).length = f.toNat by rw [List.length_take, toF_len]; omega] at hct
  have hcd := Kd.C_drop (c := c) (m := (f + 1).toNat) hCl (by rw [toF_len]; omega) (by rw [toF_len]; exact hc)
  rw [List.length_drop, toF_len, show k73.sz = 2 from rfl] at hcd
  have hdl : l.length - (f + 1).toNat ≤ 256 := by omega
  generalize (if c = (f + 1).toNat then _ else _) = D at hcut2 hcd
  generalize l.length - (f + 1).toNat = dl at hcut2 hcd hdl
  generalize c - (f + 1).toNat = dc at hcut2
  have HCT := Aside0.mk hct
  have HCD := Aside0.mk hcd
  have hil : f.toNat ≤ 256 := by omega
  have htl : ((toF l).take f.toNat).length ≤ 256 := by rw [List.length_take]; omega
  obtain ⟨t7, ht7⟩ : ∃ t7, (toF l).take f.toNat = t7 := ⟨_, rfl⟩
  rw [ht7] at htl HI
  have wi : wrap64 (f + 1) = f + 1 := w64_ (by omega) (by omega)
  have HQ := Aside0.mk ht7
  clear hct hcd hi73 s73 hCl ht7
  go_wp2_with (first
    | (at_builtin; refine file_rows (base := wr.heap.size) (xs := []) rfl rfl rfl rfl (Kd.R_nil _ _ _ _ _) HCT.out (Nat.le_refl _) (by simp; omega) ?_; intro v1 w3 hR3 hg3; rw [List.nil_append, HQ.out] at hR3; obtain ⟨A7, c7, rfl⟩ := Kd.R_slice hR3; have hb3 := pw_below_grown (Below.refl wr.heap.size wr) _ (Nat.le_refl _) hg3 (fun k hk => by cases hk); have hs3 := hb3.size; have c0_3 := blk_cell (blk_below HK.out.1 hb3) 0; have c1_3 := blk_cell (blk_below HK.out.1 hb3) 1; have H3 := Aside0.mk (And.intro hR3 hb3); clear hg3 hR3 hb3)
    | (at_builtin; refine file_rows (base := wr.heap.size) rfl rfl rfl rfl H3.out.1 (Kd.C_below HCD.out H3.out.2) hs3 (by omega) ?_; intro v3 w5 hR5 hg5; have hb5 := pw_below_grown H3.out.2 _ hs3 hg5 (fun k hk => ((Kd.R_bound H3.out.1).1 k hk).2.1); rw [← HI.out] at hR5; obtain ⟨t9, ht9⟩ : ∃ t9, toF (fdel l a) = t9 := ⟨_, rfl⟩; rw [ht9] at hR5; obtain ⟨A9, c9, rfl⟩ := Kd.R_slice hR5; have b5 := blk_below HK.out.1 hb5; have c0_5 := blk_cell b5 0; have f0_5 := blk_frozen b5 0; have c1_5 := blk_cell (blk_set b5 0 (.slice A9 t9.length c9)) 1; have hs5 := hb5.size; have H5 := Aside0.mk (And.intro hR5 (And.intro hb5 (And.intro ht9 (And.intro b5 (blk_set b5 0 (.slice A9 t9.length c9)))))); clear hg5 hR5 hb5 ht9 b5)
    | (at_builtin; refine txt_push (base := base) (v := .slice A' S.cs.length c') (by simp) rfl rfl rfl rfl (Kd.R_set (Kd.R_step HK.out.2 (fun k hk hlt => H5.out.2.1.block k hlt)) H5.out.2.2.2.1 (by intro q hq; simp [Kd.string, Kd.scalar] at hq; subst hq; decide) 0 (.slice A9 t9.length c9)) (by have := (H2.out.1.bound r H2.out.1.own); simp; omega) (by omega) ?_; intro v4 w6 hR6 hg6; have hne6 : some r ≠ (Value.slice A' S.cs.length c').ownBlock := Kd.R_ne HK.out.2 HK.out.1 (by decide); have b6 := blk_grown H5.out.2.2.2.2 hg6 hne6; obtain ⟨t10, ht10⟩ : ∃ t10, S.cs ++ [a] = t10 := ⟨_, rfl⟩; rw [ht10] at hR6; obtain ⟨A10, c10, rfl⟩ := Kd.R_slice hR6; have c1_6 := blk_cell b6 1; have f1_6 := blk_frozen b6 1; have H6 := Aside0.mk (And.intro hR6 (And.intro hg6 ht10)); clear hR6 hg6 ht10 b6 hne6))
  go_ret
  refine ⟨by rw [HE.out]; rfl, ?_⟩
  rw [HE.out]
  have h5 : Kd.R k73 73 w5 wr.heap.size (fun _ => True) (.slice A9 t9.length c9) (toF (fdel S.fs a)) := by rw [HS.out, H5.out.2.2.1]; exact H5.out.1
  have h6 : Kd.R Kd.string 9 w6 base (fun k => ok k ∨ w5.heap.size ≤ k) (.slice A10 t10.length c10) (S.cs ++ [a]) := by rw [H6.out.2.2]; exact Kd.R_mono H6.out.1 (fun k hk => hk.imp id (fun h => by simpa using h))
  exact RDid.behind H2.out.2 (rwrote H2.out.1 HK.out.1 HK.out.2 H5.out.2.1 h5 H6.out.2.1 h6)
end
end Go.Proofs.Ytkldaghhfnpcjaa.P
