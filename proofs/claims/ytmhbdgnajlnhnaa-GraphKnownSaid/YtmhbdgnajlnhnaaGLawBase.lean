/- Folded: PlEqual, GMade, GWorks, GLawBase. -/
import Derived.Test.YtmhbdgnajlnhnaaPlOf
import Derived.Test.YtmhbdgnajlnhnaaPxf27
import Derived.Test.YtmhbdgnajlnhnaaGCycle
import Derived.Lib.SliceRun
/- What the printed helpers of the laws come to: equal lists, a name among names, edges of pairs. -/
namespace Go.Proofs.Ytmhbdgnajlnhnaa.Pl
open Go.RowKit Go.Proofs.YtmhbdgnajlnhnaaW.PrintWords Go.Proofs.Ytmhbdgnajlnhnaa.P
set_option linter.unusedVariables false
set_option linter.unusedSimpArgs false
theorem equal_l0 (l : List ByteArray) (hl : l.length ≤ 1000000000) : ∀ d i : Nat, i + d = l.length → Ev (fun k => slices_Equal_string_string.l0 k l l (l.length : Int) (i : Int)) true := by
  intro d
  induction d with
  | zero =>
    intro i hi
    refine ev_succ ?_
    simp only [slices_Equal_string_string.l0]
    exact ev_ite_neg (by omega) (ev_const rfl)
  | succ d ih =>
    intro i hi
    have hlt : i < l.length := by omega
    refine ev_succ ?_
    simp only [slices_Equal_string_string.l0, w64n (n := i) (by omega)]
    exact ev_ite_pos (by omega) (ev_ite_pos (by omega) (ev_ite_pos (by omega) (ev_ite_pos (by omega) (ev_ite_pos trivial (ih (i + 1) (by omega))))))
theorem equal_ev (l : List ByteArray) (hl : l.length ≤ 1000000000) : Ev (fun k => slices_Equal_string_string.f k l l) true := by
  unfold slices_Equal_string_string.f
  exact ev_ite_pos rfl (equal_l0 l hl l.length 0 (Nat.zero_add _))
theorem equalE_l0 (l : List S45) (hl : l.length ≤ 1000000000) : ∀ d i : Nat, i + d = l.length → Ev (fun k => api_Edge_27.l0 k l l (l.length : Int) (i : Int)) true := by
  intro d
  induction d with
  | zero =>
    intro i hi
    refine ev_succ ?_
    simp only [api_Edge_27.l0]
    exact ev_ite_neg (by omega) (ev_const rfl)
  | succ d ih =>
    intro i hi
    have hlt : i < l.length := by omega
    refine ev_succ ?_
    simp only [api_Edge_27.l0, w64n (n := i) (by omega)]
    exact ev_ite_pos (by omega) (ev_ite_pos (by omega) (ev_ite_pos (by omega) (ev_ite_pos (by omega) (ev_ite_neg (by simp) (ih (i + 1) (by omega))))))
theorem equalE_ev (l : List S45) (hl : l.length ≤ 1000000000) : Ev (fun k => api_Edge_27.f k l l) true := by
  unfold api_Edge_27.f
  exact ev_ite_pos rfl (equalE_l0 l hl l.length 0 (Nat.zero_add _))
/-- edges of pairs -/
def pairsOf : List ByteArray → List S45
  | a :: b :: t => ⟨a, b⟩ :: pairsOf t
  | _ => []
theorem pairs_ev (l : List ByteArray) (hl : l.length ≤ 1000000) : Ev (fun k => brickyardlaw19_edges.f k l) (pairsOf l) := by
  have key : ∀ d i : Nat, l.length ≤ i + d → i ≤ l.length → ∀ acc : List S45, acc.length + (l.length - i) ≤ 1000000 → Ev (fun k => brickyardlaw19_edges.l0 k l acc (i : Int)) (acc ++ pairsOf (l.drop i)) := by
    intro d
    induction d using Nat.strongRecOn with
    | _ d ih =>
      intro i hi hle acc ha
      by_cases h : i + 1 < l.length
      · have hd : l.drop i = l[i] :: l[i + 1] :: l.drop (i + 2) := by
          rw [List.drop_eq_getElem_cons (by omega), List.drop_eq_getElem_cons h]
        have e2 : wrap64 ((i : Int) + 2) = ((i + 2 : Nat) : Int) := by rw [w64_ (by omega) (by omega)]; rfl
        have r1 := get_rd (l := l) (i := i + 1) h
        refine ev_succ ?_
        simp only [brickyardlaw19_edges.l0, w64n (n := i) (by omega), e2, get_rd (l := l) (i := i) (by omega), r1]
        rw [hd, pairsOf]
        refine ev_ite_pos (by omega) (ev_ite_pos (by omega) (ev_ite_pos (by omega) (ev_ite_pos (by omega) (ev_ite_pos (by omega) ?_))))
        have := ih (d - 2) (by omega) (i + 2) (by omega) (by omega) (acc ++ [⟨l[i], l[i + 1]⟩]) (by simp; omega)
        rwa [List.append_assoc] at this
      · refine ev_succ ?_
        simp only [brickyardlaw19_edges.l0, w64n (n := i) (by omega)]
        refine ev_ite_neg (by omega) (ev_const ?_)
        have hl2 : (l.drop i).length ≤ 1 := by rw [List.length_drop]; omega
        have : pairsOf (l.drop i) = [] := by
          match h2 : l.drop i with
          | [] => rfl
          | [_] => rfl
          | _ :: _ :: _ => rw [h2] at hl2; simp at hl2
        rw [this, List.append_nil]
  have := key l.length 0 (by omega) (by omega) [] (by simp; omega)
  rwa [List.drop_zero] at this
theorem long_eq (E : List S45) (l : List ByteArray) : brickyardlaw19_long.f E l = some (decide (E.length > 40 ∨ l.length > 20)) := by
  unfold brickyardlaw19_long.f
  by_cases h : E.length > 40
  · rw [if_pos (by omega), decide_eq_true (.inl h)]
  · rw [if_neg (by omega)]
    congr 1
    rw [Bool.eq_iff_iff, decide_eq_true_eq, decide_eq_true_eq]
    omega
/-! ### the works of the laws: one graph -/
def kA : ByteArray := ⟨#[97]⟩
def kB : ByteArray := ⟨#[98]⟩
def kC : ByteArray := ⟨#[99]⟩
def kD : ByteArray := ⟨#[100]⟩
def E0 : List S45 := [⟨kA, kB⟩, ⟨kA, kC⟩, ⟨kB, kD⟩, ⟨kC, kD⟩]
def G0 : GG := linkAll emptyG E0
theorem G0_ok : GOk G0 := linkAll_ok emptyG_ok E0 (fun e he => by
  have : ∀ e, e ∈ E0 → e.f0.size = 1 ∧ e.f1.size = 1 := by decide
  have := this e he
  unfold maxLen; omega)
theorem G0_ns : G0.ns = [kA, kB, kC, kD] := by decide +kernel
theorem G0_a : G0.out kA = [kB, kC] := by decide +kernel
theorem G0_b : G0.out kB = [kD] := by decide +kernel
theorem G0_c : G0.out kC = [kD] := by decide +kernel
theorem G0_d : G0.out kD = [] := by decide +kernel
theorem G0_order : orderG G0 = ([kD, kB, kC, kA], true) := by decide +kernel
theorem dist_one {G : GG} {a b : ByteArray} (h : b ∈ G.out a) (hne : a ≠ b) : Dist G.out 1 a b :=
  ⟨.succ h (.zero _), fun m hm hs => by
    have : m = 0 := by omega
    subst this
    cases hs
    exact hne rfl⟩
theorem dist_two {G : GG} {a b c : ByteArray} (h : b ∈ G.out a) (h2 : c ∈ G.out b) (hne : a ≠ c) (hn : c ∉ G.out a) : Dist G.out 2 a c :=
  ⟨.succ h (.succ h2 (.zero _)), fun m hm hs => by
    cases hs with
    | zero => exact hne rfl
    | succ h1 h3 =>
      rename_i n' b'
      have : n' = 0 := by omega
      subst this
      cases h3
      exact hn h1⟩
theorem way_two {G : GG} {a b c : ByteArray} {t : List ByteArray} (ha : a ∈ G.ns) (hc : c ∈ G.ns) (h : G.out a = b :: t) (h2 : G.out b = [c]) (hne : a ≠ c) (hbc : b ≠ c) (hn : c ∉ G.out a) : wayG G a c = ([a, b, c], true) := by
  have hb : b ∈ G.out a := by rw [h]; exact List.mem_cons_self
  have hcb : c ∈ G.out b := by rw [h2]; exact List.mem_cons_self
  have s1 : steps G.out (nearG G c) 2 a = b :: steps G.out (nearG G c) 1 b := by rw [steps, h, List.find?_cons_of_pos (nearG_iff.2 (dist_one hcb hbc))]
  have s2 : steps G.out (nearG G c) 1 b = c :: steps G.out (nearG G c) 0 c := by
    show (match (G.out b).find? (nearG G c 0) with | some x => x :: steps G.out (nearG G c) 0 x | none => []) = _
    rw [h2, List.find?_cons_of_pos (nearG_iff.2 (dist_zero.2 rfl))]
  rw [wayG_some ha hc (dist_two hb hcb hne hn), s1, s2, steps]
theorem G0_way : wayG G0 kA kD = ([kA, kB, kD], true) := way_two (by rw [G0_ns]; exact hasB_iff.1 (by decide)) (by rw [G0_ns]; exact hasB_iff.1 (by decide)) G0_a G0_b (by decide) (by decide) (by rw [G0_a]; exact hasB_false.1 (by decide))
end Go.Proofs.Ytmhbdgnajlnhnaa.Pl
/- Copies of lists; the program's graph of edges and names; the works of the laws. -/
namespace Go.Proofs.Ytmhbdgnajlnhnaa.P
open Go.RowKit Go.Maps Go.MapKept Go.ChangeMaps Go.Proofs.YtmhbdgnajlnhnaaW.PrintWords Go.Proofs.YtmhbdgnajlnhnaaW.PrintLast Go.Proofs.YtmhbdgnajlnhnaaW.PrintMore Go.Proofs.Ytmhbdgnajlnhnaa.Pl
set_option linter.unusedVariables false
set_option linter.unusedSimpArgs false
theorem GMem.lower {w : World} {base b' p : Nat} {role : Nat → Role} {G : GG} (h : GMem w base role p G) (hb : b' ≤ base) : GMem w b' role p G := ⟨h.blk, h.self, fun k hk => ⟨Nat.le_trans hb (h.bound k hk).1, (h.bound k hk).2⟩, h.good, h.few⟩
theorem lit_empty9 (w : World) : Kd.R Kd.string 9 (w.alloc (.cells #[] 9)) w.heap.size (fun _ => True) (.slice (some ⟨w.heap.size, 0, none⟩) 0 0) [] :=
  Kd.R_of_own (xs := []) ⟨rfl, .inr ⟨w.heap.size, 0, #[], rfl, Nat.le_refl _, World.alloc_heap_new w _, Nat.le_refl _, by simp [maxLen], by simp, rfl⟩⟩ (fun _ _ => trivial)
set_option maxRecDepth 1000000 in
set_option maxHeartbeats 1000000 in
theorem cloneS_calls {w : World} (A : Option Addr) (c : Nat) (l : List ByteArray) (hC : Kd.C Kd.string w A l.length l) (hl : l.length ≤ 1000000) :
    Calls Try.prog 18 #[.slice A l.length c] w fun e w' => ∃ v, e = .returned v ∧ Kd.R Kd.string 9 w' w.heap.size (fun _ => True) v l ∧ Below w.heap.size w w' := by
  have hnil := fun (W : World) (A : Option Addr) (n c : Nat) => Go.Lib.run_eql_slice_nil (P := Try.prog) W 23 9 A n c 0 0 Try.underlying23
  cases A with
  | none =>
    have hl0 : l = [] := by
      rcases Nat.eq_zero_or_pos l.length with h | h
      · exact List.eq_nil_of_length_eq_zero h
      · obtain ⟨ad, h, _⟩ := hC.2.2 h; cases h
    subst hl0
    clear hC
    go_enter Try.func18, Try.ntmps18
    go_wp2_with fail
    go_ret
    exact ⟨_, rfl, Kd.R_nil _ _ _ _ _, Below.refl _ _⟩
  | some ad =>
    have hb : Below w.heap.size w (w.alloc (.cells #[] 9)) := below_alloc (Below.refl _ w) _
    have hCW := Kd.C_below hC hb
    have hR := lit_empty9 w
    have hle : w.heap.size ≤ (w.alloc (.cells #[] 9)).heap.size := hb.size
    have hl2 : ([] : List ByteArray).length + l.length ≤ 1000000 := by simp; omega
    clear hC
    go_enter Try.func18, Try.ntmps18
    go_wp2_with (first | ((with_reducible refine gate_builtin (b := .append) (xs := #[.tmp 5, .tmp 6]) rfl ?_); at_builtin; refine Kd.R_append_rows Kd.string (Rr := Kd.string.K _) (w0 := w) w.heap.size rfl (.tmp 5) (.tmp 6) 23 9 (.string ⟨#[]⟩) 16 rfl Try.underlying23 info9 rfl (by decide) (by omega) _ [] l (some ad) l.length c (fun _ => True) (fun _ => False) rfl rfl hR hCW (fun _ _ h => h) (fun _ h => h.elim) (fun _ _ => trivial) hb hle (by omega) ?_; intro v1 w2 h2 hb2 hg2 hat; have H2 := Aside0.mk (And.intro h2 hb2); clear h2 hb2 hg2 hat))
    go_ret
    exact ⟨_, rfl, H2.out⟩
set_option maxRecDepth 1000000 in
set_option maxHeartbeats 1000000 in
theorem cloneE_calls {w : World} (A : Option Addr) (c : Nat) (l : List S45) (hC : Kd.C k45 w A l.length l) (hl : l.length ≤ 1000000) :
    Calls Try.prog 42 #[.slice A l.length c] w fun e w' => ∃ v, e = .returned v ∧ Kd.R k45 45 w' w.heap.size (fun _ => True) v l ∧ Below w.heap.size w w' := by
  have hnil := fun (W : World) (A : Option Addr) (n c : Nat) => Go.Lib.run_eql_slice_nil (P := Try.prog) W 22 45 A n c 0 0 Try.underlying22
  cases A with
  | none =>
    have hl0 : l = [] := by
      rcases Nat.eq_zero_or_pos l.length with h | h
      · exact List.eq_nil_of_length_eq_zero h
      · obtain ⟨ad, h, _⟩ := hC.2.2 h; cases h
    subst hl0
    clear hC
    go_enter Try.func42, Try.ntmps42
    go_wp2_with fail
    go_ret
    exact ⟨_, rfl, Kd.R_nil _ _ _ _ _, Below.refl _ _⟩
  | some ad =>
    have hb : Below w.heap.size w (w.alloc (.cells #[] 45)) := below_alloc (Below.refl _ w) _
    have hCW := Kd.C_below hC hb
    have hR : Kd.R k45 45 (w.alloc (.cells #[] 45)) w.heap.size (fun _ => True) (.slice (some ⟨w.heap.size, 0, none⟩) 0 0) [] := by
      have h1 := World.ownsRow_lit (base := w.heap.size) (e := 45) (size := 2) w #[] 0 (Nat.le_refl _) (by simp [maxLen]) (by simp)
      exact ⟨fun k hk => trivial, [], (by simpa using h1 : (w.alloc (.cells #[] 45)).ownsRow w.heap.size 45 2 (.slice (some ⟨w.heap.size, 0, none⟩) 0 0) 0 []), Reps.none _ _⟩
    have hle : w.heap.size ≤ (w.alloc (.cells #[] 45)).heap.size := hb.size
    have hl2 : ([] : List S45).length + l.length ≤ 1000000 := by simp; omega
    have hKM : ∀ W x cs, k45.K W x cs → k45.M W w.heap.size (fun _ => False) x cs := fun W x cs hc => by rw [k45_open hc]; exact k45_mkM W _ _ x
    clear hC
    go_enter Try.func42, Try.ntmps42
    go_wp2_with (first | ((with_reducible refine gate_builtin (b := .append) (xs := #[.tmp 5, .tmp 6]) rfl ?_); at_builtin; refine Kd.R_append_rows k45 (Rr := k45.K _) (w0 := w) w.heap.size rfl (.tmp 5) (.tmp 6) 22 45 (.agg #[.string ⟨#[]⟩, .string ⟨#[]⟩]) 32 rfl Try.underlying22 info45 rfl (by decide) (by omega) _ [] l (some ad) l.length c (fun _ => True) (fun _ => False) rfl rfl hR hCW (hKM _) (fun _ h => h.elim) (fun _ _ => trivial) hb hle (by omega) ?_; intro v1 w2 h2 hb2 hg2 hat; have H2 := Aside0.mk (And.intro h2 hb2); clear h2 hb2 hg2 hat))
    go_ret
    exact ⟨_, rfl, H2.out⟩
theorem equalS_calls {w : World} (A : Option Addr) (c : Nat) (A' : Option Addr) (c' : Nat) (l : List ByteArray) (h : Kd.C Kd.string w A l.length l) (hc : l.length ≤ c) (h' : Kd.C Kd.string w A' l.length l) (hc' : l.length ≤ c') (hl : l.length ≤ 1000000000) :
    Calls Try.prog 16 #[.slice A l.length c, .slice A' l.length c'] w fun e w' => e = .returned (.bool true) ∧ Drawn0 w w' := by
  obtain ⟨k, hk⟩ := ev_some (equal_ev l hl)
  exact slices_Equal_string_string.calls k A c l A' c' l true w h hc h' hc' hk
theorem equalE_calls {w : World} (A : Option Addr) (c : Nat) (A' : Option Addr) (c' : Nat) (l : List S45) (h : Kd.C k45 w A l.length l) (hc : l.length ≤ c) (h' : Kd.C k45 w A' l.length l) (hc' : l.length ≤ c') (hl : l.length ≤ 1000000000) :
    Calls Try.prog 27 #[.slice A l.length c, .slice A' l.length c'] w fun e w' => e = .returned (.bool true) ∧ Drawn0 w w' := by
  obtain ⟨k, hk⟩ := ev_some (equalE_ev l hl)
  exact api_Edge_27.calls k A c l A' c' l true w h hc h' hc' hk
set_option maxRecDepth 1000000 in
set_option maxHeartbeats 1000000 in
theorem made_calls {w : World} (A0 : Option Addr) (c0 : Nat) (E : List S45) (A1 : Option Addr) (c1 : Nat) (names : List ByteArray) (h0 : Kd.C k45 w A0 E.length E) (h1 : Kd.C Kd.string w A1 names.length names) (hE : ∀ e, e ∈ E → e.f0.size ≤ maxLen ∧ e.f1.size ≤ maxLen) (hn : ∀ s, s ∈ names → s.size ≤ maxLen) (s0 : E.length ≤ 1000) (s1 : names.length ≤ 1000) :
    Calls Try.prog 12 #[.slice A0 E.length c0, .slice A1 names.length c1] w fun e w' => ∃ q, e = .returned (.pointer (some ⟨q, 0, none⟩)) ∧ NewDid w q (madeG E names) w' := by
  have hcl := cloneE_calls A0 c0 E h0 (by omega)
  have H1 := Aside0.mk h1
  clear h0 h1
  go_enter Try.func12, Try.ntmps12
  go_wp2_with fail
  refine hcl.mono ?_
  rintro e w1 ⟨v1, rfl, hR1, hB1⟩
  clear hcl
  obtain ⟨B1, d1, rfl, hd1, hC1⟩ := Kd.R_reads hR1
  have hnew := new_calls (w := w1) B1 d1 E hC1 hE (by omega)
  have HB1 := Aside0.mk hB1
  clear hR1 hC1 hB1
  go_wp2_with fail
  refine hnew.mono ?_
  rintro e w2 ⟨q, rfl, r2, hM2, hB2⟩
  clear hnew
  have hB12 := HB1.out.trans (hB2.mono HB1.out.size)
  have hcl := cloneS_calls A1 c1 names (Kd.C_below H1.out hB12) (by omega)
  have HM2 := Aside0.mk (And.intro hM2 hB12)
  clear hM2 hB2 hB12
  go_wp2_with fail
  refine hcl.mono ?_
  rintro e w3 ⟨v3, rfl, hR3, hB3⟩
  clear hcl
  obtain ⟨B3, d3, rfl, hd3, hC3⟩ := Kd.R_reads hR3
  have hns : (linkAll emptyG E).ns.length ≤ 2 * E.length := by have := linkAll_len emptyG E; have h : emptyG.ns.length = 0 := rfl; omega
  have hadd := add_calls (HM2.out.1.below hB3) B3 d3 names (Kd.C_kept_own (S := fun k => r2 k ≠ .none) (Kd.R_bound hR3) (fun k hk hr => by have := hk.2.1; have := (HM2.out.1.bound k hr).2; omega)) hn (by omega)
  have HM3 := Aside0.mk (And.intro (HM2.out.1.below hB3) (HM2.out.2.trans (hB3.mono HM2.out.2.size)))
  clear hR3 hC3 hd3 hB3
  go_wp2_with fail
  refine hadd.mono ?_
  rintro e w4 ⟨rfl, hD4⟩
  clear hadd
  have HX : Aside0 (NewDid w q (madeG E names) w4) := ⟨by
    obtain ⟨r4, a, b, c⟩ := hD4
    exact ⟨r4, a.lower HB1.out.size, HM3.out.2.trans (c.below (fun k hk => Nat.le_trans HB1.out.size (HM3.out.1.bound k hk).1) HM3.out.2.size)⟩⟩
  clear hD4
  go_wp2_with fail
  go_ret
  exact ⟨q, rfl, HX.out⟩
end Go.Proofs.Ytmhbdgnajlnhnaa.P
/- The works of the laws of chapter 19. -/
namespace Go.Proofs.Ytmhbdgnajlnhnaa.P
open Go.RowKit Go.Maps Go.MapKept Go.ChangeMaps Go.Proofs.YtmhbdgnajlnhnaaW.PrintWords Go.Proofs.YtmhbdgnajlnhnaaW.PrintLast Go.Proofs.YtmhbdgnajlnhnaaW.PrintMore Go.Proofs.Ytmhbdgnajlnhnaa.Pl
set_option linter.unusedVariables false
set_option linter.unusedSimpArgs false
theorem lit_C (w : World) (l : List ByteArray) (hl : l.length ≤ 100) : Kd.C Kd.string (w.alloc (.cells (l.map Value.string).toArray 9)) (some ⟨w.heap.size, 0, none⟩) l.length l := by
  have h2 : Kd.R Kd.string 9 (w.alloc (.cells (l.map Value.string).toArray 9)) 0 (fun _ => True) (.slice (some ⟨w.heap.size, 0, none⟩) l.length l.length) l :=
    Kd.R_of_own (xs := l) ⟨by simp [encs], .inr ⟨w.heap.size, l.length, (l.map Value.string).toArray, rfl, Nat.zero_le _, World.alloc_heap_new w _, Nat.le_refl _, by unfold maxLen; omega, by simp, by simp [encs]; exact List.take_of_length_le (by simp)⟩⟩ (fun _ _ => trivial)
  exact (Kd.R_reads' h2).2.2
def l8 : List ByteArray := [kA, kB, kA, kC, kB, kD, kC, kD]
set_option maxRecDepth 1000000 in
set_option maxHeartbeats 1000000 in
theorem works_calls (w : World) : Calls Try.prog 10 #[] w fun e w' => e = .returned (.bool true) ∧ Below w.heap.size w w' := by
  obtain ⟨w0, hw0⟩ : ∃ w0, w.alloc (.cells (l8.map Value.string).toArray 9) = w0 := ⟨_, rfl⟩
  have hw0' : w.alloc (.cells #[.string ⟨#[97]⟩, .string ⟨#[98]⟩, .string ⟨#[97]⟩, .string ⟨#[99]⟩, .string ⟨#[98]⟩, .string ⟨#[100]⟩, .string ⟨#[99]⟩, .string ⟨#[100]⟩] 9) = w0 := hw0
  have hC0 : Kd.C Kd.string w0 (some ⟨w.heap.size, 0, none⟩) 8 l8 := by rw [← hw0]; exact lit_C w l8 (by decide)
  have hb0 : Below w.heap.size w w0 := by rw [← hw0]; exact below_alloc (Below.refl _ w) _
  obtain ⟨k, hk⟩ := ev_some (pairs_ev l8 (by decide))
  have hed := brickyardlaw19_edges.calls k (some ⟨w.heap.size, 0, none⟩) 8 l8 (pairsOf l8) w0 hC0 (by decide) hk
  have HB0 := Aside0.mk hb0
  clear hw0 hC0 hb0 hk
  go_enter Try.func10, Try.ntmps10
  go_wp2_with fail
  refine hed.mono ?_
  rintro e w1 ⟨v1, rfl, hR1, hB1⟩
  clear hed
  have hR1 : Kd.R k45 45 w1 w0.heap.size (fun _ => True) v1 E0 := hR1
  obtain ⟨A1, c1, rfl, hc1, hC1⟩ := Kd.R_reads hR1
  have hE0 : ∀ e, e ∈ E0 → e.f0.size ≤ maxLen ∧ e.f1.size ≤ maxLen := fun e he => by
    have : ∀ e, e ∈ E0 → e.f0.size = 1 ∧ e.f1.size = 1 := by decide
    have := this e he
    unfold maxLen; omega
  have hnew := new_calls (w := w1) A1 c1 E0 hC1 hE0 (by decide)
  have HB1 := Aside0.mk (HB0.out.trans (hB1.mono HB0.out.size))
  clear hR1 hC1 hB1 hE0
  go_wp2_with fail
  refine hnew.mono ?_
  rintro e w2 ⟨q, rfl, r2, hM2, hB2⟩
  clear hnew
  have hM2 : GMem w2 w1.heap.size r2 q G0 := hM2
  have hway := way_callsG hM2 kA kD (by decide) (by decide)
  rw [G0_way] at hway
  have HM2 := Aside0.mk (And.intro hM2 (HB1.out.trans (hB2.mono HB1.out.size)))
  clear hM2 hB2
  have hway : Calls Try.prog 14 #[.pointer (some ⟨q, 0, none⟩), .string ⟨#[97]⟩, .string ⟨#[100]⟩] w2 fun e w' => ∃ v : Value, e = .returned (.tuple #[v, .bool true]) ∧ Kd.R Kd.string 9 w' w2.heap.size (fun _ => True) v [kA, kB, kD] ∧ (true = false → v = .slice none 0 0) ∧ Below w2.heap.size w2 w' := hway
  go_wp2_with fail
  refine hway.mono ?_
  rintro e w3 ⟨v3, rfl, hR3, _, hB3⟩
  clear hway
  obtain ⟨A3, c3, rfl, hc3, hC3⟩ := Kd.R_reads hR3
  have hord := order_calls (HM2.out.1.below hB3)
  unfold OrderIs at hord
  rw [G0_order] at hord
  have HC3 := Aside0.mk (And.intro hC3 (HM2.out.2.trans (hB3.mono HM2.out.2.size)))
  clear hR3 hC3 hB3
  have hc3 : 3 ≤ c3 := hc3
  go_wp2_with fail
  refine hord.mono ?_
  rintro e w4 ⟨v4, rfl, hR4, hB4⟩
  clear hord
  obtain ⟨A4, c4, rfl, hc4, hC4⟩ := Kd.R_reads hR4
  have hc4 : 4 ≤ c4 := hc4
  obtain ⟨w5, hw5⟩ : ∃ w5, w4.alloc (.cells ([kA, kB, kD].map Value.string).toArray 9) = w5 := ⟨_, rfl⟩
  have hw5' : w4.alloc (.cells #[.string ⟨#[97]⟩, .string ⟨#[98]⟩, .string ⟨#[100]⟩] 9) = w5 := hw5
  have hb5 : Below w4.heap.size w4 w5 := by rw [← hw5]; exact below_alloc (Below.refl _ w4) _
  have heq := equalS_calls (w := w5) A3 c3 (some ⟨w4.heap.size, 0, none⟩) 3 [kA, kB, kD] (Kd.C_below HC3.out.1 (hB4.trans (hb5.mono hB4.size))) hc3 (by rw [← hw5]; exact lit_C w4 [kA, kB, kD] (by decide)) (by decide) (by decide)
  have HX := Aside0.mk (And.intro (Kd.C_below hC4 hb5) ((HC3.out.2.trans (hB4.mono HC3.out.2.size)).trans (hb5.mono (HC3.out.2.trans (hB4.mono HC3.out.2.size)).size)))
  clear hw5 hC4 hR4 hB4 hb5
  go_wp2_with fail
  refine heq.mono ?_
  rintro e w6 ⟨rfl, ⟨n6, rfl⟩⟩
  clear heq
  obtain ⟨w7, hw7⟩ : ∃ w7, (w5.drewN n6).alloc (.cells ([kD, kB, kC, kA].map Value.string).toArray 9) = w7 := ⟨_, rfl⟩
  have hw7' : (w5.drewN n6).alloc (.cells #[.string ⟨#[100]⟩, .string ⟨#[98]⟩, .string ⟨#[99]⟩, .string ⟨#[97]⟩] 9) = w7 := hw7
  have hb7 : Below w5.heap.size w5 w7 := by rw [← hw7]; exact below_alloc (pw_below_drewN (Below.refl _ w5) n6) _
  have heq := equalS_calls (w := w7) A4 c4 (some ⟨w5.heap.size, 0, none⟩) 4 [kD, kB, kC, kA] (Kd.C_below HX.out.1 hb7) hc4 (by rw [← hw7]; exact lit_C (w5.drewN n6) [kD, kB, kC, kA] (by decide)) (by decide) (by decide)
  have HY := Aside0.mk (HX.out.2.trans (hb7.mono HX.out.2.size))
  clear hw7 hb7 HX
  go_wp2_with fail
  refine heq.mono ?_
  rintro e w8 ⟨rfl, ⟨n8, rfl⟩⟩
  clear heq
  go_wp2_with fail
  go_ret
  exact ⟨rfl, pw_below_drewN HY.out n8⟩
end Go.Proofs.Ytmhbdgnajlnhnaa.P
/- What the laws of the graph begin with. -/
namespace Go.Proofs.Ytmhbdgnajlnhnaa.P
open Go.RowKit Go.Maps Go.MapKept Go.ChangeMaps Go.Proofs.YtmhbdgnajlnhnaaW.PrintWords Go.Proofs.YtmhbdgnajlnhnaaW.PrintLast Go.Proofs.YtmhbdgnajlnhnaaW.PrintMore Go.Proofs.Ytmhbdgnajlnhnaa.Pl
set_option linter.unusedVariables false
set_option linter.unusedSimpArgs false
theorem long_calls {w : World} (A0 : Option Addr) (c0 : Nat) (E : List S45) (A1 : Option Addr) (c1 : Nat) (l : List ByteArray) (h0 : Kd.C k45 w A0 E.length E) (hc0 : E.length ≤ c0) (h1 : Kd.C Kd.string w A1 l.length l) (hc1 : l.length ≤ c1) :
    Calls Try.prog 11 #[.slice A0 E.length c0, .slice A1 l.length c1] w fun e w' => e = .returned (.bool (decide (E.length > 40 ∨ l.length > 20))) ∧ Drawn0 w w' :=
  brickyardlaw19_long.calls A0 c0 E A1 c1 l _ w h0 hc0 h1 hc1 (long_eq E l)
theorem cyc_len {G : GG} (hG : GOk G) {c : List ByteArray} (h : cycleG G = some c) : c.length ≤ G.ns.length := by
  rcases bestOf_spec G (pairsG G G.ns) with ⟨h0, _⟩ | ⟨c', hc', ⟨x, hx, hcx⟩, _⟩
  · unfold cycleG at h; rw [h0] at h; cases h
  unfold cycleG at h
  rw [hc'] at h
  injection h with h
  subst h
  obtain ⟨n, _, _, hd, hw⟩ := wayG_ok hcx.1
  have h1 := wayG_len hG x.2 x.1
  have h2 : (wayG G x.2 x.1).1.length = n + 1 := by rw [hw, (along_steps n _ hd).len]
  rw [hcx.2, List.length_cons, List.length_dropLast]
  omega
theorem cyc_getD {G : GG} (hG : GOk G) : ((cycleG G).getD []).length ≤ G.ns.length := by
  cases h : cycleG G with
  | none => exact Nat.zero_le _
  | some c => exact cyc_len hG h
theorem order_len {G : GG} (hG : GOk G) : (orderG G).1.length ≤ G.ns.length := by
  rcases order_ok hG with ⟨o, h, _, hl, _⟩ | ⟨h, _⟩
  · rw [h]; exact Nat.le_of_eq hl
  · rw [h]; exact Nat.zero_le _
/-- the two graphs side by side, in memory -/
def TwoG (wb : World) (b0 : Nat) (r : Nat → Role) (q g : Nat) (G : GG) (B0 : Option Addr) (d0 : Nat) (B1 : Option Addr) (d1 : Nat) : Prop :=
  ∀ W, Below wb.heap.size wb W → GMem W b0 r q G ∧ (W.cell? ⟨g, 0, none⟩ = some (.slice B0 G.ns.length d0) ∧ W.cell? ⟨g, 1, none⟩ = some (.slice B1 (edgesOf G G.ns).length d1)) ∧ Kd.C Kd.string W B0 G.ns.length G.ns ∧ Kd.C k45 W B1 (edgesOf G G.ns).length (edgesOf G G.ns)
end Go.Proofs.Ytmhbdgnajlnhnaa.P
