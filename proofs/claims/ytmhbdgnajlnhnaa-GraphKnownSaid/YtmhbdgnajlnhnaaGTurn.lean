/- Folded: GEdges, GTurn. -/
import Derived.Test.YtmhbdgnajlnhnaaGNew
import Derived.Test.YtmhbdgnajlnhnaaPx0
/- (*Graph).Edges: all edges. -/
namespace Go.Proofs.Ytmhbdgnajlnhnaa.P
open Go.RowKit Go.Maps Go.MapKept Go.ChangeMaps Go.Proofs.YtmhbdgnajlnhnaaW.PrintWords Go.Proofs.YtmhbdgnajlnhnaaW.PrintLast Go.Proofs.YtmhbdgnajlnhnaaW.PrintMore Go.Proofs.Ytmhbdgnajlnhnaa.Pl
set_option linter.unusedVariables false
set_option linter.unusedSimpArgs false
def edgesOf (G : GG) (l : List ByteArray) : List S45 := l.flatMap fun s => (G.out s).map fun t => ⟨s, t⟩
theorem edgesOf_snoc (G : GG) (l : List ByteArray) (s : ByteArray) : edgesOf G (l ++ [s]) = edgesOf G l ++ (G.out s).map fun t => ⟨s, t⟩ := by unfold edgesOf; rw [List.flatMap_append]; simp
theorem edgesOf_len {G : GG} (hG : GOk G) (l : List ByteArray) : (edgesOf G l).length ≤ l.length * G.ns.length := by
  induction l with
  | nil => simp [edgesOf]
  | cons s l ih =>
    have h1 : (G.out s).length ≤ G.ns.length := List.Nodup.length_le_of_subset (ss_nodup (hG.outs s)) (fun t ht => hG.inside s t ht)
    unfold edgesOf at ih ⊢
    rw [List.flatMap_cons, List.length_append, List.length_map, List.length_cons, Nat.succ_mul]
    omega
section
variable {base p : Nat} {role : Nat → Role} {G : GG} {w : World}
set_option maxRecDepth 1000000 in
set_option maxHeartbeats 4000000 in
theorem edges_calls (hg : GMem w base role p G) : Calls Try.prog 28 #[.pointer (some ⟨p, 0, none⟩)] w fun e w' => ∃ v, e = .returned v ∧ Kd.R k45 45 w' w.heap.size (fun _ => True) v (edgesOf G G.ns) ∧ Below w.heap.size w w' := by
  have hn := names_calls hg
  have HG := Aside0.mk hg
  have hfew := hg.few
  clear hg
  go_enter Try.func28, Try.ntmps28
  go_wp2_with fail
  refine hn.mono ?_
  rintro e w1 ⟨v1, rfl, hR1, _, hB1⟩
  clear hn
  obtain ⟨A1, c1, rfl, hc1, hC1⟩ := Kd.R_reads hR1
  have HC1 := Aside0.mk hC1
  have H0 := Aside0.mk (And.intro (Kd.R_nil k45 45 w1 w1.heap.size (fun _ => True)) (Below.refl w1.heap.size w1))
  have HB1 := Aside0.mk hB1
  clear hR1 hC1 hc1 hB1
  obtain ⟨wn, rfl⟩ : ∃ wn : World, wn = w1 := ⟨_, rfl⟩
  go_wp2_with fail
  go_loopg [3, 11] (G.ns.length + 1) (fun n v3 v11 wr => ∃ i : Nat, v11 = .int .i64 (i : Int) ∧ Aside0 (i + n = G.ns.length + 1) ∧ Aside0 (Kd.R k45 45 wr wn.heap.size (fun _ => True) v3 (edgesOf G (G.ns.take i)) ∧ Below wn.heap.size wn wr))
  case atStart => exact ⟨0, rfl, ⟨by omega⟩, ⟨by rw [List.take_zero]; exact H0.out.1, H0.out.2⟩⟩
  case round =>
    obtain ⟨i, rfl, ⟨hn⟩, HR⟩ := hrel
    clear H0
    by_cases ci : i < G.ns.length
    case neg =>
      have cib : decide ((i : Int) < (G.ns.length : Int)) = false := decide_eq_false (by omega)
      rw [List.take_of_length_le (by omega)] at HR
      go_wp2_with fail
      go_ret
      exact ⟨_, rfl, Kd.R_lower HR.out.1 HB1.out.size, below_then HB1.out HB1.out.size HR.out.2⟩
    have cib : decide ((i : Int) < (G.ns.length : Int)) = true := decide_eq_true (by omega)
    obtain ⟨ad, rfl, hcell⟩ := Kd.at_string (Kd.C_below HC1.out HR.out.2) (i : Int) (Int.natCast_nonneg _) (by omega)
    rw [Int.toNat_natCast] at hcell
    have hx : rdOf ByteArray.empty G.ns (i : Int) = G.ns[i] := by
      unfold rdOf; rw [Int.toNat_natCast, List.getD_eq_getElem?_getD, List.getElem?_eq_getElem ci]; rfl
    rw [hx] at hcell
    have htk : G.ns.take (i + 1) = G.ns.take i ++ [G.ns[i]] := List.take_succ_eq_append_getElem ci
    have hin : G.ns[i] ∈ G.ns := List.getElem_mem ci
    obtain ⟨a, hae⟩ : ∃ a, G.ns[i] = a := ⟨_, rfl⟩
    rw [hae] at hcell htk hin
    have HK := Aside0.mk htk
    have hgw := HG.out.below (HB1.out.trans (HR.out.2.mono HB1.out.size))
    have ho := out_calls hgw a (HG.out.good.short a hin)
    have hol := out_len HG.out a
    clear hx hae htk hgw hin
    obtain ⟨wm, rfl⟩ : ∃ wm : World, wm = wr := ⟨_, rfl⟩
    obtain ⟨gm, rfl⟩ : ∃ gm : Nat, gm = gk := ⟨_, rfl⟩
    go_wp2_with fail
    refine ho.mono ?_
    rintro e w2 ⟨v2, rfl, hR2, _, hB2⟩
    clear ho
    obtain ⟨A2, c2, rfl, hc2, hC2⟩ := Kd.R_reads hR2
    have HC2 := Aside0.mk hC2
    have HB2 := Aside0.mk hB2
    have hs2 := hB2.size
    have HKC := Aside0.mk (Kd.C_kept_own (S := fun k => k < wm.heap.size) (Kd.R_bound hR2) (fun k hk => by have := hk.2.1; omega))
    have HR2 : Aside0 (Kd.R k45 45 w2 wn.heap.size (fun k => k < wm.heap.size ∨ w2.heap.size ≤ k) u3 (edgesOf G (G.ns.take i) ++ ((G.out a).take 0).map fun t => ⟨a, t⟩) ∧ Below wn.heap.size wn w2 ∧ Kept w2 w2 (fun k => k < wm.heap.size)) :=
      ⟨by rw [List.take_zero, List.map_nil, List.append_nil]; exact Kd.R_mono (Kd.R_below (Kd.R_bound HR.out.1) (hB2.mono (Nat.le_refl _))) (fun k hk => .inl hk.2.2.1), HR.out.2.trans (hB2.mono HR.out.2.size), Kept.refl _ _⟩
    have hel := edgesOf_len HG.out.good (G.ns.take i)
    have htl : (G.ns.take i).length = i := by simp; omega
    have hmul : (G.ns.take i).length * G.ns.length ≤ 100000 * 100000 := Nat.mul_le_mul (by omega) hfew
    have hel2 : (edgesOf G (G.ns.take i)).length ≤ 10000000000 := by omega
    obtain ⟨E0, hE0⟩ : ∃ E0, edgesOf G (G.ns.take i) = E0 := ⟨_, rfl⟩
    have HE0 := Aside0.mk (show edgesOf G (G.ns.take (i + 1)) = E0 ++ (G.out a).map fun t => ⟨a, t⟩ by rw [HK.out, edgesOf_snoc, hE0])
    rw [hE0] at HR2 hel2
    have HS2 := Aside0.mk hs2
    have hle2 : wn.heap.size ≤ w2.heap.size := HR2.out.2.1.size
    clear hR2 hC2 hc2 hB2 hel hmul htl hE0 hs2 HR
    go_wp2_with fail
    go_loopg [3, 19] ((G.out a).length + 1) (fun n v3 v19 wr => ∃ j : Nat, v19 = .int .i64 (j : Int) ∧ Aside0 (j + n = (G.out a).length + 1) ∧ Aside0 (Kd.R k45 45 wr wn.heap.size (fun k => k < wm.heap.size ∨ w2.heap.size ≤ k) v3 (E0 ++ ((G.out a).take j).map fun t => ⟨a, t⟩) ∧ Below wn.heap.size wn wr ∧ Kept w2 wr (fun k => k < wm.heap.size)))
    case atStart => exact ⟨0, rfl, ⟨by omega⟩, HR2⟩
    case round =>
      obtain ⟨j, rfl, ⟨hn2⟩, HR⟩ := hrel
      clear HR2
      by_cases cj : j < (G.out a).length
      case neg =>
        have cjb : decide ((j : Int) < ((G.out a).length : Int)) = false := decide_eq_false (by omega)
        rw [List.take_of_length_le (by omega), ← HE0.out] at HR
        have HX := Aside0.mk (And.intro (Kd.R_mono (ok' := fun _ => True) HR.out.1 (fun _ _ => trivial)) HR.out.2.1)
        clear HR
        go_wp2_with fail
        go_roundg (gm - 1)
        case measure => omega
        case rel => exact ⟨i + 1, by first | rfl | (rw [w64_ (by omega) (by omega)]; rfl) | simp, ⟨by omega⟩, HX⟩
      have cjb : decide ((j : Int) < ((G.out a).length : Int)) = true := decide_eq_true (by omega)
      obtain ⟨ad2, rfl, hcell2⟩ := Kd.at_string (HKC.out wr HR.out.2.2) (j : Int) (Int.natCast_nonneg _) (by omega)
      rw [Int.toNat_natCast] at hcell2
      have hx2 : rdOf ByteArray.empty (G.out a) (j : Int) = (G.out a)[j] := by
        unfold rdOf; rw [Int.toNat_natCast, List.getD_eq_getElem?_getD, List.getElem?_eq_getElem cj]; rfl
      rw [hx2] at hcell2
      have htk2 : (G.out a).take (j + 1) = (G.out a).take j ++ [(G.out a)[j]] := List.take_succ_eq_append_getElem cj
      obtain ⟨b, hbe⟩ : ∃ b, (G.out a)[j] = b := ⟨_, rfl⟩
      rw [hbe] at hcell2 htk2
      obtain ⟨E1, hE1⟩ : ∃ E1, E0 ++ ((G.out a).take j).map (fun t => (⟨a, t⟩ : S45)) = E1 := ⟨_, rfl⟩
      have hE2 : E0 ++ ((G.out a).take (j + 1)).map (fun t => (⟨a, t⟩ : S45)) = E1 ++ [⟨a, b⟩] := by rw [htk2, List.map_append, ← List.append_assoc, hE1]; rfl
      have hEl : E1.length ≤ 10000100000 := by rw [← hE1]; simp; omega
      rw [hE1] at HR
      have HE2 := Aside0.mk hE2
      have hlw : wn.heap.size ≤ wr.heap.size := HR.out.2.1.size
      have hw2r : w2.heap.size ≤ wr.heap.size := HR.out.2.2.1
      clear hx2 hbe htk2 hE1 hE2
      go_wp2_with (first | ((with_reducible refine gate_builtin (b := .append) (xs := #[.tmp 23, .tmp 27]) rfl ?_); at_builtin; refine Kd.R_append k45 (w0 := wn) (W := wr) wn.heap.size rfl (.tmp 23) (.tmp 27) 22 45 (.agg #[(.string ⟨#[]⟩), (.string ⟨#[]⟩)]) 32 rfl Try.underlying22 info45 rfl (by decide) (by omega) _ E1 ⟨a, b⟩ [.string a, .string b] (fun k => k < wm.heap.size ∨ w2.heap.size ≤ k) (fun _ => False) rfl rfl (k45_mkM _ _ _ ⟨a, b⟩) (fun _ hk => hk.elim) (fun k hk => .inr (Nat.le_trans hw2r hk)) HR.out.1 HR.out.2.1 hlw (by omega) ?_; intro v1 w5 h5 hb5 hg5 hat))
      have HX : Aside0 (Kd.R k45 45 w5 wn.heap.size (fun k => k < wm.heap.size ∨ w2.heap.size ≤ k) v1 (E0 ++ ((G.out a).take (j + 1)).map fun t => ⟨a, t⟩) ∧ Below wn.heap.size wn w5 ∧ Kept w2 w5 (fun k => k < wm.heap.size)) :=
        ⟨by rw [HE2.out]; exact h5, hb5, Kept.of_grown hg5 HR.out.2.2 (fun k hk => (Kd.R_bound HR.out.1).1 k hk |>.1)⟩
      clear h5 hb5 hg5 HR
      go_wp2_with fail
      go_roundg (gk - 1)
      case measure => omega
      case rel => exact ⟨j + 1, by first | rfl | (rw [w64_ (by omega) (by omega)]; rfl) | simp, ⟨by omega⟩, HX⟩
end
end Go.Proofs.Ytmhbdgnajlnhnaa.P
/- (*Graph).Turn: each edge turned about. -/
namespace Go.Proofs.Ytmhbdgnajlnhnaa.P
open Go.RowKit Go.Maps Go.MapKept Go.ChangeMaps Go.Proofs.YtmhbdgnajlnhnaaW.PrintWords Go.Proofs.YtmhbdgnajlnhnaaW.PrintLast Go.Proofs.YtmhbdgnajlnhnaaW.PrintMore Go.Proofs.Ytmhbdgnajlnhnaa.Pl
set_option linter.unusedVariables false
set_option linter.unusedSimpArgs false
def backAll (G : GG) (l : List S45) : GG := l.foldl (fun G e => linkG G e.f1 e.f0) G
theorem backAll_snoc (G : GG) (l : List S45) (x : S45) : backAll G (l ++ [x]) = linkG (backAll G l) x.f1 x.f0 := by unfold backAll; rw [List.foldl_append]; rfl
theorem backAll_sub {G T : GG} (hG : GOk G) : ∀ (l : List S45), (∀ e, e ∈ l → e.f0 ∈ G.ns ∧ e.f1 ∈ G.ns) → (∀ s, s ∈ T.ns → s ∈ G.ns) → ∀ s, s ∈ (backAll T l).ns → s ∈ G.ns := by
  intro l
  induction l generalizing T with
  | nil => exact fun _ h => h
  | cons e l ih =>
    intro h1 h2
    refine ih (T := linkG T e.f1 e.f0) (fun x hx => h1 x (List.mem_cons_of_mem _ hx)) (fun s hs => ?_)
    have he := h1 e List.mem_cons_self
    have hs : s ∈ ins e.f0 (ins e.f1 T.ns) := hs
    rcases (mem_ins _ _ _).1 hs with rfl | hs
    · exact he.1
    · rcases (mem_ins _ _ _).1 hs with rfl | hs
      · exact he.2
      · exact h2 s hs
def turnG (G : GG) : GG := backAll (addAll emptyG G.ns) (edgesOf G G.ns)
theorem mem_edgesOf {G : GG} {l : List ByteArray} {e : S45} : e ∈ edgesOf G l ↔ e.f0 ∈ l ∧ e.f1 ∈ G.out e.f0 := by
  unfold edgesOf
  rw [List.mem_flatMap]
  constructor
  · rintro ⟨s, hs, he⟩
    obtain ⟨t, ht, rfl⟩ := List.mem_map.1 he
    exact ⟨hs, ht⟩
  · rintro ⟨h1, h2⟩
    exact ⟨e.f0, h1, List.mem_map.2 ⟨e.f1, h2, rfl⟩⟩
theorem addAll_mem (G : GG) : ∀ (l : List ByteArray) (s : ByteArray), s ∈ (addAll G l).ns ↔ s ∈ G.ns ∨ s ∈ l := by
  intro l
  induction l generalizing G with
  | nil => intro s; show s ∈ G.ns ↔ _; simp
  | cons x l ih =>
    intro s
    show s ∈ (addAll (addG G x) l).ns ↔ _
    rw [ih, show (addG G x).ns = ins x G.ns from rfl, mem_ins, List.mem_cons]
    constructor
    · rintro ((h | h) | h)
      · exact .inr (.inl h)
      · exact .inl h
      · exact .inr (.inr h)
    · rintro (h | h | h)
      · exact .inl (.inr h)
      · exact .inl (.inl h)
      · exact .inr h
theorem addAll_ok {G : GG} (h : GOk G) : ∀ (l : List ByteArray), (∀ s, s ∈ l → s.size ≤ maxLen) → GOk (addAll G l) := by
  intro l
  induction l generalizing G with
  | nil => exact fun _ => h
  | cons x l ih => exact fun hl => ih (addG_ok h (hl x List.mem_cons_self)) (fun s hs => hl s (List.mem_cons_of_mem _ hs))
theorem backAll_ok {G : GG} (h : GOk G) : ∀ (l : List S45), (∀ e, e ∈ l → e.f0.size ≤ maxLen ∧ e.f1.size ≤ maxLen) → GOk (backAll G l) := by
  intro l
  induction l generalizing G with
  | nil => exact fun _ => h
  | cons x l ih => exact fun hl => ih (linkG_ok h (hl x List.mem_cons_self).2 (hl x List.mem_cons_self).1) (fun s hs => hl s (List.mem_cons_of_mem _ hs))
theorem linkAll_ok {G : GG} (h : GOk G) : ∀ (l : List S45), (∀ e, e ∈ l → e.f0.size ≤ maxLen ∧ e.f1.size ≤ maxLen) → GOk (linkAll G l) := by
  intro l
  induction l generalizing G with
  | nil => exact fun _ => h
  | cons x l ih => exact fun hl => ih (linkG_ok h (hl x List.mem_cons_self).1 (hl x List.mem_cons_self).2) (fun s hs => hl s (List.mem_cons_of_mem _ hs))
section
variable {base p : Nat} {role : Nat → Role} {G : GG} {w : World}
set_option maxRecDepth 1000000 in
set_option maxHeartbeats 4000000 in
theorem turn_calls (hg : GMem w base role p G) (hsmall : G.ns.length ≤ 1000) : Calls Try.prog 26 #[.pointer (some ⟨p, 0, none⟩)] w fun e w' => ∃ q, e = .returned (.pointer (some ⟨q, 0, none⟩)) ∧ NewDid w q (turnG G) w' := by
  have HG := Aside0.mk hg
  clear hg
  have hnew := new_calls (w := w) none 0 [] (Kd.C_nil _ _) (fun _ h => by cases h) (by simp)
  go_enter Try.func26, Try.ntmps26
  go_wp2_with fail
  refine hnew.mono ?_
  rintro e w1 ⟨q, rfl, r1, hM1, hB1⟩
  clear hnew
  have HM1 := Aside0.mk (And.intro hM1 hB1)
  clear hM1 hB1
  have hn := names_calls (HG.out.below HM1.out.2)
  go_wp2_with fail
  refine hn.mono ?_
  rintro e w2 ⟨v2, rfl, hR2, _, hB2⟩
  clear hn
  obtain ⟨A2, c2, rfl, hc2, hC2⟩ := Kd.R_reads hR2
  have hadd := add_calls (HM1.out.1.below hB2) A2 c2 G.ns (Kd.C_kept_own (S := fun k => r1 k ≠ .none) (Kd.R_bound hR2) (fun k hk hr => by have := hk.2.1; have := (HM1.out.1.bound k hr).2; omega)) (fun s hs => HG.out.good.short s hs) (by show 0 + _ ≤ _; omega)
  have hB12 := HM1.out.2.trans (hB2.mono HM1.out.2.size)
  have HM2 := Aside0.mk (And.intro (HM1.out.1.below hB2) hB12)
  clear hR2 hC2 hc2 hB2 hB12
  go_wp2_with fail
  refine hadd.mono ?_
  rintro e w3 ⟨rfl, hD3⟩
  clear hadd
  obtain ⟨r3, hM3, hB3⟩ := NewDid.did HM2.out.1 HM2.out.2 hD3
  have HM3 := Aside0.mk (And.intro hM3 hB3)
  clear hM3 hB3 hD3
  have hed := edges_calls (HG.out.below HM3.out.2)
  go_wp2_with fail
  refine hed.mono ?_
  rintro e w4 ⟨v4, rfl, hR4, hB4⟩
  clear hed
  obtain ⟨A4, c4, rfl, hc4, hC4⟩ := Kd.R_reads hR4
  have HC4 := Aside0.mk (Kd.C_kept_own (S := fun k => r3 k ≠ .none) (Kd.R_bound hR4) (fun k hk hr => by have := hk.2.1; have := (HM3.out.1.bound k hr).2; omega))
  have HM4 := Aside0.mk (And.intro (HM3.out.1.below hB4) (HM3.out.2.trans (hB4.mono HM3.out.2.size)))
  obtain ⟨El, hEl⟩ : ∃ El, edgesOf G G.ns = El := ⟨_, rfl⟩
  have hEs : ∀ e, e ∈ El → e.f0 ∈ G.ns ∧ e.f1 ∈ G.ns := fun e he => by rw [← hEl, mem_edgesOf] at he; exact ⟨he.1, HG.out.good.inside _ _ he.2⟩
  have hEn : El.length ≤ 1000 * 1000 := by rw [← hEl]; exact Nat.le_trans (edgesOf_len HG.out.good G.ns) (Nat.mul_le_mul hsmall hsmall)
  have HTG := Aside0.mk (show turnG G = backAll (addAll emptyG G.ns) El by unfold turnG; rw [hEl])
  have HES := Aside0.mk hEs
  rw [hEl] at HC4 ⊢
  have H0 : Aside0 (GDid w4 w.heap.size r3 q (backAll (addAll emptyG G.ns) (El.take 0)) w4) := ⟨by rw [List.take_zero]; exact GDid.refl HM4.out.1⟩
  clear hR4 hC4 hc4 hB4 hEl hEs
  go_wp2_with fail
  go_loopg [16] (El.length + 1) (fun n iv wr => ∃ i : Nat, iv = .int .i64 (i : Int) ∧ Aside0 (i + n = El.length + 1) ∧ Aside0 (GDid w4 w.heap.size r3 q (backAll (addAll emptyG G.ns) (El.take i)) wr))
  case atStart => exact ⟨0, rfl, ⟨by omega⟩, H0⟩
  case round =>
    obtain ⟨i, rfl, ⟨hn⟩, ⟨hD⟩⟩ := hrel
    clear H0
    by_cases ci : i < El.length
    case neg =>
      have cib : decide ((i : Int) < (El.length : Int)) = false := decide_eq_false (by omega)
      rw [List.take_of_length_le (by omega), ← HTG.out] at hD
      have HX := Aside0.mk (NewDid.did HM4.out.1 HM4.out.2 hD)
      clear hD
      go_wp2_with fail
      go_ret
      exact ⟨_, rfl, HX.out⟩
    have cib : decide ((i : Int) < (El.length : Int)) = true := decide_eq_true (by omega)
    obtain ⟨r5, hM5, hro, hT⟩ := hD
    obtain ⟨ad, rfl, hc0, hc1⟩ := at_T45 (HC4.out wr hT.kept) (i : Int) (Int.natCast_nonneg _) (by omega)
    rw [Int.toNat_natCast] at hc0 hc1
    have hx : rd_T45 El (i : Int) = El[i] := by
      unfold rd_T45; rw [Int.toNat_natCast, List.getD_eq_getElem?_getD, List.getElem?_eq_getElem ci]; rfl
    rw [hx] at hc0 hc1
    have hxs := HES.out _ (List.getElem_mem ci)
    have htk : El.take (i + 1) = El.take i ++ [El[i]] := List.take_succ_eq_append_getElem ci
    have hsub : (backAll (addAll emptyG G.ns) (El.take i)).ns.length ≤ G.ns.length := List.Nodup.length_le_of_subset (ss_nodup hM5.good.rise) (backAll_sub HG.out.good (El.take i) (fun e he => HES.out e (List.mem_of_mem_take he)) (fun s hs => ((addAll_mem emptyG G.ns s).1 hs).elim (fun h => by cases h) (fun h => h)))
    obtain ⟨x, hxe⟩ : ∃ x, El[i] = x := ⟨_, rfl⟩
    rw [hxe] at hc0 hc1 hxs htk
    have hGn := Aside0.mk (show backAll (addAll emptyG G.ns) (El.take (i + 1)) = linkG (backAll (addAll emptyG G.ns) (El.take i)) x.f1 x.f0 by rw [htk, backAll_snoc])
    obtain ⟨G1, hG1⟩ : ∃ G1, backAll (addAll emptyG G.ns) (El.take i) = G1 := ⟨_, rfl⟩
    rw [hG1] at hM5 hGn hsub
    have s0 := HG.out.good.short _ hxs.1
    have s1 := HG.out.good.short _ hxs.2
    clear hx hxe htk hG1 hxs
    obtain ⟨W, hW⟩ : ∃ W, wr.alloc (.cells #[.string x.f0, .string x.f1] 45) = W := ⟨_, rfl⟩
    have z0 : W.cell? ⟨wr.heap.size, 0, none⟩ = some (.string x.f0) := by rw [← hW, blk_cell' alloc_new]; rfl
    have z1 : W.cell? ⟨wr.heap.size, 1, none⟩ = some (.string x.f1) := by rw [← hW, blk_cell' alloc_new]; rfl
    have hbel : Below wr.heap.size wr W := by rw [← hW]; exact (Below.refl _ wr).alloc (Nat.le_refl _) _
    have hlk := link_calls (hM5.below hbel) x.f1 x.f0 s1 s0 (by omega)
    have HB := Aside0.mk (And.intro hro (hT.trans (Turn.of_below (ok := fun _ => False) hbel) (fun k hk => hk.elim)))
    clear hM5 hbel hro hT
    go_wp2_with fail
    refine hlk.mono ?_
    rintro e w9 ⟨rfl, hD⟩
    clear hlk
    have HD : Aside0 (GDid w4 w.heap.size r3 q (backAll (addAll emptyG G.ns) (El.take (i + 1))) w9) := ⟨by rw [hGn.out]; exact GDid.trans HB.out.1 HB.out.2 hD⟩
    clear hD HB
    go_wp2_with fail
    go_roundg (gk - 1)
    case measure => omega
    case rel => exact ⟨i + 1, by first | rfl | (rw [w64_ (by omega) (by omega)]; rfl) | simp, ⟨by omega⟩, HD⟩
end
end Go.Proofs.Ytmhbdgnajlnhnaa.P
