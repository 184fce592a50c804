/- Folded: PlWay, GWay. -/
import Derived.Test.YtmhbdgnajlnhnaaGFar
/- The least of the shortest ways, plainly: at each step the first name that is nearer. -/
namespace Go.Proofs.Ytmhbdgnajlnhnaa.Pl
open Go.RowKit Go.Proofs.YtmhbdgnajlnhnaaW.PrintWords
/-- the steps of a way of n edges -/
def steps (out : ByteArray → List ByteArray) (near : Nat → ByteArray → Bool) : Nat → ByteArray → List ByteArray
  | 0, _ => []
  | n + 1, a => match (out a).find? (near n) with
    | some b => b :: steps out near n b
    | none => []
/-- is a name n edges away? -/
def nearK (K : List ByteArray) (d : ByteArray → Nat) (n : Nat) (s : ByteArray) : Bool := hasB K s && decide (d s = n)
theorem nearK_iff {G : GG} {t : ByteArray} {K : List ByteArray} {d : ByteArray → Nat} (h : FarOf G t K d) (n : Nat) (s : ByteArray) : nearK K d n s = true ↔ Dist G.out n s t := by
  unfold nearK
  rw [Bool.and_eq_true, hasB_iff, decide_eq_true_eq]
  constructor
  · rintro ⟨h1, rfl⟩; exact h.far s h1
  · intro hd
    have hs := (h.all s).2 ⟨n, hd⟩
    exact ⟨hs, (h.far s hs).uniq hd⟩
theorem step_there {G : GG} {t a : ByteArray} {K : List ByteArray} {d : ByteArray → Nat} (h : FarOf G t K d) {n : Nat} (hd : Dist G.out (n + 1) a t) : ∃ b, (G.out a).find? (nearK K d n) = some b ∧ b ∈ G.out a ∧ Dist G.out n b t := by
  obtain ⟨⟨c, hc, hdc⟩, _⟩ := dist_succ.1 hd
  cases hf : (G.out a).find? (nearK K d n) with
  | none => exact absurd ((nearK_iff h n c).2 hdc) (by simpa using List.find?_eq_none.1 hf c hc)
  | some b => exact ⟨b, rfl, List.mem_of_find?_eq_some hf, (nearK_iff h n b).1 (List.find?_some hf)⟩
theorem steps_len {G : GG} {t : ByteArray} {K : List ByteArray} {d : ByteArray → Nat} (h : FarOf G t K d) : ∀ (n : Nat) (a : ByteArray), Dist G.out n a t → (steps G.out (nearK K d) n a).length = n := by
  intro n
  induction n with
  | zero => exact fun _ _ => rfl
  | succ n ih =>
    intro a hd
    obtain ⟨b, hf, _, hb⟩ := step_there h hd
    rw [steps, hf]
    show (steps G.out (nearK K d) n b).length + 1 = n + 1
    rw [ih b hb]
end Go.Proofs.Ytmhbdgnajlnhnaa.Pl
/- (*Graph).Way: the least of the shortest ways. -/
namespace Go.Proofs.Ytmhbdgnajlnhnaa.P
open Go.RowKit Go.Maps Go.MapKept Go.ChangeMaps Go.Proofs.YtmhbdgnajlnhnaaW.PrintWords Go.Proofs.YtmhbdgnajlnhnaaW.PrintLast Go.Proofs.YtmhbdgnajlnhnaaW.PrintMore Go.Proofs.Ytmhbdgnajlnhnaa.Pl
set_option linter.unusedVariables false
set_option linter.unusedSimpArgs false
section
variable {base p : Nat} {role : Nat → Role} {G : GG} {w : World}
theorem dist_names {F : ByteArray → List ByteArray} {b : ByteArray} : ∀ (n : Nat) (a : ByteArray), Dist F n a b → ∃ l : List ByteArray, l.Nodup ∧ l.length = n + 1 ∧ ∀ s, s ∈ l → ∃ m, m ≤ n ∧ Dist F m s b := by
  intro n
  induction n with
  | zero => exact fun a h => ⟨[a], by simp, rfl, fun s hs => by rw [List.mem_singleton] at hs; subst hs; exact ⟨0, Nat.le_refl _, h⟩⟩
  | succ n ih =>
    intro a h
    obtain ⟨⟨c, _, hc⟩, hn⟩ := dist_succ.1 h
    obtain ⟨l, h1, h2, h3⟩ := ih c hc
    refine ⟨a :: l, List.nodup_cons.2 ⟨fun ha => ?_, h1⟩, by rw [List.length_cons, h2], fun s hs => ?_⟩
    · obtain ⟨m, hm, hd⟩ := h3 a ha
      exact hn m hm hd
    · rcases List.mem_cons.1 hs with rfl | hs
      · exact ⟨n + 1, Nat.le_refl _, h⟩
      · obtain ⟨m, hm, hd⟩ := h3 s hs
        exact ⟨m, by omega, hd⟩
theorem dist_bound {G : GG} (hG : GOk G) {n : Nat} {a b : ByteArray} (hb : b ∈ G.ns) (h : Dist G.out n a b) : n + 1 ≤ G.ns.length := by
  obtain ⟨l, h1, h2, h3⟩ := dist_names n a h
  rw [← h2]
  exact List.Nodup.length_le_of_subset h1 (fun s hs => by obtain ⟨m, _, hd⟩ := h3 s hs; exact stp_inside hG hd.1 hb)
/-- what Way answers -/
def WayIs (G : GG) (a b : ByteArray) (w : World) (e : Ending) (w' : World) : Prop :=
  ∃ (v : Value) (l : List ByteArray) (ok : Bool), e = .returned (.tuple #[v, .bool ok]) ∧ Kd.R Kd.string 9 w' w.heap.size (fun _ => True) v l ∧ Below w.heap.size w w' ∧
    (ok = true → a ∈ G.ns ∧ b ∈ G.ns ∧ ∃ K d, FarOf G b K d ∧ a ∈ K ∧ l = a :: steps G.out (nearK K d) (d a) a) ∧ (ok = false → l = [] ∧ v = .slice none 0 0 ∧ (a ∉ G.ns ∨ b ∉ G.ns ∨ ∀ n, ¬ Dist G.out n a b))
set_option maxRecDepth 1000000 in
set_option maxHeartbeats 4000000 in
theorem way_none (hg : GMem w base role p G) (a b : ByteArray) (ha : a.size ≤ maxLen) (hb : b.size ≤ maxLen) (h : a ∉ G.ns ∨ b ∉ G.ns) : Calls Try.prog 14 #[.pointer (some ⟨p, 0, none⟩), .string a, .string b] w (WayIs G a b w) := by
  have h1 := has_calls hg a ha
  have h2 := has_calls hg b hb
  have HE : Aside0 (WayIs G a b w (.returned (.tuple #[.slice none 0 0, .bool false])) w) := ⟨_, [], false, rfl, Kd.R_nil _ _ _ _ _, Below.refl _ _, fun h => (by cases h), fun _ => ⟨rfl, rfl, h.elim .inl (fun h => .inr (.inl h))⟩⟩
  clear hg
  cases c1 : hasB G.ns a with
  | false =>
    rw [c1] at h1
    clear h h2
    go_enter Try.func14, Try.ntmps14
    go_wp2_with fail
    go_step3
    go_wp2_with fail
    refine h1.mono ?_
    rintro e w1 ⟨rfl, hw⟩
    subst hw
    clear h1
    go_wp2_with fail
    rw [Exit.noGoto_ret]
    first | go_ret2 | (refine bodyPost_ret (results_tmp2 rfl _ _ _) rfl ?_)
    exact HE.out
  | true =>
    have c2 : hasB G.ns b = false := hasB_false.2 (h.resolve_left (fun h' => h' (hasB_iff.1 c1)))
    rw [c1] at h1
    rw [c2] at h2
    clear h c2
    go_enter Try.func14, Try.ntmps14
    go_wp2_with fail
    go_step3
    go_wp2_with fail
    refine h1.mono ?_
    rintro e w1 ⟨rfl, hw⟩
    subst hw
    clear h1
    go_wp2_with fail
    refine h2.mono ?_
    rintro e w2 ⟨rfl, hw⟩
    subst hw
    clear h2
    go_wp2_with fail
    rw [Exit.noGoto_ret]
    first | go_ret2 | (refine bodyPost_ret (results_tmp2 rfl _ _ _) rfl ?_)
    exact HE.out
set_option maxRecDepth 1000000 in
set_option maxHeartbeats 4000000 in
theorem way_some (hg : GMem w base role p G) (a b : ByteArray) (ha : a ∈ G.ns) (hb : b ∈ G.ns) : Calls Try.prog 14 #[.pointer (some ⟨p, 0, none⟩), .string a, .string b] w (WayIs G a b w) := by
  have sa := hg.good.short a ha
  have h1 := has_calls hg a sa
  have h2 := has_calls hg b (hg.good.short b hb)
  rw [hasB_iff.2 ha] at h1
  rw [hasB_iff.2 hb] at h2
  have hf := far_calls hg b hb
  have HG := Aside0.mk hg
  have HA := Aside0.mk (And.intro ha hb)
  clear hg ha hb
  go_enter Try.func14, Try.ntmps14
  go_wp2_with fail
  go_step3
  go_wp2_with fail
  refine h1.mono ?_
  rintro e w1 ⟨rfl, hw⟩
  subst hw
  clear h1
  go_wp2_with fail
  refine h2.mono ?_
  rintro e w2 ⟨rfl, hw⟩
  subst hw
  clear h2
  go_wp2_with fail
  refine hf.mono ?_
  rintro e w3 ⟨bf, K, d, rfl, hbf, hM, hF, hB⟩
  clear hf
  have hlk := hM.look_ok Try.underlying63 (zero3 w3) sa
  cases hk : hasB K a with
  | false =>
    have hv : intAt K d a = none := by unfold intAt; rw [if_neg (by rw [hk]; simp)]
    rw [hv] at hlk
    have HE : Aside0 (WayIs G a b w2 (.returned (.tuple #[.slice none 0 0, .bool false])) w3) := ⟨_, [], false, rfl, Kd.R_nil _ _ _ _ _, hB, fun h => (by cases h), fun _ => ⟨rfl, rfl, .inr (.inr (fun n hd => hasB_false.1 hk ((hF.all a).2 ⟨n, hd⟩)))⟩⟩
    clear hM hF hB
    go_wp2_with fail
    rw [Exit.noGoto_ret]
    first | go_ret2 | (refine bodyPost_ret (results_tmp2 rfl _ _ _) rfl ?_)
    exact HE.out
  | true =>
    have hv : intAt K d a = some (.int .i64 (d a : Int)) := by unfold intAt; rw [if_pos hk]
    rw [hv] at hlk
    have HM := Aside0.mk (And.intro hM (And.intro hF hB))
    clear hM hF hB
    go_wp2_with fail
    go_step3
    go_wp2_with fail
    have hs1 : w3.heap.size < (w3.alloc (Obj.cells #[Value.string a] 9)).heap.size := by rw [alloc_size]; omega
    have H0 : Aside0 (Kd.R Kd.string 9 (w3.alloc (Obj.cells #[Value.string a] 9)) w3.heap.size (fun _ => True) (.slice (some ⟨w3.heap.size, 0, none⟩) 1 1) [a] ∧ Below w3.heap.size w3 (w3.alloc (Obj.cells #[Value.string a] 9))) := ⟨by
      have h1 := World.ownsRow_lit (base := w3.heap.size) (e := 9) (size := 1) w3 #[.string a] 1 (Nat.le_refl _) (by simp [maxLen]) (by simp)
      exact Kd.R_of_own (by simpa using h1 : (w3.alloc (.cells #[.string a] 9)).ownsRow w3.heap.size 9 1 (.slice (some ⟨w3.heap.size, 0, none⟩) 1 1) 1 [Value.string a]) (fun _ _ => trivial), below_alloc (Below.refl _ w3) _⟩
    have hD0 := Aside0.mk (HM.out.2.1.far a (hasB_iff.1 hk))
    obtain ⟨W, hW⟩ : ∃ W, w3.alloc (Obj.cells #[Value.string a] 9) = W := ⟨_, rfl⟩
    rw [hW] at H0 ⊢
    clear hW hs1 hlk hv
    go_loopg [1, 9, 11] (d a + 1) (fun g v1 v9 v11 wr => ∃ (c : ByteArray) (n : Nat) (l : List ByteArray), v1 = .string c ∧ v9 = .int .i64 (n : Int) ∧ Aside0 (g = n + 1) ∧ Aside0 (Dist G.out n c b ∧ a :: steps G.out (nearK K d) (d a) a = l ++ steps G.out (nearK K d) n c) ∧ Aside0 (Kd.R Kd.string 9 wr w3.heap.size (fun _ => True) v11 l ∧ Below w3.heap.size w3 wr))
    case atStart => exact ⟨a, d a, [a], rfl, rfl, ⟨rfl⟩, ⟨hD0.out, rfl⟩, H0⟩
    case round =>
      obtain ⟨c, n, l, rfl, rfl, hgk, HD, HR⟩ := hrel
      clear H0
      cases n with
      | zero =>
        have HE : Aside0 (WayIs G a b w2 (.returned (.tuple #[u11, .bool true])) wr) := ⟨u11, l, true, rfl, Kd.R_lower HR.out.1 HM.out.2.2.size, below_then HM.out.2.2 HM.out.2.2.size HR.out.2, fun _ => ⟨HA.out.1, HA.out.2, K, d, HM.out.2.1, hasB_iff.1 hk, by rw [HD.out.2, steps, List.append_nil]⟩, fun h => (by cases h)⟩
        clear HD HR
        go_wp2_with fail
        rw [Exit.noGoto_ret]
        first | go_ret2 | (refine bodyPost_ret (results_tmp2 rfl _ _ _) rfl ?_)
        exact HE.out
      | succ n =>
        obtain ⟨x, hfx, hxo, hdx⟩ := step_there HM.out.2.1 HD.out.1
        have hc : c ∈ G.ns := stp_inside HG.out.good HD.out.1.1 HA.out.2
        have hgw := HG.out.below (HM.out.2.2.trans (HR.out.2.mono HM.out.2.2.size))
        have ho := out_calls hgw c (HG.out.good.short c hc)
        have hol := out_len HG.out c
        have hnb : n ≤ 100000 := by have := dist_bound HG.out.good HA.out.2 HD.out.1; have := HG.out.few; omega
        have c9 : decide ((0 : Int) < (n : Int) + 1) = true := decide_eq_true (by omega)
        have HX := Aside0.mk (And.intro hfx (And.intro hxo hdx))
        clear hfx hxo hdx hgw hc
        obtain ⟨wo, rfl⟩ : ∃ wo : World, wo = wr := ⟨_, rfl⟩
        obtain ⟨go, rfl⟩ : ∃ go : Nat, go = gk := ⟨_, rfl⟩
        go_wp2_with fail
        refine ho.mono ?_
        rintro e w5 ⟨v5, rfl, hR5, _, hB5⟩
        clear ho
        obtain ⟨A5, c5, rfl, hc5, hC5⟩ := Kd.R_reads hR5
        have HC5 := Aside0.mk (And.intro hC5 hB5)
        clear hR5 hC5 hc5 hB5
        go_wp2_with fail
        obtain ⟨U, rfl⟩ : ∃ U : Value, U = u11 := ⟨_, rfl⟩
        go_loopg [1, 11, 47] ((G.out c).length + 1) (fun g v1 v11 v47 wr2 => ∃ j : Nat, v1 = .string c ∧ v11 = U ∧ v47 = .int .i64 (j : Int) ∧ Aside0 (j + g = (G.out c).length + 1) ∧ Aside0 (∀ s, s ∈ (G.out c).take j → nearK K d n s = false) ∧ wr2 = w5)
        case atStart => exact ⟨0, rfl, rfl, rfl, ⟨by omega⟩, ⟨fun s hs => by rw [List.take_zero] at hs; cases hs⟩, rfl⟩
        case round =>
          obtain ⟨j, rfl, rfl, rfl, ⟨hjn⟩, HL, hww⟩ := hrel
          subst hww
          have hBw := HR.out.2.trans (HC5.out.2.mono HR.out.2.size)
          by_cases cj : j < (G.out c).length
          case neg =>
            have h1 := HL.out x (by rw [List.take_of_length_le (by omega)]; exact HX.out.2.1)
            rw [List.find?_some HX.out.1] at h1
            cases h1
          have cjb : decide ((j : Int) < ((G.out c).length : Int)) = true := decide_eq_true (by omega)
          obtain ⟨ad, rfl, hcell⟩ := Kd.at_string HC5.out.1 (j : Int) (Int.natCast_nonneg _) (by omega)
          rw [Int.toNat_natCast] at hcell
          have hx2 : rdOf ByteArray.empty (G.out c) (j : Int) = (G.out c)[j] := by
            unfold rdOf; rw [Int.toNat_natCast, List.getD_eq_getElem?_getD, List.getElem?_eq_getElem cj]; rfl
          rw [hx2] at hcell
          have htk : (G.out c).take (j + 1) = (G.out c).take j ++ [(G.out c)[j]] := List.take_succ_eq_append_getElem cj
          have hsz := HG.out.good.short _ (HG.out.good.inside c _ (List.getElem_mem cj))
          have hfind : nearK K d n (G.out c)[j] = true → (G.out c)[j] = x := fun hnr => by
            have h1 : (G.out c).find? (nearK K d n) = some (G.out c)[j] := by
              conv => lhs; rw [← List.take_append_drop j (G.out c)]
              rw [List.find?_append, List.find?_eq_none.2 (fun y hy => by rw [HL.out y hy]; decide), List.drop_eq_getElem_cons cj, List.find?_cons_of_pos hnr]
              rfl
            rw [HX.out.1] at h1
            exact (Option.some.inj h1).symm
          obtain ⟨e, hee⟩ : ∃ e, (G.out c)[j] = e := ⟨_, rfl⟩
          rw [hee] at hcell htk hsz hfind
          have hmap := HM.out.1.below hBw HM.out.1.lt
          have hlk := hmap.look_ok Try.underlying63 (zero3 wr) hsz
          have HKK := Aside0.mk (And.intro htk hfind)
          clear hx2 hee htk hfind hmap hBw
          cases hbe : hasB K e with
          | false =>
            have hbi : intAt K d e = none := by unfold intAt; rw [if_neg (by rw [hbe]; simp)]
            rw [hbi] at hlk
            have HL2 : Aside0 (∀ s, s ∈ (G.out c).take (j + 1) → nearK K d n s = false) := ⟨fun s hs => by
              rw [HKK.out.1] at hs
              rcases List.mem_append.1 hs with hs | hs
              · exact HL.out s hs
              · rw [List.mem_singleton] at hs; subst hs; unfold nearK; rw [hbe]; rfl⟩
            go_wp2_with fail
            go_roundg (gk - 1)
            case measure => omega
            case rel => exact ⟨j + 1, rfl, rfl, by first | rfl | (rw [w64_ (by omega) (by omega)]; rfl) | simp, ⟨by omega⟩, HL2, rfl⟩
          | true =>
            have hbi : intAt K d e = some (.int .i64 (d e : Int)) := by unfold intAt; rw [if_pos hbe]
            rw [hbi] at hlk
            by_cases hde : d e = n
            case neg =>
              have hdb : ((d e : Int) == (n : Int)) = false := beq_eq_false_iff_ne.2 (by omega)
              have HL2 : Aside0 (∀ s, s ∈ (G.out c).take (j + 1) → nearK K d n s = false) := ⟨fun s hs => by
                rw [HKK.out.1] at hs
                rcases List.mem_append.1 hs with hs | hs
                · exact HL.out s hs
                · rw [List.mem_singleton] at hs; subst hs; unfold nearK; rw [hbe, decide_eq_false hde]; rfl⟩
              go_wp2_with fail
              go_roundg (gk - 1)
              case measure => omega
              case rel => exact ⟨j + 1, rfl, rfl, by first | rfl | (rw [w64_ (by omega) (by omega)]; rfl) | simp, ⟨by omega⟩, HL2, rfl⟩
            have hdb : ((d e : Int) == (n : Int)) = true := beq_iff_eq.2 (by omega)
            have HE := Aside0.mk (HKK.out.2 (by unfold nearK; rw [hbe, decide_eq_true hde]; rfl))
            have hll : l.length ≤ 100001 := by
              have e1 := congrArg List.length HD.out.2
              rw [List.length_cons, List.length_append, steps_len HM.out.2.1 (d a) a hD0.out] at e1
              have := dist_bound HG.out.good HA.out.2 hD0.out
              have := HG.out.few
              omega
            have hRw : Kd.R Kd.string 9 wr w3.heap.size (fun _ => True) _ l := Kd.R_mono (Kd.R_below (Kd.R_bound HR.out.1) HC5.out.2) (fun _ _ => trivial)
            have hBw := HR.out.2.trans (HC5.out.2.mono HR.out.2.size)
            have hlw : w3.heap.size ≤ wr.heap.size := hBw.size
            clear hde hbi
            go_wp2_with (first | ((with_reducible refine gate_builtin (b := .append) (xs := #[.tmp 65, .tmp 67]) rfl ?_); at_builtin; refine Kd.R_append Kd.string (w0 := w3) (W := wr) w3.heap.size rfl (.tmp 65) (.tmp 67) 23 9 (.string ⟨#[]⟩) 16 rfl Try.underlying23 info9 rfl (by decide) (by omega) _ l e [.string e] (fun _ => True) (fun _ => False) rfl rfl rfl (fun _ hk => hk.elim) (fun k hk => trivial) hRw hBw hlw (by omega) ?_; intro v1 w6 h6 hb6 hg6 hat))
            have HN : Aside0 (Dist G.out n e b ∧ a :: steps G.out (nearK K d) (d a) a = (l ++ [e]) ++ steps G.out (nearK K d) n e) := ⟨by
              rw [HE.out]
              refine ⟨HX.out.2.2, ?_⟩
              rw [HD.out.2, steps, HX.out.1, List.append_assoc]
              rfl⟩
            have HR6 := Aside0.mk (And.intro h6 hb6)
            clear h6 hb6 hg6 hRw hBw hll hat HE HD HR hlk hcell
            go_wp2_with fail
            go_roundg (n + 1)
            case measure => have := hgk.out; omega
            case rel => exact ⟨e, n, l ++ [e], rfl, by first | rfl | (rw [w64_ (by omega) (by omega)]; congr 1; omega), ⟨rfl⟩, HN, HR6⟩
/-- (*Graph).Way, of any two names -/
theorem way_calls (hg : GMem w base role p G) (a b : ByteArray) (ha : a.size ≤ maxLen) (hb : b.size ≤ maxLen) : Calls Try.prog 14 #[.pointer (some ⟨p, 0, none⟩), .string a, .string b] w (WayIs G a b w) := by
  by_cases h1 : a ∈ G.ns
  · by_cases h2 : b ∈ G.ns
    · exact way_some hg a b h1 h2
    · exact way_none hg a b ha hb (.inr h2)
  · exact way_none hg a b ha hb (.inl h1)
end
end Go.Proofs.Ytmhbdgnajlnhnaa.P
