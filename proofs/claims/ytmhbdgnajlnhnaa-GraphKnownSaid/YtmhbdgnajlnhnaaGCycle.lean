/- Folded: GCmp, GOrder, GCycle. -/
import Derived.Test.YtmhbdgnajlnhnaaGW
import Derived.Test.YtmhbdgnajlnhnaaPlPure
import Derived.Test.YtmhbdgnajlnhnaaPxf27
import Derived.WalkLawsBesides
import Derived.Test.YtmhbdgnajlnhnaaGFar
import Derived.Test.YtmhbdgnajlnhnaaGWay
import Derived.Lib.SliceRun
/- slices.Compare of texts. -/
namespace Go.Proofs.Ytmhbdgnajlnhnaa.P
open Go.RowKit Go.Proofs.YtmhbdgnajlnhnaaW.PrintWords Go.Proofs.YtmhbdgnajlnhnaaW.PrintLast Go.Proofs.YtmhbdgnajlnhnaaW.PrintMore Go.Proofs.Ytmhbdgnajlnhnaa.Pl
set_option linter.unusedVariables false
set_option linter.unusedSimpArgs false
theorem nan_calls (a : ByteArray) (w : World) : Calls Try.prog 79 #[.string a] w fun e w' => e = .returned (.bool false) ∧ Drawn0 w w' := by
  refine cmp_isNaN_string.calls a false w ?_
  unfold cmp_isNaN_string.f
  simp
set_option maxRecDepth 100000 in
set_option maxHeartbeats 1000000 in
theorem cmp_calls (a b : ByteArray) (w : World) : Calls Try.prog 63 #[.string a, .string b] w fun e w' => e = .returned (.int .i64 (cmpI a b)) ∧ Drawn0 w w' := by
  have h1 := nan_calls a w
  have h2 := fun n => nan_calls b (w.drewN n)
  have HE : ∀ r, r = cmpI a b → Aside0 (Ending.returned (.int .i64 r) = .returned (.int .i64 (cmpI a b))) := fun r h => ⟨by rw [h]⟩
  by_cases c1 : ltB a b
  · have d1 : Op.bytesLess a.toList b.toList = true := by rw [less_eq, decide_eq_true c1]
    have HE := HE (-1) (by unfold cmpI; rw [if_pos c1])
    clear c1
    go_enter Try.func63, Try.ntmps63
    go_wp2_with fail
    refine h1.mono ?_
    rintro e w1 ⟨rfl, ⟨n1, rfl⟩⟩
    go_wp2_with fail
    refine (h2 _).mono ?_
    rintro e w2 ⟨rfl, ⟨n2, rfl⟩⟩
    clear h1 h2
    go_wp2_with fail
    go_ret
    exact ⟨HE.out, ⟨_, rfl⟩⟩
  · have d1 : Op.bytesLess a.toList b.toList = false := by rw [less_eq, decide_eq_false c1]
    by_cases c2 : a = b
    · subst c2
      have d2 : (a.toList == a.toList) = true := beq_self_eq_true _
      have HE := HE 0 (cmpI_zero.2 rfl).symm
      clear c1
      go_enter Try.func63, Try.ntmps63
      go_wp2_with fail
      refine h1.mono ?_
      rintro e w1 ⟨rfl, ⟨n1, rfl⟩⟩
      go_wp2_with fail
      refine (h2 _).mono ?_
      rintro e w2 ⟨rfl, ⟨n2, rfl⟩⟩
      clear h1 h2
      go_wp2_with fail
      go_ret
      exact ⟨HE.out, ⟨_, rfl⟩⟩
    · have d2 : (a.toList == b.toList) = false := beq_eq_false_iff_ne.2 (fun h => c2 (toList_eq.1 h))
      have HE := HE 1 (by unfold cmpI; rw [if_neg c1, if_pos (ltB_or c1 c2)])
      clear c1 c2
      go_enter Try.func63, Try.ntmps63
      go_wp2_with fail
      refine h1.mono ?_
      rintro e w1 ⟨rfl, ⟨n1, rfl⟩⟩
      go_wp2_with fail
      refine (h2 _).mono ?_
      rintro e w2 ⟨rfl, ⟨n2, rfl⟩⟩
      clear h1 h2
      go_wp2_with fail
      go_ret
      exact ⟨HE.out, ⟨_, rfl⟩⟩
set_option maxRecDepth 100000 in
set_option maxHeartbeats 1000000 in
theorem compare_calls {w : World} (A0 : Option Addr) (c0 : Nat) (l0 : List ByteArray) (A1 : Option Addr) (c1 : Nat) (l1 : List ByteArray) (h0 : Kd.string.C w A0 l0.length l0) (h1 : Kd.string.C w A1 l1.length l1) (s0 : l0.length ≤ 1000000) (s1 : l1.length ≤ 1000000) :
    Calls Try.prog 52 #[.slice A0 l0.length c0, .slice A1 l1.length c1] w fun e w' => e = .returned (.int .i64 (cmpL l0 l1)) ∧ Drawn0 w w' := by
  have H0 := Aside0.mk h0
  have H1 := Aside0.mk h1
  clear h0 h1
  go_enter Try.func52, Try.ntmps52
  go_wp2_with fail
  go_loopg [11] (l0.length + 1) (fun n v11 wr => ∃ (i nd : Nat), v11 = .int .i64 (i : Int) ∧ Aside0 ((i + n = l0.length + 1 ∧ i ≤ l0.length) ∧ i ≤ l1.length ∧ cmpL l0 l1 = cmpL (l0.drop i) (l1.drop i)) ∧ wr = w.drewN nd)
  case atStart => exact ⟨0, 0, rfl, ⟨⟨by omega, by omega⟩, by omega, by rw [List.drop_zero, List.drop_zero]⟩, (World.drewN_zero w).symm⟩
  case round =>
    obtain ⟨i, nd, rfl, HI, rfl⟩ := hrel
    have hi := HI.out.1.1
    have hi0 := HI.out.1.2
    have hi1 := HI.out.2.1
    by_cases ci : i < l0.length
    case neg =>
      have cib : decide ((i : Int) < (l0.length : Int)) = false := decide_eq_false (by omega)
      have e0 : l0.drop i = [] := List.drop_of_length_le (by omega)
      by_cases cl : l0.length < l1.length
      · have clb : decide ((l0.length : Int) < (l1.length : Int)) = true := decide_eq_true (by omega)
        have HE : Aside0 (Ending.returned (.int .i64 (-1)) = .returned (.int .i64 (cmpL l0 l1))) := ⟨by rw [HI.out.2.2, e0, List.drop_eq_getElem_cons (show i < l1.length by omega), cmpL]⟩
        clear HI e0
        go_wp2_with fail
        go_ret
        exact ⟨HE.out, ⟨_, rfl⟩⟩
      · have clb : decide ((l0.length : Int) < (l1.length : Int)) = false := decide_eq_false (by omega)
        have HE : Aside0 (Ending.returned (.int .i64 0) = .returned (.int .i64 (cmpL l0 l1))) := ⟨by rw [HI.out.2.2, e0, List.drop_of_length_le (l := l1) (by omega), cmpL]⟩
        clear HI e0
        go_wp2_with fail
        go_ret
        exact ⟨HE.out, ⟨_, rfl⟩⟩
    have cib : decide ((i : Int) < (l0.length : Int)) = true := decide_eq_true (by omega)
    obtain ⟨ad, rfl, hcell⟩ := Kd.at_string (w := w) H0.out (i : Int) (Int.natCast_nonneg _) (by omega)
    rw [Int.toNat_natCast, get_rd ci] at hcell
    by_cases cj : i < l1.length
    case neg =>
      have cjb : decide ((l1.length : Int) ≤ (i : Int)) = true := decide_eq_true (by omega)
      have HE : Aside0 (Ending.returned (.int .i64 1) = .returned (.int .i64 (cmpL l0 l1))) := ⟨by rw [HI.out.2.2, List.drop_eq_getElem_cons ci, List.drop_of_length_le (l := l1) (by omega), cmpL]⟩
      clear HI
      go_wp2_with fail
      go_ret
      exact ⟨HE.out, ⟨_, rfl⟩⟩
    have cjb : decide ((l1.length : Int) ≤ (i : Int)) = false := decide_eq_false (by omega)
    have cjc : decide ((i : Int) < (l1.length : Int)) = true := decide_eq_true (by omega)
    obtain ⟨ad1, rfl, hcell1⟩ := Kd.at_string (w := w) H1.out (i : Int) (Int.natCast_nonneg _) (by omega)
    rw [Int.toNat_natCast, get_rd cj] at hcell1
    have hd : cmpL l0 l1 = if cmpI l0[i] l1[i] = 0 then cmpL (l0.drop (i + 1)) (l1.drop (i + 1)) else cmpI l0[i] l1[i] := by
      rw [HI.out.2.2, List.drop_eq_getElem_cons ci, List.drop_eq_getElem_cons cj, cmpL]
    obtain ⟨x, hx⟩ : ∃ x, l0[i] = x := ⟨_, rfl⟩
    obtain ⟨y, hy⟩ : ∃ y, l1[i] = y := ⟨_, rfl⟩
    rw [hx, hy] at hd
    rw [hx] at hcell
    rw [hy] at hcell1
    have hc := cmp_calls x y (w.drewN nd)
    have HD := Aside0.mk hd
    clear hd hx hy HI
    go_wp2_with fail
    refine hc.mono ?_
    rintro e w2 ⟨rfl, ⟨n2, rfl⟩⟩
    clear hc
    by_cases cz : cmpI x y = 0
    · have czb : (cmpI x y != 0) = false := by rw [cz]; rfl
      have HN : Aside0 ((i + 1 + (gk - 1) = l0.length + 1 ∧ i + 1 ≤ l0.length) ∧ i + 1 ≤ l1.length ∧ cmpL l0 l1 = cmpL (l0.drop (i + 1)) (l1.drop (i + 1))) := ⟨⟨by omega, by omega⟩, by omega, by rw [HD.out, if_pos cz]⟩
      clear HD cz
      go_wp2_with fail
      go_roundg (gk - 1)
      case measure => omega
      case rel => exact ⟨i + 1, _, by first | rfl | (rw [w64_ (by omega) (by omega)]; rfl) | simp, HN, rfl⟩
    · have czb : (cmpI x y != 0) = true := bne_iff_ne.2 cz
      have HE : Aside0 (Ending.returned (.int .i64 (cmpI x y)) = .returned (.int .i64 (cmpL l0 l1))) := ⟨by rw [HD.out, if_neg cz]⟩
      clear HD cz
      go_wp2_with fail
      go_ret
      exact ⟨HE.out, ⟨_, rfl⟩⟩
end Go.Proofs.Ytmhbdgnajlnhnaa.P
/- (*Graph).Order: each name behind those that it asks. -/
namespace Go.Proofs.Ytmhbdgnajlnhnaa.P
open Go.RowKit Go.Maps Go.MapKept Go.ChangeMaps Go.Proofs.YtmhbdgnajlnhnaaW.PrintWords Go.Proofs.YtmhbdgnajlnhnaaW.PrintLast Go.Proofs.YtmhbdgnajlnhnaaW.PrintMore Go.Proofs.Ytmhbdgnajlnhnaa.Pl
set_option linter.unusedVariables false
set_option linter.unusedSimpArgs false
/-- how many names each name that is left still lacks -/
def cntF (G : GG) (L : List ByteArray) (s : ByteArray) : Option Value := if (hasB G.ns s && !hasB L s) = true then some (.int .i64 (cntO G L s : Int)) else none
/-- the same, while the names behind one are told -/
def cntM (G : GG) (L : List ByteArray) (x : ByteArray) (lf : ByteArray → Bool) (s : ByteArray) : Option Value :=
  if (hasB G.ns s && !hasB (L ++ [x]) s) = true then some (.int .i64 ((if (hasB (G.inn x) s && !lf s) = true then cntO G (L ++ [x]) s else cntO G L s : Nat) : Int)) else none
theorem cntF_some {G : GG} {L : List ByteArray} {s : ByteArray} : (cntF G L s).isSome = true ↔ s ∈ restO G L := by
  unfold cntF
  rw [mem_restO]
  by_cases h : (hasB G.ns s && !hasB L s) = true
  · rw [if_pos h]
    rw [Bool.and_eq_true, Bool.not_eq_true', hasB_iff, hasB_false] at h
    exact ⟨fun _ => h, fun _ => rfl⟩
  · rw [if_neg h]
    rw [Bool.and_eq_true, Bool.not_eq_true', hasB_iff, hasB_false] at h
    exact ⟨fun h' => (by cases h'), fun h' => absurd h' h⟩
theorem cntM_some {G : GG} {L : List ByteArray} {x s : ByteArray} {lf : ByteArray → Bool} : s ∈ restO G (L ++ [x]) ↔ (cntM G L x lf s).isSome = true := by
  unfold cntM
  rw [mem_restO]
  by_cases h : (hasB G.ns s && !hasB (L ++ [x]) s) = true
  · rw [if_pos h]
    rw [Bool.and_eq_true, Bool.not_eq_true', hasB_iff, hasB_false] at h
    exact ⟨fun _ => rfl, fun _ => h⟩
  · rw [if_neg h]
    rw [Bool.and_eq_true, Bool.not_eq_true', hasB_iff, hasB_false] at h
    exact ⟨fun h' => absurd h' h, fun h' => (by cases h')⟩
theorem cntF_in {G : GG} {L : List ByteArray} {s : ByteArray} (h : s ∈ restO G L) : cntF G L s = some (.int .i64 (cntO G L s : Int)) := by
  unfold cntF
  rw [mem_restO] at h
  rw [if_pos (by rw [Bool.and_eq_true, Bool.not_eq_true', hasB_iff, hasB_false]; exact h)]
theorem cntM_start (G : GG) (L : List ByteArray) (x : ByteArray) : upd (cntF G L) x none = cntM G L x (fun s => (if hasB (G.inn x) s = true then some (Value.bool true) else none).isSome) := by
  funext s
  unfold cntM
  by_cases e : s = x
  · subst e
    rw [upd_same, if_neg]
    rw [hasB_snoc]; simp
  · rw [upd_other _ e]
    unfold cntF
    have h1 : hasB (L ++ [x]) s = hasB L s := by rw [hasB_snoc, decide_eq_false (fun h => e h.symm), Bool.or_false]
    rw [h1]
    have h2 : (hasB (G.inn x) s && !(if hasB (G.inn x) s = true then some (Value.bool true) else none).isSome) = false := by
      cases hasB (G.inn x) s <;> rfl
    rw [h2, if_neg (show ¬ (false = true) by decide)]
theorem cntM_end {G : GG} (hG : GOk G) {L : List ByteArray} {x : ByteArray} {lf : ByteArray → Bool} (hx : x ∉ L) (h : ∀ s, s ∈ G.inn x → lf s = false) : cntM G L x lf = cntF G (L ++ [x]) := by
  funext s
  unfold cntM cntF
  by_cases hc : (hasB G.ns s && !hasB (L ++ [x]) s) = true
  · rw [if_pos hc, if_pos hc]
    by_cases hi : hasB (G.inn x) s = true
    · rw [if_pos (by rw [hi, h s (hasB_iff.1 hi)]; rfl)]
    · rw [if_neg (by rw [Bool.not_eq_true] at hi; rw [hi]; simp)]
      have := cntO_snoc hG (u := s) hx
      rw [if_neg (fun h => hi (hasB_iff.2 ((GG.mem_inn hG s x).2 (hasB_iff.1 h))))] at this
      rw [this]; rfl
  · rw [if_neg hc, if_neg hc]
theorem cntM_step {G : GG} (hG : GOk G) {L : List ByteArray} {x u : ByteArray} {lf : ByteArray → Bool} (hu : u ∈ G.inn x) (hr : u ∈ restO G (L ++ [x])) :
    upd (cntM G L x lf) u (some (.int .i64 ((cntO G (L ++ [x]) u : Nat) : Int))) = cntM G L x (fun t => lf t && !decide (t = u)) := by
  funext s
  by_cases e : s = u
  · subst e
    rw [upd_same]
    unfold cntM
    rw [mem_restO] at hr
    rw [if_pos (by rw [Bool.and_eq_true, Bool.not_eq_true', hasB_iff, hasB_false]; exact hr), if_pos (by rw [hasB_iff.2 hu]; simp)]
  · rw [upd_other _ e]
    unfold cntM
    have : (lf s && !decide (s = u)) = lf s := by rw [decide_eq_false e]; simp
    show (if _ then some (Value.int .i64 ((if (hasB (G.inn x) s && !lf s) = true then _ else _ : Nat) : Int)) else none) = (if _ then some (Value.int .i64 ((if (hasB (G.inn x) s && !(lf s && !decide (s = u))) = true then _ else _ : Nat) : Int)) else none)
    rw [this]
/-- the order's memory: the map of what is left, at the block h, and the row -/
structure OMem (w : World) (h n : Nat) (f : ByteArray → Option Value) (ok : Nat → Prop) (v : Value) (L : List ByteArray) (wr : World) : Prop where
  below : Below w.heap.size w wr
  map : MapV wr h n f
  row : Kd.R Kd.string 9 wr (w.heap.size + 1) ok v L
theorem OMem.put {w wr w' : World} {h n n' : Nat} {f f' : ByteArray → Option Value} {ok : Nat → Prop} {v : Value} {L : List ByteArray} (m : OMem w h n f ok v L wr) (hh : w.heap.size = h) (hm : MapV w' h n' f') (hg : wr.grownBy w' (some h)) : OMem w h n' f' ok v L w' :=
  ⟨m.below.trans (pw_below_grown (Below.refl _ wr) _ m.below.size hg (fun k hk => by have := Option.some.inj hk; omega)), hm, Kd.R_mono (Kd.R_grown (Kd.R_bound m.row) hg (fun k hk e => by have := Option.some.inj e; have := hk.2.1; omega)) (fun k hk => hk.1)⟩
theorem OMem.grow {w wr w' : World} {h n : Nat} {f : ByteArray → Option Value} {ok : Nat → Prop} {v : Value} {L : List ByteArray} {row : Option Nat} (m : OMem w h n f ok v L wr) (hh : w.heap.size = h) (hg : wr.grownBy w' row) (hr : ∀ k, row = some k → wr.heap.size ≤ k ∨ (w.heap.size < k ∧ ¬ ok k)) : OMem w h n f ok v L w' :=
  ⟨m.below.trans (pw_below_grown (Below.refl _ wr) _ m.below.size hg (fun k hk => by have := m.below.size; rcases hr k hk with h | h <;> omega)), m.map.kept hg (fun e => by have := m.map.lt; rcases hr h e.symm with h' | h' <;> omega), Kd.R_mono (Kd.R_grown (Kd.R_bound m.row) hg (fun k hk e => by rcases hr k e.symm with h | h; have := hk.2.2.1; omega; exact h.2 hk.1)) (fun k hk => hk.1)⟩
theorem OMem.bel {w wr w' : World} {h n : Nat} {f : ByteArray → Option Value} {ok : Nat → Prop} {v : Value} {L : List ByteArray} (m : OMem w h n f ok v L wr) (hb : Below wr.heap.size wr w') : OMem w h n f ok v L w' :=
  ⟨m.below.trans (hb.mono m.below.size), m.map.below hb m.map.lt, Kd.R_mono (Kd.R_below (Kd.R_bound m.row) hb) (fun k hk => hk.1)⟩
theorem OMem.weak {w wr : World} {h n : Nat} {f : ByteArray → Option Value} {ok ok' : Nat → Prop} {v : Value} {L : List ByteArray} (m : OMem w h n f ok v L wr) (hk : ∀ k, ok k → k < wr.heap.size → ok' k) : OMem w h n f ok' v L wr :=
  ⟨m.below, m.map, Kd.R_mono (Kd.R_bound m.row) (fun k hk' => hk k hk'.1 hk'.2.2.1)⟩
section
variable {base p : Nat} {role : Nat → Role} {G : GG} {w : World}
def OrderIs (G : GG) (w : World) (e : Ending) (w' : World) : Prop :=
  ∃ v : Value, e = .returned (.tuple #[v, .bool (orderG G).2]) ∧ Kd.R Kd.string 9 w' w.heap.size (fun _ => True) v (orderG G).1 ∧ Below w.heap.size w w'
set_option maxRecDepth 1000000 in
set_option maxHeartbeats 4000000 in
theorem order_calls (hg : GMem w base role p G) : Calls Try.prog 32 #[.pointer (some ⟨p, 0, none⟩)] w (OrderIs G w) := by
  have hmm := fun (W : World) => @run_makeMap Try.prog 63 W
  have HG := Aside0.mk hg
  obtain ⟨bo, bi, ob, ib, k0, k1, hO, hI⟩ := hg.cells
  have hfew := hg.few
  have hpl : p < w.heap.size := (hg.bound p (by rw [hg.self]; simp)).2
  have j0 := cell_of (w' := w.alloc (.map #[] 0)) k0 (alloc_old hpl)
  have H1 : Aside0 (MapV (w.alloc (.map #[] 0)) w.heap.size 0 (fun _ => none) ∧ Below w.heap.size w (w.alloc (.map #[] 0))) := ⟨MapV.made w, (Below.refl _ w).alloc (Nat.le_refl _) _⟩
  have hOt := hO.top.step (w' := w.alloc (.map #[] 0)) (alloc_old hO.top.lt)
  have HOI := Aside0.mk (And.intro hO hI)
  have K1 := Aside0.mk k1
  clear hg hO hI k0 k1
  go_enter Try.func32, Try.ntmps32
  go_wp2_with fail
  go_step3
  go_wp2_with (first | (at_range; refine range_event rfl rfl Try.underlying68 rfl hOt ?_; intro wr0 cnt hr0 hgr0 hsr0 hcnt))
  have hr0b : w.heap.size + 1 < wr0.heap.size := by rw [hsr0, alloc_size]; omega
  obtain ⟨r, hr⟩ : ∃ r, (w.alloc (.map #[] 0)).heap.size = r := ⟨_, rfl⟩
  have hrw : r = w.heap.size + 1 := by rw [← hr, alloc_size]
  have HR0 := Aside0.mk hr0
  rw [hr] at HR0 ⊢
  obtain ⟨h, hh⟩ : ∃ h, w.heap.size = h := ⟨_, rfl⟩
  have HS0 : Aside0 (OMem w h 0 (fun s => if (hasB G.ns s && !(if hasB G.ns s = true then some (Value.map (some (ob s))) else none).isSome) = true then some (.int .i64 ((G.out s).length : Int)) else none) (fun k => k ≠ r) (.slice none 0 0) [] wr0) := ⟨by
    have := (OMem.mk (ok := fun k => k ≠ r) H1.out.2 H1.out.1 (Kd.R_nil _ _ _ _ _)).grow rfl hgr0 (fun k e => by cases e)
    rw [hh] at this
    have e : (fun s => if (hasB G.ns s && !(if hasB G.ns s = true then some (Value.map (some (ob s))) else none).isSome) = true then some (Value.int .i64 ((G.out s).length : Int)) else none) = fun _ => none := by
      funext s
      cases hasB G.ns s <;> rfl
    rw [e]
    exact this⟩
  rw [hh]
  have HH := Aside0.mk (And.intro hh hrw)
  have HP := Aside0.mk hpl
  clear hr0 hgr0 hsr0 hOt H1 hr j0 hh hpl hrw
  simp only [Act.put, List.setIfInBounds_toArray, List.set_cons_zero, List.set_cons_succ]
  go_loopg [5] (cnt + 1) (fun n v5 wr2 => ∃ (lf : ByteArray → Bool) (c k : Nat), Aside0 (n = c + 1) ∧ Aside0 (RangeV wr2 bo r G.ns.length (fun s => if hasB G.ns s = true then some (.map (some (ob s))) else none) lf c) ∧
    Aside0 (OMem w h k (fun s => if (hasB G.ns s && !lf s) = true then some (.int .i64 ((G.out s).length : Int)) else none) (fun k => k ≠ r) (.slice none 0 0) [] wr2 ∧ k + c ≤ G.ns.length))
  case atStart => exact ⟨_, cnt, 0, ⟨rfl⟩, HR0, ⟨HS0.out, by omega⟩⟩
  case round =>
    obtain ⟨lf, c, k, hn, HR, HO⟩ := hrel
    clear HS0 HR0
    go_wp2_with (first | (at_next; refine next_event rfl rfl rfl HR.out ?_ ?_))
    · intro hd
      have HE : Aside0 (OMem w h G.ns.length (cntF G []) (fun _ => True) (.slice none 0 0) [] wr) := ⟨by
        have e : (fun s => if (hasB G.ns s && !lf s) = true then some (Value.int .i64 ((G.out s).length : Int)) else none) = cntF G [] := by
          funext s
          unfold cntF
          by_cases hs : hasB G.ns s = true
          · rw [hd s (HG.out.good.short s (hasB_iff.1 hs))]
            rw [cntO_nil]; rfl
          · rw [Bool.not_eq_true] at hs
            rw [hs]; rfl
        have := HO.out.1
        rw [e] at this
        have hm := this.map.more (m := G.ns.length) (by have := HO.out.2; omega)
        exact ⟨this.below, hm, Kd.R_nil _ _ _ _ _⟩⟩
      clear hd HO HR hn
      go_wp2_with fail
      go_step3
      go_wp2_with fail
      go_loopg [7] (G.ns.length + 2) (fun n v7 wr2 => ∃ (L : List ByteArray) (fu : Nat), Aside0 (n = fu + 1 ∧ L.length + fu = G.ns.length + 1) ∧ Aside0 (OOk G L ∧ orderGo G fu L = orderG G) ∧ Aside0 (OMem w h G.ns.length (cntF G L) (fun _ => True) v7 L wr2))
      case atStart => exact ⟨[], G.ns.length + 1, ⟨rfl, by simp⟩, ⟨OOk.nil G, rfl⟩, HE⟩
      case round =>
        obtain ⟨L, fu, hn, HL, HO⟩ := hrel
        clear HE
        have hlr := len_restO HG.out.good HL.out.1
        cases fu with
        | zero => have := hn.out; omega
        | succ fu =>
        have hln := fun ty => HO.out.map.len Try.underlying63 ty (restO G L) (ss_nodup (ss_restO HG.out.good L)) (fun s => cntF_some.symm)
        have hsr := sortedI_calls HO.out.map (by omega) (ss_restO HG.out.good L) (fun s => cntF_some.symm)
        have hNX := Aside0.mk (nextO_rest G L)
        have hRM := Aside0.mk (fun s => (mem_restO (G := G) (L := L) (s := s)))
        obtain ⟨Rl, hRl⟩ : ∃ Rl, restO G L = Rl := ⟨_, rfl⟩
        rw [hRl] at hlr hln hsr hNX hRM
        have HRl := Aside0.mk hRl
        clear hRl
        by_cases hz : Rl.length = 0
        · have HE : Aside0 (OrderIs G w (.returned (.tuple #[u7, .bool true])) wr) := ⟨by
            have e : orderG G = (L, true) := by rw [← HL.out.2]; exact orderGo_all (by omega)
            unfold OrderIs
            rw [e]
            exact ⟨u7, rfl, Kd.R_lower HO.out.row (by omega), HO.out.below⟩⟩
          have hz2 : Rl = [] := List.eq_nil_of_length_eq_zero hz
          subst hz2
          clear HL HO hsr hNX hRM HRl hlr hz hn
          have hln : ∀ ty, (Builtin.len_ #[63] ty #[.map (some h)]).run Try.prog wr = .ok (.int .i64 0) wr := hln
          go_wp2_with fail
          rw [Exit.noGoto_ret]
          first | go_ret2 | (refine bodyPost_ret (results_tmp2 rfl _ _ _) rfl ?_)
          exact HE.out
        · have c30 : decide ((0 : Int) < (Rl.length : Int)) = true := decide_eq_true (by omega)
          have c30' : 0 < Rl.length := by omega
          obtain ⟨wo, rfl⟩ : ∃ wo : World, wo = wr := ⟨_, rfl⟩
          obtain ⟨go, rfl⟩ : ∃ go : Nat, go = gk := ⟨_, rfl⟩
          obtain ⟨U, rfl⟩ : ∃ U : Value, U = u7 := ⟨_, rfl⟩
          go_wp2_with fail
          refine hsr.mono ?_
          rintro e w5 ⟨v5, rfl, hR5, _, hB5⟩
          obtain ⟨A5, c5, rfl, hc5, hC5⟩ := Kd.R_reads hR5
          have HO5 := Aside0.mk (HO.out.bel hB5)
          have HC5 := Aside0.mk hC5
          clear hsr hR5 hC5 hc5 hB5 HO hln
          go_wp2_with fail
          go_loopg [7, 34] (Rl.length + 1) (fun n v7 v34 wr2 => ∃ j : Nat, v7 = U ∧ v34 = .int .i64 (j : Int) ∧ Aside0 (j + n = Rl.length + 1) ∧ Aside0 (∀ s, s ∈ Rl.take j → freeB G L s = false) ∧ wr2 = w5)
          case atStart => exact ⟨0, rfl, rfl, ⟨by omega⟩, ⟨fun s hs => by rw [List.take_zero] at hs; cases hs⟩, rfl⟩
          case round =>
            obtain ⟨j, rfl, rfl, ⟨hjn⟩, HF, hww⟩ := hrel
            subst hww
            by_cases cj : j < Rl.length
            case neg =>
              have cjb : decide ((j : Int) < (Rl.length : Int)) = false := decide_eq_false (by omega)
              have HE : Aside0 (OrderIs G w (.returned (.tuple #[.slice none 0 0, .bool false])) wr) := ⟨by
                have hN : nextO G L = none := by
                  rw [hNX.out]
                  refine List.find?_eq_none.2 (fun y hy => ?_)
                  rw [HF.out y (by rw [List.take_of_length_le (by omega)]; exact hy)]
                  decide
                have e : orderG G = ([], false) := by rw [← HL.out.2]; exact orderGo_none (by omega) hN
                unfold OrderIs
                rw [e]
                exact ⟨_, rfl, Kd.R_nil _ _ _ _ _, HO5.out.below⟩⟩
              clear HL HO5 HF hNX hRM HRl hlr hn
              go_wp2_with fail
              rw [Exit.noGoto_ret]
              first | go_ret2 | (refine bodyPost_ret (results_tmp2 rfl _ _ _) rfl ?_)
              exact HE.out
            have cjb : decide ((j : Int) < (Rl.length : Int)) = true := decide_eq_true (by omega)
            obtain ⟨ad, rfl, hcell⟩ := Kd.at_string HC5.out (j : Int) (Int.natCast_nonneg _) (by omega)
            rw [Int.toNat_natCast] at hcell
            have hx2 : rdOf ByteArray.empty Rl (j : Int) = Rl[j] := by
              unfold rdOf; rw [Int.toNat_natCast, List.getD_eq_getElem?_getD, List.getElem?_eq_getElem cj]; rfl
            rw [hx2] at hcell
            have htk : Rl.take (j + 1) = Rl.take j ++ [Rl[j]] := List.take_succ_eq_append_getElem cj
            have hin := (hRM.out _).1 (List.getElem_mem cj)
            have hfind : freeB G L Rl[j] = true → nextO G L = some Rl[j] := fun hf => by
              rw [hNX.out]
              conv => lhs; rw [← List.take_append_drop j Rl]
              rw [List.find?_append, List.find?_eq_none.2 (fun y hy => by rw [HF.out y hy]; decide), List.drop_eq_getElem_cons cj, List.find?_cons_of_pos hf]
              rfl
            obtain ⟨a, hae⟩ : ∃ a, Rl[j] = a := ⟨_, rfl⟩
            rw [hae] at hcell htk hin hfind
            have hsz := HG.out.good.short a hin.1
            have hlk : (Instr.lookup 63 (.map (some h)) (.string a) false).run Try.prog wr = .ok (.int .i64 (cntO G L a : Int)) wr := by
              rw [HO5.out.map.look Try.underlying63 (zero3 wr) hsz, cntF_in (mem_restO.2 hin)]; rfl
            have HKK := Aside0.mk (And.intro htk (And.intro hfind hin))
            clear hx2 hae htk hfind hin
            by_cases hc0 : cntO G L a = 0
            case neg =>
              have HF2 : Aside0 (∀ s, s ∈ Rl.take (j + 1) → freeB G L s = false) := ⟨fun s hs => by
                rw [HKK.out.1] at hs
                rcases List.mem_append.1 hs with hs | hs
                · exact HF.out s hs
                · rw [List.mem_singleton] at hs; subst hs
                  rw [← Bool.not_eq_true, ← cntO_zero]; exact hc0⟩
              have c41 : decide ((0 : Int) < (cntO G L a : Int)) = true := decide_eq_true (by omega)
              have c41' : 0 < cntO G L a := by omega
              clear hc0
              go_wp2_with fail
              go_roundg (gk - 1)
              case measure => omega
              case rel => exact ⟨j + 1, rfl, by first | rfl | (rw [w64_ (by omega) (by omega)]; rfl) | simp, ⟨by omega⟩, HF2, rfl⟩
            have hfr := cntO_zero.1 hc0
            have hlk2 : (Instr.lookup 63 (.map (some h)) (.string a) false).run Try.prog wr = .ok (.int .i64 0) wr := by rw [hlk, hc0]; rfl
            clear hlk
            have HX := Aside0.mk (And.intro hfr (HKK.out.2.1 hfr))
            have hun : a ∈ G.ns := HKK.out.2.2.1
            have hnL : a ∉ L := HKK.out.2.2.2
            have hbd := (Kd.R_bound HO5.out.row).1
            have hrow := HO5.out.row
            have hle5 : w.heap.size + 1 ≤ wr.heap.size := by have := HO5.out.map.lt; have := HH.out; omega
            clear hc0 HF
            go_wp2_with (first
              | (
                (with_reducible refine gate_builtin (b := .append) (xs := #[.tmp 42, .tmp 44]) rfl ?_)
                at_builtin
                refine Kd.R_append Kd.string (w0 := wr) (W := wr) (w.heap.size + 1) rfl (.tmp 42) (.tmp 44) 23 9 (.string ⟨#[]⟩) 16 rfl Try.underlying23 info9 rfl (by decide) (by omega) _ L a [.string a] (fun _ => True) (fun _ => False) rfl rfl rfl (fun _ hk => hk.elim) (fun k hk => trivial) hrow (Below.refl _ _) hle5 (by omega) ?_
                intro v1 w6 h6 hb6 hg6 hat
                have HM6 : Aside0 (OMem w h G.ns.length (cntF G L) (fun _ => True) v1 (L ++ [a]) w6) := ⟨⟨HO5.out.below.trans (pw_below_grown (Below.refl _ wr) _ HO5.out.below.size hg6 (fun k hk => by have := (hbd k hk).2.1; omega)), HO5.out.map.kept hg6 (fun e => by have := (hbd _ e.symm).2.1; have := HH.out; omega), Kd.R_mono h6 (fun _ _ => trivial)⟩⟩
                obtain ⟨w7, hdel, hM7, hg7, hs7⟩ := HM6.out.map.del Try.underlying63 hsz 0
                have HM7 : Aside0 (OMem w h G.ns.length (cntM G L a (fun s => (if hasB (G.inn a) s = true then some (Value.bool true) else none).isSome)) (fun _ => True) v1 (L ++ [a]) w7) := ⟨by rw [← cntM_start]; exact HM6.out.put HH.out.1 hM7 hg7⟩
                have hI7 := (HOI.out.2.sub a hun).below HM7.out.below (HOI.out.2.sub a hun).lt
                have k7 := cell_of (w' := w7) K1.out (HM7.out.below.block p HP.out)
                have hl7 : (Instr.lookup 68 (.map (some bi)) (.string a) false).run Try.prog w7 = .ok (.map (some (ib a))) w7 := by
                  have := (HOI.out.2.step (w' := w7) (HM7.out.below.block _ HOI.out.2.top.lt) (fun s hs => HM7.out.below.block _ (HOI.out.2.sub s hs).lt)).look hsz
                  rw [if_pos (hasB_iff.2 hun)] at this
                  exact this
                clear HM6 hM7 hg7 hs7 h6 hb6 hg6 hat)
              | (at_range; refine range_event rfl rfl Try.underlying73 rfl hI7 ?_; intro wr8 cnt8 hr8 hgr8 hs8 hcnt8))
            obtain ⟨r8, hr8e⟩ : ∃ r8, w7.heap.size = r8 := ⟨_, rfl⟩
            have HR8 := Aside0.mk hr8
            rw [hr8e] at HR8 ⊢
            have hr8h : w.heap.size < r8 := by have := HM7.out.map.lt; have := HH.out; omega
            have HM8 : Aside0 (OMem w h G.ns.length (cntM G L a (fun s => (if hasB (G.inn a) s = true then some (Value.bool true) else none).isSome)) (fun k => k ≠ r8) v1 (L ++ [a]) wr8) :=
              ⟨(HM7.out.weak (ok' := fun k => k ≠ r8) (fun k _ hk => by omega)).grow HH.out.1 hgr8 (fun k e => by cases e)⟩
            have HSN := Aside0.mk (HL.out.1.snoc HG.out.good (mem_restO.2 HKK.out.2.2) HX.out.1)
            have hOG : orderGo G fu (L ++ [a]) = orderG G := by
              rw [← HL.out.2]
              exact (orderGo_some (by omega) HX.out.2).symm
            have HOG := Aside0.mk hOG
            have hrl : (restO G (L ++ [a])).length ≤ G.ns.length := List.length_filter_le _ _
            have HRS := Aside0.mk (ss_nodup (ss_restO HG.out.good (L ++ [a])))
            clear hr8 hgr8 hs8 hI7 k7 hl7 hdel HM7 hr8e hlk2 hcell hOG hbd hle5
            go_loopg [10] (cnt8 + 1) (fun n v10 wr2 => ∃ (lf : ByteArray → Bool) (c : Nat), Aside0 (n = c + 1) ∧ Aside0 (RangeV wr2 (ib a) r8 (G.inn a).length (fun t => if hasB (G.inn a) t = true then some (.bool true) else none) lf c) ∧
              Aside0 (OMem w h G.ns.length (cntM G L a lf) (fun k => k ≠ r8) v1 (L ++ [a]) wr2))
            case atStart => exact ⟨_, cnt8, ⟨rfl⟩, HR8, HM8⟩
            case round =>
              obtain ⟨lf, c, hn9, HR, HM⟩ := hrel
              clear HR8 HM8
              go_wp2_with (first | (at_next; refine next_event rfl rfl rfl HR.out ?_ ?_))
              · intro hd
                have HE : Aside0 (OMem w h G.ns.length (cntF G (L ++ [a])) (fun _ => True) v1 (L ++ [a]) wr) := ⟨by
                  rw [← cntM_end HG.out.good hnL (fun s hs => hd s (HG.out.good.short s (List.mem_filter.1 hs).1))]
                  exact HM.out.weak (fun _ _ _ => trivial)⟩
                clear hd HM HR
                go_wp2_with fail
                go_roundg (fu + 1)
                case measure => have := hn.out; omega
                case rel => exact ⟨L ++ [a], fu, ⟨rfl, by have := hn.out; simp; omega⟩, ⟨HSN.out, HOG.out⟩, HE⟩
              · intro u v w9 c9' hs hlf hfs hvv hr1 hlt9 hg9 hsz9 hen
                subst hvv
                have huI : u ∈ G.inn a := hasB_iff.1 hfs
                have hur := inn_rest HG.out.good HL.out.1 (mem_restO.2 HKK.out.2.2) HX.out.1 huI
                have hm9 := HM.out.grow HH.out.1 hg9 (fun k hk => by have := Option.some.inj hk; subst this; exact .inr ⟨hr8h, fun h => h rfl⟩)
                have hcs := cntO_snoc HG.out.good (u := u) hnL
                rw [if_pos (hasB_iff.2 ((GG.mem_inn HG.out.good u a).1 huI))] at hcs
                have hcl := cntO_le G (L ++ [a]) u
                have hol := out_len HG.out u
                have hst := cntM_step (lf := lf) HG.out.good huI hur
                have hcf : cntM G L a lf u = some (.int .i64 ((cntO G L u : Nat) : Int)) := by
                  unfold cntM
                  rw [mem_restO] at hur
                  rw [if_pos (by rw [Bool.and_eq_true, Bool.not_eq_true', hasB_iff, hasB_false]; exact hur), hfs, hlf]
                  rfl
                obtain ⟨cu, hcu⟩ : ∃ cu, cntO G (L ++ [a]) u = cu := ⟨_, rfl⟩
                rw [hcu] at hcs hcl hst
                rw [hcs] at hcf
                have hlk : (Instr.lookup 63 (.map (some h)) (.string u) false).run Try.prog w9 = .ok (.int .i64 ((cu : Int) + 1)) w9 := by
                  rw [hm9.map.look Try.underlying63 (zero3 w9) hs, hcf]; rfl
                obtain ⟨w10, hrun, hM10, hg10, hs10⟩ := hm9.map.put Try.underlying63 (lt9 (by omega)) hs (.int .i64 (cu : Int))
                rw [hst] at hM10
                have hM10' := (hM10.tight (restO G (L ++ [a])) HRS.out (fun s => cntM_some)).more hrl
                have HO10 := Aside0.mk (hm9.put HH.out.1 hM10' hg10)
                have HR10 := Aside0.mk (hr1.kept hg10 (fun e => by have := Option.some.inj e; have := (HOI.out.2.sub a hun).lt; have := HH.out; omega) (fun e => by have := Option.some.inj e; have := HH.out; omega))
                clear hM10 hM10' hg10 hs10 hm9 hst hcf hcs hr1 hg9 hsz9 hfs hlf HM HR hur huI hcu
                go_wp2_with fail
                go_roundg (c9' + 1)
                case measure => have := hn9.out; omega
                case rel => exact ⟨_, c9', ⟨rfl⟩, HR10, HO10⟩
    · intro s v w3 c' hs hlf hfs hvv hr1 hlt3 hg3 hsz3 hen
      have hsn : s ∈ G.ns := hasB_iff.1 hfs
      subst hvv
      have hrw : w.heap.size < r := by have := HH.out; omega
      have hm3 := HO.out.1.grow HH.out.1 hg3 (fun k hk => by have := Option.some.inj hk; subst this; exact .inr ⟨hrw, fun h => h rfl⟩)
      have hsub := (HOI.out.1.sub s hsn).below hm3.below (HOI.out.1.sub s hsn).lt
      have hln := fun ty => hsub.len Try.underlying73 ty (G.out s) (ss_nodup (HG.out.good.outs s)) (fun t => by rw [← hasB_iff]; cases hasB (G.out s) t <;> simp)
      obtain ⟨w4, hrun, hM4, hg4, hs4⟩ := hm3.map.put Try.underlying63 (by have := HO.out.2; exact lt9 (by omega)) hs (.int .i64 ((G.out s).length : Int))
      have hr4 := hr1.kept hg4 (fun e => by have := Option.some.inj e; have := HOI.out.1.top.lt; have := HH.out; omega) (fun e => by have := Option.some.inj e; have := HH.out; omega)
      have HR4 := Aside0.mk hr4
      have HO4 : Aside0 (OMem w h (k + 1) (fun t => if (hasB G.ns t && !(lf t && !decide (t = s))) = true then some (.int .i64 ((G.out t).length : Int)) else none) (fun k => k ≠ r) (.slice none 0 0) [] w4 ∧ k + 1 + c' ≤ G.ns.length) := ⟨by
        refine ⟨hm3.put HH.out.1 ?_ hg4, by have := HO.out.2; omega⟩
        have e : upd (fun s => if (hasB G.ns s && !lf s) = true then some (Value.int .i64 ((G.out s).length : Int)) else none) s (some (.int .i64 ((G.out s).length : Int))) = fun t => if (hasB G.ns t && !(lf t && !decide (t = s))) = true then some (Value.int .i64 ((G.out t).length : Int)) else none := by
          funext t
          by_cases e : t = s
          · subst e
            rw [upd_same, hasB_iff.2 hsn]; simp
          · rw [upd_other _ e, decide_eq_false e]; simp
        rw [← e]
        exact hM4⟩
      clear hr4 hM4 hg4 hs4 hm3 hsub hr1 hg3 hlf hfs HR HO
      go_wp2_with fail
      go_roundg (c' + 1)
      case measure => have := hn.out; omega
      case rel => exact ⟨_, c', k + 1, ⟨rfl⟩, HR4, HO4⟩
end
end Go.Proofs.Ytmhbdgnajlnhnaa.P
/- (*Graph).Cycle: the least of the shortest cycles. -/
namespace Go.Proofs.Ytmhbdgnajlnhnaa.P
open Go.RowKit Go.Maps Go.MapKept Go.ChangeMaps Go.Proofs.YtmhbdgnajlnhnaaW.PrintWords Go.Proofs.YtmhbdgnajlnhnaaW.PrintLast Go.Proofs.YtmhbdgnajlnhnaaW.PrintMore Go.Proofs.Ytmhbdgnajlnhnaa.Pl
set_option linter.unusedVariables false
set_option linter.unusedSimpArgs false
section
variable {base p : Nat} {role : Nat → Role} {G : GG} {w : World}
theorem way_callsG (hg : GMem w base role p G) (a b : ByteArray) (ha : a.size ≤ maxLen) (hb : b.size ≤ maxLen) : Calls Try.prog 14 #[.pointer (some ⟨p, 0, none⟩), .string a, .string b] w fun e w' =>
    ∃ v : Value, e = .returned (.tuple #[v, .bool (wayG G a b).2]) ∧ Kd.R Kd.string 9 w' w.heap.size (fun _ => True) v (wayG G a b).1 ∧ ((wayG G a b).2 = false → v = .slice none 0 0) ∧ Below w.heap.size w w' := by
  refine (way_calls hg a b ha hb).mono ?_
  rintro e w' ⟨v, l, ok, rfl, hR, hB, h1, h2⟩
  cases ok with
  | true =>
    obtain ⟨ha', hb', K, d, hF, hk, rfl⟩ := h1 rfl
    rw [near_same hF] at hR
    rw [wayG_some ha' hb' (hF.far a hk)]
    exact ⟨v, rfl, hR, fun h => (by cases h), hB⟩
  | false =>
    obtain ⟨rfl, hv, h⟩ := h2 rfl
    rw [wayG_none h]
    exact ⟨v, rfl, hR, fun _ => hv, hB⟩
theorem wayG_len {G : GG} (hG : GOk G) (a b : ByteArray) : (wayG G a b).1.length ≤ G.ns.length := by
  cases h : (wayG G a b).2 with
  | true =>
    obtain ⟨n, ha, hb, hd, hw⟩ := wayG_ok h
    rw [hw, (along_steps n a hd).len]
    exact distG_bound hG hb hd
  | false =>
    by_cases h' : (wayG G a b).1 = []
    · rw [h']; exact Nat.zero_le _
    · exfalso
      by_cases ha : a ∈ G.ns
      · by_cases hb : b ∈ G.ns
        · cases hd : distG G a b with
          | none => rw [wayG_none (.inr (.inr (distG_none.1 hd)))] at h'; exact h' rfl
          | some n => rw [wayG_some ha hb (distG_some.1 hd)] at h; cases h
        · rw [wayG_none (.inr (.inl hb))] at h'; exact h' rfl
      · rw [wayG_none (.inl ha)] at h'; exact h' rfl
/-- the best yet, in memory -/
structure Best (G : GG) (w : World) (v : Value) (best : Option (List ByteArray)) (wr : World) : Prop where
  row : Kd.R Kd.string 9 wr w.heap.size (fun _ => True) v (best.getD [])
  none : best = none → v = .slice none 0 0
  some : ∀ b, best = some b → 0 < b.length ∧ b.length ≤ 200000
  below : Below w.heap.size w wr
theorem Best.bel {w wr w' : World} {v : Value} {best : Option (List ByteArray)} (h : Best G w v best wr) (hb : Below wr.heap.size wr w') : Best G w v best w' :=
  ⟨Kd.R_below h.row hb, h.none, h.some, h.below.trans (hb.mono h.below.size)⟩
theorem Best.slice {w wr : World} {v : Value} {b : List ByteArray} (h : Best G w v (Option.some b) wr) : ∃ (ad : Addr) (c : Nat), v = .slice (Option.some ad) b.length c ∧ b.length ≤ c ∧ Kd.C Kd.string wr (Option.some ad) b.length b := by
  have hr : Kd.R Kd.string 9 wr w.heap.size (fun _ => True) v b := h.row
  obtain ⟨ad, c, rfl⟩ := Kd.R_slice1 hr (h.some b rfl).1
  exact ⟨ad, c, rfl, (Kd.R_reads' hr).2.1, (Kd.R_reads' hr).2.2⟩
theorem Best.make {w w8 w9 : World} {v : Value} {C : List ByteArray} (hb8 : Below w.heap.size w w8) (hb9 : Below w8.heap.size w8 w9) (h9 : Kd.R Kd.string 9 w9 w8.heap.size (fun _ => True) v C) (h0 : 0 < C.length) (hl : C.length ≤ 200000) : Best G w v (Option.some C) w9 :=
  ⟨Kd.R_lower h9 hb8.size, fun h => (by cases h), fun b h => by injection h with h; subst h; exact ⟨h0, hl⟩, hb8.trans (hb9.mono hb8.size)⟩
theorem bestStep_no {best : Option (List ByteArray)} {a n : ByteArray} (h : (wayG G n a).2 = false) : bestStep G best (a, n) = best := by
  unfold bestStep; rw [if_neg (by show ¬ (wayG G n a).2 = true; rw [h]; decide)]
theorem bestStep_yes {best : Option (List ByteArray)} {a n : ByteArray} (h : (wayG G n a).2 = true) : bestStep G best (a, n) = better best (a :: (wayG G n a).1.dropLast) := by
  unfold bestStep; rw [if_pos (show (wayG G n a).2 = true from h)]
def CycleIs (G : GG) (w : World) (e : Ending) (w' : World) : Prop :=
  ∃ v : Value, e = .returned (.tuple #[v, .bool (cycleG G).isSome]) ∧ Kd.R Kd.string 9 w' w.heap.size (fun _ => True) v ((cycleG G).getD []) ∧ Below w.heap.size w w'
set_option maxRecDepth 1000000 in
set_option maxHeartbeats 4000000 in
theorem cycle_calls (hg : GMem w base role p G) : Calls Try.prog 34 #[.pointer (some ⟨p, 0, none⟩)] w (CycleIs G w) := by
  have hnil := fun (W : World) (A : Option Addr) (n c : Nat) => Go.Lib.run_eql_slice_nil (P := Try.prog) W 23 9 A n c 0 0 Try.underlying23
  have hn := names_calls hg
  have HG := Aside0.mk hg
  have hfew := hg.few
  clear hg
  go_enter Try.func34, Try.ntmps34
  go_wp2_with fail
  refine hn.mono ?_
  rintro e w1 ⟨v1, rfl, hR1, _, hB1⟩
  clear hn
  obtain ⟨A1, c1, rfl, hc1, hC1⟩ := Kd.R_reads hR1
  have HC1 := Aside0.mk hC1
  have H0 : Aside0 (Best G w (.slice none 0 0) (bestOf G (pairsG G (G.ns.take 0))) w1 ∧ Below w1.heap.size w1 w1) := ⟨⟨by rw [List.take_zero]; exact Kd.R_nil _ _ _ _ _, fun _ => rfl, fun b h => (by rw [List.take_zero] at h; cases h), hB1⟩, Below.refl _ _⟩
  have HB1 := Aside0.mk hB1
  clear hR1 hC1 hc1 hB1
  obtain ⟨wn, rfl⟩ : ∃ wn : World, wn = w1 := ⟨_, rfl⟩
  go_wp2_with fail
  go_loopg [4, 15] (G.ns.length + 1) (fun n v4 v15 wr => ∃ i : Nat, v15 = .int .i64 (i : Int) ∧ Aside0 (i + n = G.ns.length + 1) ∧ Aside0 (Best G w v4 (bestOf G (pairsG G (G.ns.take i))) wr ∧ Below wn.heap.size wn wr))
  case atStart => exact ⟨0, rfl, ⟨by omega⟩, H0⟩
  case round =>
    obtain ⟨i, rfl, ⟨hn⟩, HR⟩ := hrel
    clear H0
    by_cases ci : i < G.ns.length
    case neg =>
      have cib : decide ((i : Int) < (G.ns.length : Int)) = false := decide_eq_false (by omega)
      rw [List.take_of_length_le (by omega)] at HR
      obtain ⟨best, hbest⟩ : ∃ best, bestOf G (pairsG G G.ns) = best := ⟨_, rfl⟩
      have HE : ∀ {v : Value} {k : Bool}, u4 = v → best.isSome = k → Aside0 (CycleIs G w (.returned (.tuple #[v, .bool k])) wr) := fun {v k} e1 e2 => ⟨by
        subst e1; subst e2
        unfold CycleIs cycleG
        rw [hbest] at HR ⊢
        exact ⟨_, rfl, HR.out.1.row, HR.out.1.below⟩⟩
      rw [hbest] at HR
      clear hbest
      cases best with
      | none =>
        have hv := HR.out.1.none rfl
        subst hv
        have HE := HE rfl rfl
        clear HR
        go_wp2_with fail
        first | go_ret2 | (refine bodyPost_ret (results_tmp2 rfl _ _ _) rfl ?_)
        exact HE.out
      | some b =>
        obtain ⟨ad4, c4, rfl, hc4, hC4⟩ := HR.out.1.slice
        have HE := HE rfl rfl
        clear HR hc4 hC4
        go_wp2_with fail
        first | go_ret2 | (refine bodyPost_ret (results_tmp2 rfl _ _ _) rfl ?_)
        exact HE.out
    have cib : decide ((i : Int) < (G.ns.length : Int)) = true := decide_eq_true (by omega)
    obtain ⟨ad, rfl, hcell⟩ := Kd.at_string (Kd.C_below HC1.out HR.out.2) (i : Int) (Int.natCast_nonneg _) (by omega)
    rw [Int.toNat_natCast, get_rd ci] at hcell
    have htk : G.ns.take (i + 1) = G.ns.take i ++ [G.ns[i]] := List.take_succ_eq_append_getElem ci
    have hin : G.ns[i] ∈ G.ns := List.getElem_mem ci
    obtain ⟨a, hae⟩ : ∃ a, G.ns[i] = a := ⟨_, rfl⟩
    rw [hae] at hcell htk hin
    have hgw := HG.out.below HR.out.1.below
    have ho := out_calls hgw a (HG.out.good.short a hin)
    have hol := out_len HG.out a
    obtain ⟨P0, hP0⟩ : ∃ P0, pairsG G (G.ns.take i) = P0 := ⟨_, rfl⟩
    have HK := Aside0.mk (And.intro (show pairsG G (G.ns.take (i + 1)) = P0 ++ (G.out a).map fun n => (a, n) by rw [htk, pairsG_snoc, hP0]) hin)
    rw [hP0] at HR
    clear hae htk hgw hin hP0
    obtain ⟨wm, rfl⟩ : ∃ wm : World, wm = wr := ⟨_, rfl⟩
    obtain ⟨gm, rfl⟩ : ∃ gm : Nat, gm = gk := ⟨_, rfl⟩
    go_wp2_with fail
    refine ho.mono ?_
    rintro e w2 ⟨v2, rfl, hR2, _, hB2⟩
    clear ho
    obtain ⟨A2, c2, rfl, hc2, hC2⟩ := Kd.R_reads hR2
    have HC2 := Aside0.mk hC2
    have HR2 : Aside0 (Best G w u4 (bestOf G (P0 ++ ((G.out a).take 0).map fun n => (a, n))) w2 ∧ Below w2.heap.size w2 w2) := ⟨by rw [List.take_zero, List.map_nil, List.append_nil]; exact HR.out.1.bel hB2, Below.refl _ _⟩
    have HB2 := Aside0.mk (HR.out.2.trans (hB2.mono HR.out.2.size))
    clear hR2 hC2 hc2 hB2 HR
    go_wp2_with fail
    go_loopg [4, 23] ((G.out a).length + 1) (fun n v4 v23 wr => ∃ j : Nat, v23 = .int .i64 (j : Int) ∧ Aside0 (j + n = (G.out a).length + 1) ∧ Aside0 (Best G w v4 (bestOf G (P0 ++ ((G.out a).take j).map fun n => (a, n))) wr ∧ Below w2.heap.size w2 wr))
    case atStart => exact ⟨0, rfl, ⟨by omega⟩, HR2⟩
    case round =>
      obtain ⟨j, rfl, ⟨hn2⟩, HR⟩ := hrel
      clear HR2
      by_cases cj : j < (G.out a).length
      case neg =>
        have cjb : decide ((j : Int) < ((G.out a).length : Int)) = false := decide_eq_false (by omega)
        rw [List.take_of_length_le (by omega), ← HK.out.1] at HR
        have HX := Aside0.mk (And.intro HR.out.1 (HB2.out.trans (HR.out.2.mono HB2.out.size)))
        clear HR
        go_wp2_with fail
        go_roundg (gm - 1)
        case measure => omega
        case rel => exact ⟨i + 1, by first | rfl | (rw [w64_ (by omega) (by omega)]; rfl) | simp, ⟨by omega⟩, HX⟩
      have cjb : decide ((j : Int) < ((G.out a).length : Int)) = true := decide_eq_true (by omega)
      obtain ⟨ad2, rfl, hcell2⟩ := Kd.at_string (Kd.C_below HC2.out HR.out.2) (j : Int) (Int.natCast_nonneg _) (by omega)
      rw [Int.toNat_natCast, get_rd cj] at hcell2
      have htk2 : (G.out a).take (j + 1) = (G.out a).take j ++ [(G.out a)[j]] := List.take_succ_eq_append_getElem cj
      have hin2 := HG.out.good.inside a _ (List.getElem_mem cj)
      obtain ⟨b, hbe⟩ : ∃ b, (G.out a)[j] = b := ⟨_, rfl⟩
      rw [hbe] at hcell2 htk2 hin2
      obtain ⟨best, hbest⟩ : ∃ best, bestOf G (P0 ++ ((G.out a).take j).map fun n => (a, n)) = best := ⟨_, rfl⟩
      have HN := Aside0.mk (show bestOf G (P0 ++ ((G.out a).take (j + 1)).map fun n => (a, n)) = bestStep G best (a, b) by rw [htk2, List.map_append, ← List.append_assoc, List.map_singleton, bestOf_snoc, hbest])
      rw [hbest] at HR
      have hgw := HG.out.below HR.out.1.below
      have hway := way_callsG hgw b a (HG.out.good.short b hin2) (HG.out.good.short a HK.out.2)
      have hwl := wayG_len HG.out.good b a
      clear hbe htk2 hgw hin2 hbest
      go_wp2_with fail
      refine hway.mono ?_
      rintro e w8 ⟨v8, rfl, hR8, h8n, hB8⟩
      clear hway
      cases hok : (wayG G b a).2 with
      | false =>
        have HX : Aside0 (Best G w u4 (bestOf G (P0 ++ ((G.out a).take (j + 1)).map fun n => (a, n))) w8 ∧ Below w2.heap.size w2 w8) := ⟨by rw [HN.out, bestStep_no hok]; exact HR.out.1.bel hB8, HR.out.2.trans (hB8.mono HR.out.2.size)⟩
        clear HR hR8 hB8 h8n HN
        go_wp2_with fail
        go_roundg (gk - 1)
        case measure => omega
        case rel => exact ⟨j + 1, by first | rfl | (rw [w64_ (by omega) (by omega)]; rfl) | simp, ⟨by omega⟩, HX⟩
      | true =>
        obtain ⟨m, hbn, han, hd, hw⟩ := wayG_ok hok
        have hWl : (wayG G b a).1.length = m + 1 := by rw [hw, (along_steps m b hd).len]
        obtain ⟨W8, hW8⟩ : ∃ W8, (wayG G b a).1 = W8 := ⟨_, rfl⟩
        have HN2 := Aside0.mk (show bestOf G (P0 ++ ((G.out a).take (j + 1)).map fun n => (a, n)) = better best (a :: W8.dropLast) by rw [HN.out, bestStep_yes hok, hW8])
        rw [hW8] at hR8 hWl hwl
        obtain ⟨A8, c8, rfl, hc8, hC8⟩ := Kd.R_reads hR8
        have hdl : W8.dropLast = W8.take m := by rw [List.dropLast_eq_take, hWl]; rfl
        have hC8' := Kd.C_take (m := m) hC8 (by omega)
        rw [hWl] at hc8 hC8 ⊢
        have HB8 := Aside0.mk hB8
        have hlm : (W8.take m).length = m := by rw [List.length_take]; omega
        rw [hlm] at hC8'
        rw [hdl] at HN2
        clear hw hR8 h8n HN hC8 hdl hok hW8
        have hlit : Kd.R Kd.string 9 (w8.alloc (Obj.cells #[Value.string a] 9)) w8.heap.size (fun _ => True) (.slice (some ⟨w8.heap.size, 0, none⟩) 1 1) [a] := by
          have h1 := World.ownsRow_lit (base := w8.heap.size) (e := 9) (size := 1) w8 #[.string a] 1 (Nat.le_refl _) (by simp [maxLen]) (by simp)
          exact Kd.R_of_own (by simpa using h1 : (w8.alloc (.cells #[.string a] 9)).ownsRow w8.heap.size 9 1 (.slice (some ⟨w8.heap.size, 0, none⟩) 1 1) 1 [Value.string a]) (fun _ _ => trivial)
        have hbW : Below w8.heap.size w8 (w8.alloc (Obj.cells #[Value.string a] 9)) := below_alloc (Below.refl _ w8) _
        have hCW := Kd.C_below hC8' hbW
        have hle : w8.heap.size ≤ (w8.alloc (Obj.cells #[Value.string a] 9)).heap.size := hbW.size
        obtain ⟨C, hCe⟩ : ∃ C, [a] ++ W8.take m = C := ⟨_, rfl⟩
        have HC : Aside0 ([a] ++ W8.take m = C ∧ C.length = m + 1) := ⟨hCe, by rw [← hCe, List.length_append, hlm, List.length_singleton]; omega⟩
        have HN3 := Aside0.mk (show bestOf G (P0 ++ ((G.out a).take (j + 1)).map fun n => (a, n)) = better best C by rw [HN2.out, ← hCe]; rfl)
        have hB8 := HR.out.1.below.trans (HB8.out.mono HR.out.1.below.size)
        have hB82 := HR.out.2.trans (HB8.out.mono HR.out.2.size)
        have HBB := Aside0.mk (And.intro hB8 hB82)
        have hml : m + 1 ≤ 100000 := by omega
        have HML := Aside0.mk hml
        have HMK : ∀ {v : Value} {w9 : World}, Kd.R Kd.string 9 w9 w8.heap.size (fun _ => True) v C ∧ Below w8.heap.size w8 w9 → ∀ nd, Best G w v (some C) (w9.drewN nd) ∧ Below w2.heap.size w2 (w9.drewN nd) := fun {v w9} h nd =>
          ⟨(Best.make HBB.out.1 h.2 h.1 (by have := HC.out.2; omega) (by have := HC.out.2; have := HML.out; omega)).bel (pw_below_drewN (Below.refl _ _) nd), pw_below_drewN (HBB.out.2.trans (h.2.mono HBB.out.2.size)) nd⟩
        replace HMK := Aside0.mk @HMK
        clear hCe HN2 hlm hC8' hml hB8 hB82
        cases best with
        | none =>
          have hv := HR.out.1.none rfl
          subst hv
          clear HR
          go_wp2_with (first | ((with_reducible refine gate_builtin (b := .append) (xs := #[.tmp 37, .tmp 42]) rfl ?_); at_builtin; refine Kd.R_append_rows Kd.string (Rr := Kd.string.K (w8.alloc (Obj.cells #[Value.string a] 9))) (w0 := w8) (W := w8.alloc (Obj.cells #[Value.string a] 9)) w8.heap.size rfl (.tmp 37) (.tmp 42) 23 9 (.string ⟨#[]⟩) 16 rfl Try.underlying23 info9 rfl (by decide) (by omega) _ [a] (W8.take m) A8 m c8 (fun _ => True) (fun _ => False) rfl rfl hlit hCW (fun _ _ h => h) (fun _ h => h.elim) (fun _ _ => trivial) hbW hle (by simp; omega) ?_; intro v1 w9 h9 hb9 hg9 hat; rw [HC.out.1] at h9; obtain ⟨adc, cc, rfl⟩ := Kd.R_slice1 h9 (by have := HC.out.2; omega); have H9 := Aside0.mk (And.intro h9 hb9); clear h9 hb9 hg9 hat))
          have HX : Aside0 (Best G w (.slice (some adc) C.length cc) (bestOf G (P0 ++ ((G.out a).take (j + 1)).map fun n => (a, n))) w9 ∧ Below w2.heap.size w2 w9) := ⟨by rw [HN3.out]; exact HMK.out H9.out 0⟩
          clear H9 HN3 HMK
          go_roundg (gk - 1)
          case measure => omega
          case rel => exact ⟨j + 1, by first | rfl | (rw [w64_ (by omega) (by omega)]; rfl) | simp, ⟨by omega⟩, HX⟩
        | some bl =>
          obtain ⟨ad4, c4, rfl, hc4, hC4⟩ := HR.out.1.slice
          have hbl := HR.out.1.some bl rfl
          have HBK : ∀ {w9 : World}, Below w8.heap.size w8 w9 → ∀ nd, Best G w (.slice (some ad4) bl.length c4) (some bl) (w9.drewN nd) ∧ Below w2.heap.size w2 (w9.drewN nd) := fun {w9} h nd =>
            ⟨(HR.out.1.bel (HB8.out.trans (h.mono HB8.out.size))).bel (pw_below_drewN (Below.refl _ _) nd), pw_below_drewN (HBB.out.2.trans (h.mono HBB.out.2.size)) nd⟩
          replace HBK := Aside0.mk @HBK
          have HC4 := Aside0.mk (Kd.C_below hC4 HB8.out)
          clear hC4 HR
          rcases Nat.lt_trichotomy C.length bl.length with hlt | heq | hgt
          · have t1 : decide ((C.length : Int) < (bl.length : Int)) = true := decide_eq_true (by omega)
            have t1n : ¬ bl.length ≤ C.length := by omega
            have HN4 : Aside0 (better (some bl) C = some C) := ⟨if_pos (.inl hlt)⟩
            clear hlt
            go_wp2_with (first | ((with_reducible refine gate_builtin (b := .append) (xs := #[.tmp 37, .tmp 42]) rfl ?_); at_builtin; refine Kd.R_append_rows Kd.string (Rr := Kd.string.K (w8.alloc (Obj.cells #[Value.string a] 9))) (w0 := w8) (W := w8.alloc (Obj.cells #[Value.string a] 9)) w8.heap.size rfl (.tmp 37) (.tmp 42) 23 9 (.string ⟨#[]⟩) 16 rfl Try.underlying23 info9 rfl (by decide) (by omega) _ [a] (W8.take m) A8 m c8 (fun _ => True) (fun _ => False) rfl rfl hlit hCW (fun _ _ h => h) (fun _ h => h.elim) (fun _ _ => trivial) hbW hle (by simp; omega) ?_; intro v1 w9 h9 hb9 hg9 hat; rw [HC.out.1] at h9; obtain ⟨adc, cc, rfl⟩ := Kd.R_slice1 h9 (by have := HC.out.2; omega); have H9 := Aside0.mk (And.intro h9 hb9); clear h9 hb9 hg9 hat))
            have HX : Aside0 (Best G w (.slice (some adc) C.length cc) (bestOf G (P0 ++ ((G.out a).take (j + 1)).map fun n => (a, n))) w9 ∧ Below w2.heap.size w2 w9) := ⟨by rw [HN3.out, HN4.out]; exact HMK.out H9.out 0⟩
            clear H9 HN3 HMK HN4
            go_roundg (gk - 1)
            case measure => omega
            case rel => exact ⟨j + 1, by first | rfl | (rw [w64_ (by omega) (by omega)]; rfl) | simp, ⟨by omega⟩, HX⟩
          · have t1 : decide ((C.length : Int) < (bl.length : Int)) = false := decide_eq_false (by omega)
            have t1n : bl.length ≤ C.length := by omega
            have t2 : ((C.length : Int) == (bl.length : Int)) = true := beq_iff_eq.2 (by omega)
            by_cases hc : cmpL C bl < 0
            · have t3 : decide (cmpL C bl < 0) = true := decide_eq_true hc
              have HN4 : Aside0 (better (some bl) C = some C) := ⟨if_pos (.inr ⟨heq, hc⟩)⟩
              have HLE := Aside0.mk heq
              clear hc heq
              go_wp2_with (first | ((with_reducible refine gate_builtin (b := .append) (xs := #[.tmp 37, .tmp 42]) rfl ?_); at_builtin; refine Kd.R_append_rows Kd.string (Rr := Kd.string.K (w8.alloc (Obj.cells #[Value.string a] 9))) (w0 := w8) (W := w8.alloc (Obj.cells #[Value.string a] 9)) w8.heap.size rfl (.tmp 37) (.tmp 42) 23 9 (.string ⟨#[]⟩) 16 rfl Try.underlying23 info9 rfl (by decide) (by omega) _ [a] (W8.take m) A8 m c8 (fun _ => True) (fun _ => False) rfl rfl hlit hCW (fun _ _ h => h) (fun _ h => h.elim) (fun _ _ => trivial) hbW hle (by simp; omega) ?_; intro v1 w9 h9 hb9 hg9 hat; rw [HC.out.1] at h9; obtain ⟨adc, cc, rfl⟩ := Kd.R_slice1 h9 (by have := HC.out.2; omega); have H9 := Aside0.mk (And.intro h9 hb9); clear h9 hb9 hg9 hat))
              have hcmp := compare_calls (w := w9) (some adc) cc C (some ad4) c4 bl (Kd.R_reads' H9.out.1).2.2 (Kd.C_below HC4.out H9.out.2) (by have := HC.out.2; omega) (by omega)
              refine hcmp.mono ?_
              rintro e w10 ⟨rfl, ⟨nd, rfl⟩⟩
              have HX : Aside0 (Best G w (.slice (some adc) C.length cc) (bestOf G (P0 ++ ((G.out a).take (j + 1)).map fun n => (a, n))) (w9.drewN nd) ∧ Below w2.heap.size w2 (w9.drewN nd)) := ⟨by rw [HN3.out, HN4.out]; exact HMK.out H9.out nd⟩
              clear H9 HN3 HMK HN4 hcmp
              go_wp2_with fail
              go_roundg (gk - 1)
              case measure => omega
              case rel => exact ⟨j + 1, by first | rfl | (rw [w64_ (by omega) (by omega)]; rfl) | simp, ⟨by omega⟩, HX⟩
            · have t3 : decide (cmpL C bl < 0) = false := decide_eq_false hc
              have HN4 : Aside0 (better (some bl) C = some bl) := ⟨if_neg (fun h => h.elim (fun h => by omega) (fun h => hc h.2))⟩
              have HLE := Aside0.mk heq
              clear hc heq
              go_wp2_with (first | ((with_reducible refine gate_builtin (b := .append) (xs := #[.tmp 37, .tmp 42]) rfl ?_); at_builtin; refine Kd.R_append_rows Kd.string (Rr := Kd.string.K (w8.alloc (Obj.cells #[Value.string a] 9))) (w0 := w8) (W := w8.alloc (Obj.cells #[Value.string a] 9)) w8.heap.size rfl (.tmp 37) (.tmp 42) 23 9 (.string ⟨#[]⟩) 16 rfl Try.underlying23 info9 rfl (by decide) (by omega) _ [a] (W8.take m) A8 m c8 (fun _ => True) (fun _ => False) rfl rfl hlit hCW (fun _ _ h => h) (fun _ h => h.elim) (fun _ _ => trivial) hbW hle (by simp; omega) ?_; intro v1 w9 h9 hb9 hg9 hat; rw [HC.out.1] at h9; obtain ⟨adc, cc, rfl⟩ := Kd.R_slice1 h9 (by have := HC.out.2; omega); have H9 := Aside0.mk (And.intro h9 hb9); clear h9 hb9 hg9 hat))
              have hcmp := compare_calls (w := w9) (some adc) cc C (some ad4) c4 bl (Kd.R_reads' H9.out.1).2.2 (Kd.C_below HC4.out H9.out.2) (by have := HC.out.2; omega) (by omega)
              refine hcmp.mono ?_
              rintro e w10 ⟨rfl, ⟨nd, rfl⟩⟩
              have HX : Aside0 (Best G w (.slice (some ad4) bl.length c4) (bestOf G (P0 ++ ((G.out a).take (j + 1)).map fun n => (a, n))) (w9.drewN nd) ∧ Below w2.heap.size w2 (w9.drewN nd)) := ⟨by rw [HN3.out, HN4.out]; exact HBK.out H9.out.2 nd⟩
              clear H9 HN3 HMK HN4 hcmp
              go_wp2_with fail
              go_roundg (gk - 1)
              case measure => omega
              case rel => exact ⟨j + 1, by first | rfl | (rw [w64_ (by omega) (by omega)]; rfl) | simp, ⟨by omega⟩, HX⟩
          · have t1 : decide ((C.length : Int) < (bl.length : Int)) = false := decide_eq_false (by omega)
            have t1n : bl.length ≤ C.length := by omega
            have t2 : ((C.length : Int) == (bl.length : Int)) = false := beq_eq_false_iff_ne.2 (by omega)
            have HN4 : Aside0 (better (some bl) C = some bl) := ⟨if_neg (fun h => h.elim (fun h => by omega) (fun h => by have := h.1; omega))⟩
            clear hgt
            go_wp2_with (first | ((with_reducible refine gate_builtin (b := .append) (xs := #[.tmp 37, .tmp 42]) rfl ?_); at_builtin; refine Kd.R_append_rows Kd.string (Rr := Kd.string.K (w8.alloc (Obj.cells #[Value.string a] 9))) (w0 := w8) (W := w8.alloc (Obj.cells #[Value.string a] 9)) w8.heap.size rfl (.tmp 37) (.tmp 42) 23 9 (.string ⟨#[]⟩) 16 rfl Try.underlying23 info9 rfl (by decide) (by omega) _ [a] (W8.take m) A8 m c8 (fun _ => True) (fun _ => False) rfl rfl hlit hCW (fun _ _ h => h) (fun _ h => h.elim) (fun _ _ => trivial) hbW hle (by simp; omega) ?_; intro v1 w9 h9 hb9 hg9 hat; rw [HC.out.1] at h9; obtain ⟨adc, cc, rfl⟩ := Kd.R_slice1 h9 (by have := HC.out.2; omega); have H9 := Aside0.mk (And.intro h9 hb9); clear h9 hb9 hg9 hat))
            have HX : Aside0 (Best G w (.slice (some ad4) bl.length c4) (bestOf G (P0 ++ ((G.out a).take (j + 1)).map fun n => (a, n))) w9 ∧ Below w2.heap.size w2 w9) := ⟨by rw [HN3.out, HN4.out]; exact HBK.out H9.out.2 0⟩
            clear H9 HN3 HMK HN4
            go_roundg (gk - 1)
            case measure => omega
            case rel => exact ⟨j + 1, by first | rfl | (rw [w64_ (by omega) (by omega)]; rfl) | simp, ⟨by omega⟩, HX⟩
end
end Go.Proofs.Ytmhbdgnajlnhnaa.P
