/- Distances, ways, orders, cycles, plainly. -/
import Derived.Test.YtmhbdgnajlnhnaaGFar
import Derived.Test.YtmhbdgnajlnhnaaGWay
import Derived.Test.YtmhbdgnajlnhnaaPx0
namespace Go.Proofs.Ytmhbdgnajlnhnaa.Pl
open Go.RowKit Go.Proofs.YtmhbdgnajlnhnaaW.PrintWords Go.Proofs.Ytmhbdgnajlnhnaa.P
set_option linter.unusedVariables false
set_option linter.unusedSimpArgs false
theorem get_rd {l : List ByteArray} {i : Nat} (h : i < l.length) : rdOf ByteArray.empty l (i : Int) = l[i] := by
  unfold rdOf; rw [Int.toNat_natCast, List.getD_eq_getElem?_getD, List.getElem?_eq_getElem h]; rfl
theorem get_rdE {l : List S45} {i : Nat} (h : i < l.length) : rd_T45 l (i : Int) = l[i] := by
  unfold rd_T45; rw [Int.toNat_natCast, List.getD_eq_getElem?_getD, List.getElem?_eq_getElem h]; rfl
theorem toList_eq {x y : ByteArray} : x.toList = y.toList ↔ x = y := by
  rw [toList_L, toList_L]; exact ⟨fun h => L_inj h, fun h => by rw [h]⟩
theorem hasB_cons (x : ByteArray) (l : List ByteArray) (s : ByteArray) : hasB (x :: l) s = (decide (x = s) || hasB l s) := rfl
theorem w64n {n : Nat} (h : n ≤ 1000000000000) : wrap64 ((n : Int) + 1) = ((n + 1 : Nat) : Int) := by rw [w64_ (by omega) (by omega)]; rfl
/-! ### rising lists -/
theorem ins_skip (x : ByteArray) : ∀ (a b : List ByteArray), (∀ y, y ∈ a → ltB y x) → ins x (a ++ b) = a ++ ins x b
  | [], b, _ => rfl
  | y :: a, b, h => by
    show ins x (y :: (a ++ b)) = y :: (a ++ ins x b)
    rw [ins, if_pos (h y List.mem_cons_self), ins_skip x a b (fun z hz => h z (List.mem_cons_of_mem _ hz))]
/-! ### edges from a name -/
def tosE (E : List S45) (a : ByteArray) : List ByteArray := (E.filter (fun e => decide (e.f0 = a))).map (fun e => e.f1)
def outE (E : List S45) (a : ByteArray) : List ByteArray := srt (tosE E a)
theorem tosE_cons (e : S45) (E : List S45) (a : ByteArray) : tosE (e :: E) a = if e.f0 = a then e.f1 :: tosE E a else tosE E a := by
  unfold tosE
  by_cases h : e.f0 = a
  · rw [if_pos h, List.filter_cons_of_pos (by simpa using h), List.map_cons]
  · rw [if_neg h, List.filter_cons_of_neg (by simpa using h)]
theorem tosE_len (E : List S45) (a : ByteArray) : (tosE E a).length ≤ E.length := by
  unfold tosE; rw [List.length_map]; exact List.length_filter_le _ _
/-- names and edges tell a graph -/
structure RG (G : GG) (E : List S45) : Prop where
  ok : GOk G
  outs : ∀ s, outE E s = G.out s
  few : E.length ≤ 1000000
  names : G.ns.length ≤ 100000
theorem RG.out_len {G : GG} {E : List S45} (h : RG G E) (a : ByteArray) : (G.out a).length ≤ 1000000 := by
  rw [← h.outs a]
  have h1 := srt_len (tosE E a)
  have h2 := tosE_len E a
  have := h.few
  unfold outE; omega
/-! ### names that are new -/
def newOf (S X : List ByteArray) (l : List ByteArray) : List ByteArray := l.foldl (fun X t => if hasB (S ++ X) t = true then X else X ++ [t]) X
theorem newOf_nil (S X : List ByteArray) : newOf S X [] = X := rfl
theorem newOf_cons (S X : List ByteArray) (t : ByteArray) (l : List ByteArray) : newOf S X (t :: l) = newOf S (if hasB (S ++ X) t = true then X else X ++ [t]) l := rfl
theorem newOf_append (S X a b : List ByteArray) : newOf S X (a ++ b) = newOf S (newOf S X a) b := by unfold newOf; rw [List.foldl_append]
theorem mem_newOf (S : List ByteArray) (s : ByteArray) : ∀ (l X : List ByteArray), s ∈ newOf S X l ↔ s ∈ X ∨ (s ∈ l ∧ s ∉ S) := by
  intro l
  induction l with
  | nil => intro X; simp [newOf_nil]
  | cons t l ih =>
    intro X
    rw [newOf_cons, ih, List.mem_cons]
    by_cases h : hasB (S ++ X) t = true
    · rw [if_pos h]
      rw [hasB_iff, List.mem_append] at h
      constructor
      · rintro (h' | h')
        · exact .inl h'
        · exact .inr ⟨.inr h'.1, h'.2⟩
      · rintro (h' | ⟨rfl | h', hn⟩)
        · exact .inl h'
        · exact .inl (h.resolve_left hn)
        · exact .inr ⟨h', hn⟩
    · rw [if_neg h]
      rw [hasB_iff, List.mem_append, not_or] at h
      rw [List.mem_append, List.mem_singleton]
      constructor
      · rintro ((h' | rfl) | h')
        · exact .inl h'
        · exact .inr ⟨.inl rfl, h.1⟩
        · exact .inr ⟨.inr h'.1, h'.2⟩
      · rintro (h' | ⟨rfl | h', hn⟩)
        · exact .inl (.inl h')
        · exact .inl (.inr rfl)
        · exact .inr ⟨h', hn⟩
theorem nodup_newOf (S : List ByteArray) : ∀ (l X : List ByteArray), (S ++ X).Nodup → (S ++ newOf S X l).Nodup := by
  intro l
  induction l with
  | nil => exact fun X h => h
  | cons t l ih =>
    intro X h
    rw [newOf_cons]
    by_cases h' : hasB (S ++ X) t = true
    · rw [if_pos h']; exact ih X h
    · rw [if_neg h']
      refine ih _ ?_
      rw [← List.append_assoc]
      rw [hasB_iff] at h'
      exact List.nodup_append.2 ⟨h, by simp, fun a ha b hb e => by rw [List.mem_singleton] at hb; subst hb; subst e; exact h' ha⟩
theorem newOf_len (S : List ByteArray) : ∀ (l X : List ByteArray), (newOf S X l).length ≤ X.length + l.length ∧ X.length ≤ (newOf S X l).length := by
  intro l
  induction l with
  | nil => intro X; simp [newOf_nil]
  | cons t l ih =>
    intro X
    rw [newOf_cons]
    split
    · have := ih X; simp; omega
    · have := ih (X ++ [t]); simp at this ⊢; omega
/-! ### how far -/
theorem stp_snoc {F : ByteArray → List ByteArray} : ∀ {n : Nat} {a b c : ByteArray}, Stp F n a b → c ∈ F b → Stp F (n + 1) a c := by
  intro n
  induction n with
  | zero => intro a b c h hc; cases h; exact .succ hc (.zero _)
  | succ n ih => intro a b c h hc; cases h with | succ h1 h2 => exact .succ h1 (ih h2 hc)
theorem stp_last {F : ByteArray → List ByteArray} : ∀ {n : Nat} {a c : ByteArray}, Stp F (n + 1) a c → ∃ b, Stp F n a b ∧ c ∈ F b := by
  intro n
  induction n with
  | zero => intro a c h; cases h with | succ h1 h2 => cases h2; exact ⟨a, .zero _, h1⟩
  | succ n ih =>
    intro a c h
    cases h with
    | succ h1 h2 =>
      obtain ⟨b, hb, hc⟩ := ih h2
      exact ⟨b, .succ h1 hb, hc⟩
theorem dist_last {F : ByteArray → List ByteArray} {n : Nat} {a c : ByteArray} : Dist F (n + 1) a c ↔ (∃ b, Dist F n a b ∧ c ∈ F b) ∧ ∀ m, m ≤ n → ¬ Dist F m a c := by
  constructor
  · intro h
    refine ⟨?_, fun m hm hd => h.2 m (by omega) hd.1⟩
    obtain ⟨b, hb, hc⟩ := stp_last h.1
    exact ⟨b, ⟨hb, fun m hm hs => h.2 (m + 1) (by omega) (stp_snoc hs hc)⟩, hc⟩
  · rintro ⟨⟨b, hb, hc⟩, hn⟩
    refine ⟨stp_snoc hb.1 hc, fun m hm hs => ?_⟩
    obtain ⟨k, hk, hd⟩ := dist_of_stp hs
    exact hn k (by omega) hd
theorem dist_none_from {F : ByteArray → List ByteArray} {n : Nat} {a : ByteArray} (h : ∀ s, ¬ Dist F n a s) : ∀ m, n ≤ m → ∀ s, ¬ Dist F m a s := by
  intro m hm
  induction hm with
  | refl => exact h
  | step _ ih =>
    intro s hd
    obtain ⟨⟨c, hc, _⟩, _⟩ := dist_last.1 hd
    exact ih c hc
theorem stp_in {G : GG} (hG : GOk G) {n : Nat} {a b : ByteArray} (h : Stp G.out n a b) (ha : a ∈ G.ns) : b ∈ G.ns := by
  cases n with
  | zero => cases h; exact ha
  | succ n =>
    obtain ⟨c, _, hc⟩ := stp_last h
    exact hG.inside _ _ hc
open Classical in
/-- how far is it from a to b? -/
noncomputable def distG (G : GG) (a b : ByteArray) : Option Nat := if h : ∃ n, Dist G.out n a b then some h.choose else none
theorem distG_some {G : GG} {a b : ByteArray} {n : Nat} : distG G a b = some n ↔ Dist G.out n a b := by
  unfold distG
  by_cases h : ∃ n, Dist G.out n a b
  · rw [dif_pos h]
    constructor
    · intro e; injection e with e; rw [← e]; exact h.choose_spec
    · intro hd; rw [h.choose_spec.uniq hd]
  · rw [dif_neg h]
    constructor
    · intro e; cases e
    · intro hd; exact absurd ⟨n, hd⟩ h
theorem distG_none {G : GG} {a b : ByteArray} : distG G a b = none ↔ ∀ n, ¬ Dist G.out n a b := by
  unfold distG
  by_cases h : ∃ n, Dist G.out n a b
  · rw [dif_pos h]
    constructor
    · intro e; cases e
    · intro hn; obtain ⟨n, hd⟩ := h; exact absurd hd (hn n)
  · rw [dif_neg h]
    exact ⟨fun _ n hd => h ⟨n, hd⟩, fun _ => rfl⟩
noncomputable def farI (G : GG) (a b : ByteArray) : Int := match distG G a b with | some n => (n : Int) | none => -1
theorem farI_some {G : GG} {a b : ByteArray} {n : Nat} (h : Dist G.out n a b) : farI G a b = (n : Int) := by unfold farI; rw [distG_some.2 h]
theorem farI_none {G : GG} {a b : ByteArray} (h : ∀ n, ¬ Dist G.out n a b) : farI G a b = -1 := by unfold farI; rw [distG_none.2 h]
theorem farI_eq {G : GG} {a b : ByteArray} {n : Nat} : farI G a b = (n : Int) ↔ Dist G.out n a b := by
  constructor
  · intro h
    cases hd : distG G a b with
    | none => unfold farI at h; rw [hd] at h; simp only at h; omega
    | some m =>
      have := distG_some.1 hd
      rw [farI_some this] at h
      have : m = n := by omega
      subst this
      exact distG_some.1 hd
  · exact farI_some
theorem sub_len {G : GG} (hn : G.ns.length ≤ 100000) {l : List ByteArray} (hd : l.Nodup) (hs : ∀ s, s ∈ l → s ∈ G.ns) : l.length ≤ 100000 := Nat.le_trans (List.Nodup.length_le_of_subset hd hs) hn
theorem sub_newOf {G : GG} {S : List ByteArray} (l X : List ByteArray) (hl : ∀ s, s ∈ l → s ∈ G.ns) (hin : ∀ s, s ∈ S ++ X → s ∈ G.ns) : ∀ s, s ∈ S ++ newOf S X l → s ∈ G.ns := by
  intro s hs
  rcases List.mem_append.1 hs with hs | hs
  · exact hin s (List.mem_append.2 (.inl hs))
  · rcases (mem_newOf S s l X).1 hs with hs | hs
    · exact hin s (List.mem_append.2 (.inr hs))
    · exact hl s hs.1
/-! ### the way -/
noncomputable def nearG (G : GG) (b : ByteArray) (n : Nat) (s : ByteArray) : Bool := decide (distG G s b = some n)
theorem nearG_iff {G : GG} {b : ByteArray} {n : Nat} {s : ByteArray} : nearG G b n s = true ↔ Dist G.out n s b := by unfold nearG; rw [decide_eq_true_eq, distG_some]
noncomputable def wayG (G : GG) (a b : ByteArray) : List ByteArray × Bool :=
  if hasB G.ns a = true ∧ hasB G.ns b = true then match distG G a b with | some n => (a :: steps G.out (nearG G b) n a, true) | none => ([], false) else ([], false)
theorem wayG_some {G : GG} {a b : ByteArray} {n : Nat} (ha : a ∈ G.ns) (hb : b ∈ G.ns) (h : Dist G.out n a b) : wayG G a b = (a :: steps G.out (nearG G b) n a, true) := by
  unfold wayG; rw [if_pos ⟨hasB_iff.2 ha, hasB_iff.2 hb⟩, distG_some.2 h]
theorem wayG_none {G : GG} {a b : ByteArray} (h : a ∉ G.ns ∨ b ∉ G.ns ∨ ∀ n, ¬ Dist G.out n a b) : wayG G a b = ([], false) := by
  unfold wayG
  by_cases hh : hasB G.ns a = true ∧ hasB G.ns b = true
  · rw [if_pos hh]
    rcases h with h | h | h
    · exact absurd (hasB_iff.1 hh.1) h
    · exact absurd (hasB_iff.1 hh.2) h
    · rw [distG_none.2 h]
  · rw [if_neg hh]
theorem near_same {G : GG} {t : ByteArray} {K : List ByteArray} {d : ByteArray → Nat} (h : FarOf G t K d) : nearK K d = nearG G t := by
  funext n s
  rw [Bool.eq_iff_iff, nearK_iff h, nearG_iff]
theorem stepG {G : GG} {t a : ByteArray} {n : Nat} (hd : Dist G.out (n + 1) a t) : ∃ b, (G.out a).find? (nearG G t n) = some b ∧ b ∈ G.out a ∧ Dist G.out n b t := by
  obtain ⟨⟨c, hc, hdc⟩, _⟩ := dist_succ.1 hd
  cases hf : (G.out a).find? (nearG G t n) with
  | none => exact absurd (nearG_iff.2 hdc) (by simpa using List.find?_eq_none.1 hf c hc)
  | some b => exact ⟨b, rfl, List.mem_of_find?_eq_some hf, nearG_iff.1 (List.find?_some hf)⟩
theorem distG_bound {G : GG} (hG : GOk G) {n : Nat} {a b : ByteArray} (hb : b ∈ G.ns) (h : Dist G.out n a b) : n + 1 ≤ G.ns.length := by
  have key : ∀ (n : Nat) (a : ByteArray), Dist G.out n a b → ∃ l : List ByteArray, l.Nodup ∧ l.length = n + 1 ∧ ∀ s, s ∈ l → ∃ m, m ≤ n ∧ Dist G.out m s b := by
    intro n
    induction n with
    | zero => exact fun a h => ⟨[a], by simp, rfl, fun s hs => by rw [List.mem_singleton] at hs; subst hs; exact ⟨0, Nat.le_refl _, h⟩⟩
    | succ n ih =>
      intro a h
      obtain ⟨⟨c, _, hc⟩, hn⟩ := dist_succ.1 h
      obtain ⟨l, h1, h2, h3⟩ := ih c hc
      refine ⟨a :: l, List.nodup_cons.2 ⟨fun ha => ?_, h1⟩, by rw [List.length_cons, h2], fun s hs => ?_⟩
      · obtain ⟨m, hm, hd⟩ := h3 a ha
        exact hn m hm hd
      · rcases List.mem_cons.1 hs with rfl | hs
        · exact ⟨n + 1, Nat.le_refl _, h⟩
        · obtain ⟨m, hm, hd⟩ := h3 s hs
          exact ⟨m, by omega, hd⟩
  obtain ⟨l, h1, h2, h3⟩ := key n a h
  rw [← h2]
  exact List.Nodup.length_le_of_subset h1 (fun s hs => by obtain ⟨m, _, hd⟩ := h3 s hs; exact stp_inside hG hd.1 hb)
/-! ### below -/
/-- a way of edges -/
def Rc (F : ByteArray → List ByteArray) (a b : ByteArray) : Prop := ∃ n, Stp F n a b
theorem Rc.refl {F : ByteArray → List ByteArray} (a : ByteArray) : Rc F a a := ⟨0, .zero a⟩
theorem Rc.snoc {F : ByteArray → List ByteArray} {a b c : ByteArray} (h : Rc F a b) (hc : c ∈ F b) : Rc F a c := by
  obtain ⟨n, h⟩ := h
  exact ⟨n + 1, stp_snoc h hc⟩
theorem Rc.closed {F : ByteArray → List ByteArray} {T : List ByteArray} (h : ∀ s, s ∈ T → ∀ t, t ∈ F s → t ∈ T) {a b : ByteArray} (ha : a ∈ T) (hr : Rc F a b) : b ∈ T := by
  obtain ⟨n, hr⟩ := hr
  induction n generalizing b with
  | zero => cases hr; exact ha
  | succ n ih =>
    obtain ⟨c, hc, hb⟩ := stp_last hr
    exact h c (ih hc) b hb
/-! ### the order -/
def freeB (G : GG) (out : List ByteArray) (s : ByteArray) : Bool := (G.out s).all (hasB out)
def nextO (G : GG) (out : List ByteArray) : Option ByteArray := G.ns.find? (fun s => !hasB out s && freeB G out s)
def orderGo (G : GG) : Nat → List ByteArray → List ByteArray × Bool
  | 0, _ => ([], false)
  | k + 1, out => if out.length < G.ns.length then match nextO G out with | none => ([], false) | some s => orderGo G k (out ++ [s]) else (out, true)
def orderG (G : GG) : List ByteArray × Bool := orderGo G (G.ns.length + 1) []
/-! ### lists, one less than another -/
def cmpI (a b : ByteArray) : Int := if ltB a b then -1 else if ltB b a then 1 else 0
def cmpL : List ByteArray → List ByteArray → Int
  | [], [] => 0
  | [], _ :: _ => -1
  | _ :: _, [] => 1
  | x :: s, y :: t => if cmpI x y = 0 then cmpL s t else cmpI x y
theorem cmpI_zero {a b : ByteArray} : cmpI a b = 0 ↔ a = b := by
  unfold cmpI
  by_cases h1 : ltB a b
  · rw [if_pos h1]
    exact ⟨fun h => by omega, fun h => absurd h (ltB_ne h1)⟩
  · rw [if_neg h1]
    by_cases h2 : ltB b a
    · rw [if_pos h2]
      exact ⟨fun h => by omega, fun h => absurd h.symm (ltB_ne h2)⟩
    · rw [if_neg h2]
      exact ⟨fun _ => Classical.byContradiction fun hne => h2 (ltB_or h1 hne), fun _ => rfl⟩
theorem cmpI_neg {a b : ByteArray} : cmpI a b < 0 ↔ ltB a b := by
  unfold cmpI
  by_cases h1 : ltB a b
  · rw [if_pos h1]; exact ⟨fun _ => h1, fun _ => by decide⟩
  · rw [if_neg h1]
    constructor
    · intro h; split at h <;> omega
    · exact fun h => absurd h h1
/-! ### the least cycle -/
def better (best : Option (List ByteArray)) (c : List ByteArray) : Option (List ByteArray) :=
  match best with
  | none => some c
  | some b => if c.length < b.length ∨ c.length = b.length ∧ cmpL c b < 0 then some c else some b
noncomputable def bestStep (G : GG) (best : Option (List ByteArray)) (x : ByteArray × ByteArray) : Option (List ByteArray) :=
  if (wayG G x.2 x.1).2 = true then better best (x.1 :: (wayG G x.2 x.1).1.dropLast) else best
noncomputable def bestOf (G : GG) (l : List (ByteArray × ByteArray)) : Option (List ByteArray) := l.foldl (bestStep G) none
def pairsG (G : GG) (l : List ByteArray) : List (ByteArray × ByteArray) := l.flatMap fun a => (G.out a).map fun n => (a, n)
theorem bestOf_snoc (G : GG) (l : List (ByteArray × ByteArray)) (x : ByteArray × ByteArray) : bestOf G (l ++ [x]) = bestStep G (bestOf G l) x := by unfold bestOf; rw [List.foldl_append]; rfl
theorem pairsG_snoc (G : GG) (l : List ByteArray) (a : ByteArray) : pairsG G (l ++ [a]) = pairsG G l ++ (G.out a).map fun n => (a, n) := by unfold pairsG; rw [List.flatMap_append]; simp
noncomputable def cycleG (G : GG) : Option (List ByteArray) := bestOf G (pairsG G G.ns)
theorem wayG_ok {G : GG} {a b : ByteArray} (h : (wayG G a b).2 = true) : ∃ n, a ∈ G.ns ∧ b ∈ G.ns ∧ Dist G.out n a b ∧ (wayG G a b).1 = a :: steps G.out (nearG G b) n a := by
  by_cases ha : a ∈ G.ns
  · by_cases hb : b ∈ G.ns
    · cases hd : distG G a b with
      | none => rw [wayG_none (.inr (.inr (distG_none.1 hd)))] at h; cases h
      | some n => rw [wayG_some ha hb (distG_some.1 hd)]; exact ⟨n, ha, hb, distG_some.1 hd, rfl⟩
    · rw [wayG_none (.inr (.inl hb))] at h; cases h
  · rw [wayG_none (.inl ha)] at h; cases h

def cntO (G : GG) (L : List ByteArray) (s : ByteArray) : Nat := ((G.out s).filter (fun t => !hasB L t)).length
def restO (G : GG) (L : List ByteArray) : List ByteArray := G.ns.filter (fun s => !hasB L s)
theorem cntO_nil (G : GG) (s : ByteArray) : cntO G [] s = (G.out s).length := by
  have : (G.out s).filter (fun t => !hasB [] t) = G.out s := List.filter_eq_self.2 (fun t _ => rfl)
  unfold cntO
  rw [this]
structure OOk (G : GG) (L : List ByteArray) : Prop where
  once : L.Nodup
  sub : ∀ s, s ∈ L → s ∈ G.ns
  clo : ∀ s, s ∈ L → ∀ t, t ∈ G.out s → t ∈ L
theorem OOk.nil (G : GG) : OOk G [] := ⟨List.nodup_nil, fun s h => (by cases h), fun s h => (by cases h)⟩
theorem mem_restO {G : GG} {L : List ByteArray} {s : ByteArray} : s ∈ restO G L ↔ s ∈ G.ns ∧ s ∉ L := by
  unfold restO
  rw [List.mem_filter, Bool.not_eq_true', hasB_false]
theorem ss_restO {G : GG} (h : GOk G) (L : List ByteArray) : SS (restO G L) := h.rise.sublist List.filter_sublist
theorem len_restO {G : GG} (h : GOk G) : ∀ {L : List ByteArray}, OOk G L → (restO G L).length + L.length = G.ns.length := by
  intro L hL
  have h1 : (restO G L ++ L).Nodup := List.nodup_append.2 ⟨ss_nodup (ss_restO h L), hL.once, fun a ha b hb e => by subst e; exact (mem_restO.1 ha).2 hb⟩
  have h2 : (restO G L ++ L).Perm G.ns := (List.perm_ext_iff_of_nodup h1 (ss_nodup h.rise)).2 (fun s => by
    rw [List.mem_append, mem_restO]
    constructor
    · rintro (h | h)
      · exact h.1
      · exact hL.sub s h
    · intro hs
      by_cases hl : s ∈ L
      · exact .inr hl
      · exact .inl ⟨hs, hl⟩)
  have := h2.length_eq
  rwa [List.length_append] at this
theorem cntO_zero {G : GG} {L : List ByteArray} {s : ByteArray} : cntO G L s = 0 ↔ freeB G L s = true := by
  unfold cntO freeB
  rw [List.length_eq_zero_iff, List.filter_eq_nil_iff, List.all_eq_true]
  exact ⟨fun h t ht => by simpa using h t ht, fun h t ht => by simpa using h t ht⟩
theorem cntO_le (G : GG) (L : List ByteArray) (s : ByteArray) : cntO G L s ≤ (G.out s).length := List.length_filter_le _ _
theorem nextO_rest (G : GG) (L : List ByteArray) : nextO G L = (restO G L).find? (freeB G L) := by
  unfold nextO restO
  rw [List.find?_filter]
  congr 1
  funext s
  rw [Bool.eq_iff_iff]
  simp
theorem hasB_snoc (L : List ByteArray) (s t : ByteArray) : hasB (L ++ [s]) t = (hasB L t || decide (s = t)) := by
  unfold hasB
  rw [List.any_append]
  simp
theorem restO_snoc (G : GG) (L : List ByteArray) (s : ByteArray) : restO G (L ++ [s]) = (restO G L).filter (fun t => !decide (t = s)) := by
  unfold restO
  rw [List.filter_filter]
  refine List.filter_congr (fun t _ => ?_)
  rw [hasB_snoc]
  by_cases h : t = s
  · subst h; simp
  · simp [h, Ne.symm h]
theorem OOk.snoc {G : GG} (hG : GOk G) {L : List ByteArray} (h : OOk G L) {s : ByteArray} (hs : s ∈ restO G L) (hf : freeB G L s = true) : OOk G (L ++ [s]) := by
  have hm := mem_restO.1 hs
  unfold freeB at hf
  rw [List.all_eq_true] at hf
  refine ⟨List.nodup_append.2 ⟨h.once, by simp, fun a ha b hb e => by rw [List.mem_singleton] at hb; subst hb; subst e; exact hm.2 ha⟩, fun t ht => ?_, fun t ht u hu => ?_⟩
  · rcases List.mem_append.1 ht with ht | ht
    · exact h.sub t ht
    · rw [List.mem_singleton] at ht; rw [ht]; exact hm.1
  · rcases List.mem_append.1 ht with ht | ht
    · exact List.mem_append.2 (.inl (h.clo t ht u hu))
    · rw [List.mem_singleton] at ht
      subst ht
      exact List.mem_append.2 (.inl (hasB_iff.1 (hf u hu)))
/-- one fewer is lacking where an edge leads to the new name -/
theorem cntO_snoc {G : GG} (hG : GOk G) {L : List ByteArray} {s u : ByteArray} (hs : s ∉ L) : cntO G L u = cntO G (L ++ [s]) u + (if hasB (G.out u) s = true then 1 else 0) := by
  unfold cntO
  have e : (G.out u).filter (fun t => !hasB (L ++ [s]) t) = ((G.out u).filter (fun t => !hasB L t)).filter (fun t => !decide (t = s)) := by
    rw [List.filter_filter]
    refine List.filter_congr (fun t _ => ?_)
    rw [hasB_snoc]
    by_cases h : t = s
    · subst h; simp
    · simp [h, Ne.symm h]
  rw [e]
  have key : ∀ l : List ByteArray, l.Nodup → l.length = (l.filter (fun t => !decide (t = s))).length + (if hasB l s = true then 1 else 0) := by
    intro l
    induction l with
    | nil => intro _; rfl
    | cons x l ih =>
      intro hn
      have hn' := List.nodup_cons.1 hn
      have := ih hn'.2
      by_cases h : x = s
      · subst h
        rw [List.filter_cons_of_neg (by simp), if_pos (hasB_iff.2 List.mem_cons_self)]
        rw [if_neg (fun h => hn'.1 (hasB_iff.1 h))] at this
        rw [List.length_cons]; omega
      · rw [List.filter_cons_of_pos (by simp [h]), List.length_cons, List.length_cons]
        have hiff : (s ∈ x :: l) ↔ s ∈ l := by
          rw [List.mem_cons]
          exact ⟨fun h' => h'.resolve_left (fun e => h e.symm), .inr⟩
        by_cases hm : s ∈ l
        · rw [if_pos (hasB_iff.2 hm)] at this
          rw [if_pos (hasB_iff.2 (hiff.2 hm))]; omega
        · rw [if_neg (fun h => hm (hasB_iff.1 h))] at this
          rw [if_neg (fun h => hm (hiff.1 (hasB_iff.1 h)))]; omega
  rw [key _ ((ss_nodup (hG.outs u)).sublist List.filter_sublist)]
  have : hasB ((G.out u).filter (fun t => !hasB L t)) s = hasB (G.out u) s := by
    rw [Bool.eq_iff_iff, hasB_iff, hasB_iff, List.mem_filter, Bool.not_eq_true', hasB_false]
    exact ⟨fun h => h.1, fun h => ⟨h, hs⟩⟩
  rw [this]
/-- who asks a free name is not there yet -/
theorem inn_rest {G : GG} (hG : GOk G) {L : List ByteArray} (h : OOk G L) {s u : ByteArray} (hs : s ∈ restO G L) (hf : freeB G L s = true) (hu : u ∈ G.inn s) : u ∈ restO G (L ++ [s]) := by
  have hm := mem_restO.1 hs
  have hsu := (GG.mem_inn hG u s).1 hu
  have hun : u ∈ G.ns := (List.mem_filter.1 hu).1
  refine mem_restO.2 ⟨hun, fun hl => ?_⟩
  rcases List.mem_append.1 hl with hl | hl
  · exact hm.2 (h.clo u hl s hsu)
  · rw [List.mem_singleton] at hl
    subst hl
    unfold freeB at hf
    rw [List.all_eq_true] at hf
    exact hm.2 (hasB_iff.1 (hf u hsu))
theorem orderGo_none {G : GG} {q : Nat} {L : List ByteArray} (hlt : L.length < G.ns.length) (h : nextO G L = none) : orderGo G (q + 1) L = ([], false) := by
  rw [orderGo, if_pos hlt, h]
theorem orderGo_some {G : GG} {q : Nat} {L : List ByteArray} {s : ByteArray} (hlt : L.length < G.ns.length) (h : nextO G L = some s) : orderGo G (q + 1) L = orderGo G q (L ++ [s]) := by
  rw [orderGo, if_pos hlt, h]
theorem orderGo_all {G : GG} {q : Nat} {L : List ByteArray} (hlt : ¬ L.length < G.ns.length) : orderGo G (q + 1) L = (L, true) := by
  rw [orderGo, if_neg hlt]
/-- an order is told just where no name is on a way to itself -/
theorem order_ok {G : GG} (hG : GOk G) : (∃ o, orderG G = (o, true) ∧ OOk G o ∧ o.length = G.ns.length ∧ ∀ i, (hi : i < o.length) → ∀ t, t ∈ G.out o[i] → t ∈ o.take i) ∨
    (orderG G = ([], false) ∧ ∃ L, OOk G L ∧ L.length < G.ns.length ∧ nextO G L = none) := by
  have key : ∀ (q : Nat) (L : List ByteArray), L.length + q = G.ns.length + 1 → L.length ≤ G.ns.length → OOk G L → (∀ i, (hi : i < L.length) → ∀ t, t ∈ G.out L[i] → t ∈ L.take i) →
      (∃ o, orderGo G q L = (o, true) ∧ OOk G o ∧ o.length = G.ns.length ∧ ∀ i, (hi : i < o.length) → ∀ t, t ∈ G.out o[i] → t ∈ o.take i) ∨ (orderGo G q L = ([], false) ∧ ∃ L, OOk G L ∧ L.length < G.ns.length ∧ nextO G L = none) := by
    intro q
    induction q with
    | zero => intro L h1 h2; omega
    | succ q ih =>
      intro L h1 h2 hL hi
      by_cases hlt : L.length < G.ns.length
      · cases hn : nextO G L with
        | none => exact .inr ⟨orderGo_none hlt hn, L, hL, hlt, hn⟩
        | some s =>
          rw [orderGo_some hlt hn]
          rw [nextO_rest] at hn
          have hf := List.find?_some hn
          have hm := List.mem_of_find?_eq_some hn
          refine ih (L ++ [s]) (by simp; omega) (by simp; omega) (hL.snoc hG hm hf) (fun i hi' t ht => ?_)
          by_cases hil : i < L.length
          · rw [List.getElem_append_left hil] at ht
            rw [List.take_append_of_le_length (by omega)]
            exact hi i hil t ht
          · have : i = L.length := by simp at hi'; omega
            subst this
            rw [List.getElem_append_right (Nat.le_refl _)] at ht
            simp at ht
            rw [List.take_append_of_le_length (Nat.le_refl _), List.take_of_length_le (Nat.le_refl _)]
            unfold freeB at hf
            rw [List.all_eq_true] at hf
            exact hasB_iff.1 (hf t ht)
      · exact .inl ⟨L, orderGo_all hlt, hL, by omega, hi⟩
  exact key _ [] (by simp) (by simp) (OOk.nil G) (fun i hi => by simp at hi)

/-- a list along edges: how far each is from the last -/
structure Along (G : GG) (b : ByteArray) (n : Nat) (w : List ByteArray) : Prop where
  len : w.length = n + 1
  far : ∀ i, (hi : i < w.length) → Dist G.out (n - i) w[i] b
  edge : ∀ i, (hi : i + 1 < w.length) → w[i + 1] ∈ G.out w[i]
theorem along_steps {G : GG} {b : ByteArray} : ∀ (n : Nat) (a : ByteArray), Dist G.out n a b → Along G b n (a :: steps G.out (nearG G b) n a) := by
  intro n
  induction n with
  | zero =>
    intro a hd
    rw [steps]
    refine ⟨rfl, fun i hi => ?_, fun i hi => ?_⟩
    · have : i = 0 := by simpa using hi
      subst this
      exact hd
    · simp at hi
  | succ n ih =>
    intro a hd
    obtain ⟨x, hf, hx, hdx⟩ := stepG hd
    have hs : steps G.out (nearG G b) (n + 1) a = x :: steps G.out (nearG G b) n x := by rw [steps, hf]
    have h := ih x hdx
    rw [hs]
    refine ⟨by rw [List.length_cons, h.len], fun i hi => ?_, fun i hi => ?_⟩
    · cases i with
      | zero => exact hd
      | succ i =>
        have := h.far i (by simpa using hi)
        rw [show n + 1 - (i + 1) = n - i by omega]
        exact this
    · cases i with
      | zero => exact hx
      | succ i => exact h.edge i (by simpa using hi)
section
variable {G : GG} {b : ByteArray} {n : Nat} {w : List ByteArray}
theorem Along.inj (h : Along G b n w) {i j : Nat} (hi : i < w.length) (hj : j < w.length) (e : w[i] = w[j]) : i = j := by
  have h1 := h.far i hi
  have h2 := h.far j hj
  rw [e] at h1
  have := h1.uniq h2
  have := h.len
  omega
theorem Along.last (h : Along G b n w) : w[n]'(by have := h.len; omega) = b := by
  have h1 := h.far n (by have := h.len; omega)
  rw [Nat.sub_self] at h1
  exact dist_zero.1 h1
theorem Along.once (h : Along G b n w) : w.Nodup := by
  refine List.pairwise_iff_getElem.2 (fun i j hi hj hij e => ?_)
  have := h.inj hi hj e
  omega
theorem Along.new (h : Along G b n w) {i : Nat} (hi : i < w.length) : w[i] ∉ w.take i := by
  intro hm
  obtain ⟨j, hj, e⟩ := List.getElem_of_mem hm
  rw [List.getElem_take] at e
  rw [List.length_take] at hj
  have := h.inj (by omega) hi e
  omega
/-- no edge leads past two of its steps -/
theorem Along.short (h : Along G b n w) {i j : Nat} (hi : i < w.length) (hj : j < w.length) (hij : i + 2 ≤ j) : w[j] ∉ G.out w[i] := by
  intro he
  have h1 := h.far i hi
  have h2 := h.far j hj
  exact h1.2 (n - j + 1) (by have := h.len; omega) (.succ he h2.1)
theorem stp_of_edges {f : Nat → ByteArray} (hf : ∀ k, f (k + 1) ∈ G.out (f k)) : ∀ (m k : Nat), Stp G.out m (f k) (f (k + m)) := by
  intro m
  induction m with
  | zero => exact fun k => .zero _
  | succ m ih =>
    intro k
    have := ih (k + 1)
    rw [show k + 1 + m = k + (m + 1) by omega] at this
    exact .succ (hf k) this
end
/-! ### lists, one less than another -/
theorem cmpI_flip (a b : ByteArray) : cmpI a b = - cmpI b a := by
  unfold cmpI
  by_cases h1 : ltB a b
  · rw [if_pos h1, if_neg (ltB_asymm h1), if_pos h1]
  · rw [if_neg h1]
    by_cases h2 : ltB b a
    · rw [if_pos h2, if_pos h2]; rfl
    · rw [if_neg h2, if_neg h2, if_neg h1]; rfl
theorem cmpL_flip : ∀ a b : List ByteArray, cmpL a b = - cmpL b a
  | [], [] => rfl
  | [], _ :: _ => rfl
  | _ :: _, [] => rfl
  | x :: s, y :: t => by
    rw [cmpL, cmpL, cmpI_flip x y]
    by_cases h : cmpI y x = 0
    · rw [if_pos h, if_pos (by omega), cmpL_flip s t]
    · rw [if_neg h, if_neg (by omega)]
theorem cmpL_zero : ∀ {a b : List ByteArray}, cmpL a b = 0 → a = b
  | [], [], _ => rfl
  | [], _ :: _, h => by rw [cmpL] at h; omega
  | _ :: _, [], h => by rw [cmpL] at h; omega
  | x :: s, y :: t, h => by
    rw [cmpL] at h
    by_cases h' : cmpI x y = 0
    · rw [if_pos h'] at h
      rw [cmpI_zero.1 h', cmpL_zero h]
    · rw [if_neg h'] at h
      exact absurd h h'
theorem cmpL_tr : ∀ {a b c : List ByteArray}, cmpL a b < 0 → cmpL b c < 0 → cmpL a c < 0
  | [], [], _, h, _ => by rw [cmpL] at h; omega
  | [], _ :: _, [], _, h => by rw [cmpL] at h; omega
  | [], _ :: _, _ :: _, _, _ => by rw [cmpL]; decide
  | _ :: _, [], _, h, _ => by rw [cmpL] at h; omega
  | _ :: _, _ :: _, [], _, h => by rw [cmpL] at h; omega
  | x :: s, y :: t, z :: u, h1, h2 => by
    rw [cmpL] at h1 h2 ⊢
    by_cases e1 : cmpI x y = 0
    · rw [if_pos e1] at h1
      rw [cmpI_zero.1 e1]
      by_cases e2 : cmpI y z = 0
      · rw [if_pos e2] at h2 ⊢
        exact cmpL_tr h1 h2
      · rw [if_neg e2] at h2 ⊢
        exact h2
    · rw [if_neg e1] at h1
      by_cases e2 : cmpI y z = 0
      · rw [← cmpI_zero.1 e2, if_neg e1]; exact h1
      · rw [if_neg e2] at h2
        have := cmpI_neg.2 (ltB_tr (cmpI_neg.1 h1) (cmpI_neg.1 h2))
        rw [if_neg (by omega)]
        exact this
/-- no better -/
def leC (c d : List ByteArray) : Prop := ¬ (d.length < c.length ∨ d.length = c.length ∧ cmpL d c < 0)
theorem leC_tr {a b c : List ByteArray} (h1 : leC a b) (h2 : leC b c) : leC a c := by
  unfold leC at *
  rw [not_or] at *
  refine ⟨by omega, ?_⟩
  rintro ⟨e, hc⟩
  have e1 : b.length = a.length := by omega
  have e2 : c.length = b.length := by omega
  have n1 : ¬ cmpL b a < 0 := fun h => h1.2 ⟨e1, h⟩
  have n2 : ¬ cmpL c b < 0 := fun h => h2.2 ⟨e2, h⟩
  have f1 := cmpL_flip a b
  have f2 := cmpL_flip b c
  by_cases z1 : cmpL a b = 0
  · rw [cmpL_zero z1] at hc; exact n2 hc
  · have : cmpL a b < 0 := by omega
    exact n2 (cmpL_tr hc this)
theorem leC_refl (a : List ByteArray) : leC a a := by
  unfold leC
  rw [not_or]
  refine ⟨by omega, ?_⟩
  rintro ⟨_, h⟩
  have := cmpL_flip a a
  omega
theorem better_le (best : Option (List ByteArray)) (c : List ByteArray) : ∃ d, better best c = some d ∧ leC d c ∧ (∀ b, best = some b → leC d b) ∧ (d = c ∨ best = some d) := by
  unfold better
  cases best with
  | none => exact ⟨c, rfl, leC_refl c, fun b hb => by (cases hb), .inl rfl⟩
  | some b =>
    by_cases h : c.length < b.length ∨ c.length = b.length ∧ cmpL c b < 0
    · refine ⟨c, if_pos h, leC_refl c, fun b' hb => ?_, .inl rfl⟩
      injection hb with hb
      subst hb
      unfold leC
      rw [not_or]
      rcases h with h | h
      · exact ⟨by omega, by omega⟩
      · have := cmpL_flip b c
        exact ⟨by omega, fun h' => by omega⟩
    · refine ⟨b, if_neg h, h, fun b' hb => ?_, .inr rfl⟩
      injection hb with hb
      subst hb
      exact leC_refl _
/-- c is told by one of the pairs -/
def candOf (G : GG) (x : ByteArray × ByteArray) (c : List ByteArray) : Prop := (wayG G x.2 x.1).2 = true ∧ c = x.1 :: (wayG G x.2 x.1).1.dropLast
theorem bestOf_spec (G : GG) (l : List (ByteArray × ByteArray)) : (bestOf G l = none ∧ ∀ x, x ∈ l → ∀ c, ¬ candOf G x c) ∨ ∃ c, bestOf G l = some c ∧ (∃ x, x ∈ l ∧ candOf G x c) ∧ ∀ x, x ∈ l → ∀ d, candOf G x d → leC c d := by
  have key : ∀ (l r : List (ByteArray × ByteArray)), ((bestOf G r = none ∧ ∀ x, x ∈ r → ∀ c, ¬ candOf G x c) ∨ ∃ c, bestOf G r = some c ∧ (∃ x, x ∈ r ∧ candOf G x c) ∧ ∀ x, x ∈ r → ∀ d, candOf G x d → leC c d) →
      ((bestOf G (r ++ l) = none ∧ ∀ x, x ∈ r ++ l → ∀ c, ¬ candOf G x c) ∨ ∃ c, bestOf G (r ++ l) = some c ∧ (∃ x, x ∈ r ++ l ∧ candOf G x c) ∧ ∀ x, x ∈ r ++ l → ∀ d, candOf G x d → leC c d) := by
    intro l
    induction l with
    | nil => intro r h; rw [List.append_nil]; exact h
    | cons y l ih =>
      intro r h
      rw [show r ++ y :: l = (r ++ [y]) ++ l by simp]
      refine ih _ ?_
      rw [bestOf_snoc]
      unfold bestStep
      by_cases hw : (wayG G y.2 y.1).2 = true
      · rw [if_pos hw]
        refine .inr ?_
        obtain ⟨d, hd, h1, h2, h3⟩ := better_le (bestOf G r) (y.1 :: (wayG G y.2 y.1).1.dropLast)
        refine ⟨d, hd, ?_, fun x hx e he => ?_⟩
        · rcases h3 with rfl | h3
          · exact ⟨y, by simp, hw, rfl⟩
          · rcases h with ⟨h, _⟩ | ⟨c, hc, ⟨x, hx, hcx⟩, _⟩
            · rw [h] at h3; cases h3
            · rw [hc] at h3
              injection h3 with h3
              subst h3
              exact ⟨x, by simp [hx], hcx⟩
        · rcases List.mem_append.1 hx with hx | hx
          · rcases h with ⟨_, hno⟩ | ⟨c, hc, _, hall⟩
            · exact absurd he (hno x hx e)
            · exact leC_tr (h2 c hc) (hall x hx e he)
          · rw [List.mem_singleton] at hx
            subst hx
            rw [he.2]
            exact h1
      · rw [if_neg hw]
        rcases h with ⟨h1, h2⟩ | ⟨c, h1, ⟨x, hx, hcx⟩, h3⟩
        · refine .inl ⟨h1, fun x hx c hc => ?_⟩
          rcases List.mem_append.1 hx with hx | hx
          · exact h2 x hx c hc
          · rw [List.mem_singleton] at hx
            subst hx
            exact hw hc.1
        · refine .inr ⟨c, h1, ⟨x, by simp [hx], hcx⟩, fun x hx d hd => ?_⟩
          rcases List.mem_append.1 hx with hx | hx
          · exact h3 x hx d hd
          · rw [List.mem_singleton] at hx
            subst hx
            exact absurd hd.1 hw
  have := key l [] (.inl ⟨rfl, fun x hx => by cases hx⟩)
  rwa [List.nil_append] at this
theorem mem_pairsG {G : GG} {l : List ByteArray} {x : ByteArray × ByteArray} : x ∈ pairsG G l ↔ x.1 ∈ l ∧ x.2 ∈ G.out x.1 := by
  unfold pairsG
  rw [List.mem_flatMap]
  constructor
  · rintro ⟨a, ha, h⟩
    obtain ⟨n, hn, rfl⟩ := List.mem_map.1 h
    exact ⟨ha, hn⟩
  · rintro ⟨h1, h2⟩
    exact ⟨x.1, h1, List.mem_map.2 ⟨x.2, h2, rfl⟩⟩
/-- a candidate: its length, its names along edges -/
theorem cand_of {G : GG} (hG : GOk G) {p q : ByteArray} {m : Nat} (hq : q ∈ G.out p) (hd : Dist G.out m q p) : ∃ c, candOf G (p, q) c ∧ c.length = m + 1 ∧ c[0]? = some p := by
  have hp : p ∈ G.ns := Classical.byContradiction fun hn => by rw [hG.none p hn] at hq; cases hq
  have hqn := hG.inside p q hq
  have hw := wayG_some hqn hp hd
  refine ⟨_, ⟨by show (wayG G q p).2 = true; rw [hw], rfl⟩, ?_, rfl⟩
  show (p :: (wayG G q p).1.dropLast).length = m + 1
  rw [hw, List.length_cons, List.length_dropLast, (along_steps m q hd).len]
  omega
structure CycOk (G : GG) (c : List ByteArray) : Prop where
  pos : 0 < c.length
  once : ∀ i, (hi : i < c.length) → c[i] ∉ c.take i
  next : ∀ i, (hi : i < c.length) → c[(i + 1) % c.length]'(Nat.mod_lt _ (by omega)) ∈ G.out c[i]
  first : ∀ i, (hi : i < c.length) → ¬ ltB c[i] (c[0]'(by omega))
  chord : ∀ i, (hi : i < c.length) → ∀ m, m ∈ G.out c[i] → m ≠ c[(i + 1) % c.length]'(Nat.mod_lt _ (by omega)) → m ∉ c
theorem cyc_ok {G : GG} (hG : GOk G) {c : List ByteArray} (h : cycleG G = some c) : CycOk G c := by
  rcases bestOf_spec G (pairsG G G.ns) with ⟨h0, _⟩ | ⟨c', hc', ⟨x, hx, hcx⟩, hmin⟩
  · unfold cycleG at h; rw [h0] at h; cases h
  unfold cycleG at h
  rw [hc'] at h
  injection h with h
  subst h
  obtain ⟨p, q⟩ := x
  obtain ⟨hp, hq⟩ := mem_pairsG.1 hx
  obtain ⟨m, hqn, hpn, hd, hw⟩ := wayG_ok hcx.1
  have al := along_steps m q hd
  have hce : c' = p :: (q :: steps G.out (nearG G p) m q).dropLast := by rw [hcx.2]; show p :: (wayG G q p).1.dropLast = _; rw [hw]
  obtain ⟨w, hwe⟩ : ∃ w, q :: steps G.out (nearG G p) m q = w := ⟨_, rfl⟩
  have hw0 : w[0]? = some q := by rw [← hwe]; rfl
  rw [hwe] at al hce
  clear hw hwe
  subst hce
  have hwl := al.len
  have hL : (p :: w.dropLast).length = m + 1 := by rw [List.length_cons, List.length_dropLast]; omega
  -- its names
  have hget : ∀ i, (hi : i < m) → (p :: w.dropLast)[i + 1]'(by omega) = w[i]'(by omega) := fun i hi => by rw [List.getElem_cons_succ, List.getElem_dropLast]
  have hlast : w[m]'(by omega) = p := al.last
  have q0 : w[0]'(by omega) = q := by rw [List.getElem?_eq_getElem (by omega)] at hw0; exact Option.some.inj hw0
  have hnx : ∀ i, (hi : i < m + 1) → (p :: w.dropLast)[(i + 1) % (m + 1)]'(by rw [hL]; exact Nat.mod_lt _ (by omega)) = w[i]'(by omega) := by
    intro i hi
    by_cases him : i = m
    · subst him
      simp only [Nat.mod_self]
      exact hlast.symm
    · have e : (i + 1) % (m + 1) = i + 1 := Nat.mod_eq_of_lt (by omega)
      simp only [e]
      exact hget i (by omega)
  have hedge : ∀ i, (hi : i < m + 1) → w[i]'(by omega) ∈ G.out ((p :: w.dropLast)[i]'(by omega)) := by
    intro i hi
    cases i with
    | zero => show w[0] ∈ G.out p; rw [q0]; exact hq
    | succ i =>
      rw [hget i (by omega)]
      exact al.edge i (by omega)
  have hinj : ∀ i j, (hi : i < m + 1) → (hj : j < m + 1) → (p :: w.dropLast)[i]'(by omega) = (p :: w.dropLast)[j]'(by omega) → i = j := by
    have h0 : ∀ j, (hj : j + 1 < m + 1) → ¬ p = (p :: w.dropLast)[j + 1]'(by omega) := fun j hj e => by
      rw [hget j (by omega), ← hlast] at e
      have := al.inj (by omega) (by omega) e
      omega
    intro i j hi hj e
    cases i with
    | zero =>
      cases j with
      | zero => rfl
      | succ j => exact absurd e (h0 j hj)
    | succ i =>
      cases j with
      | zero => exact absurd e.symm (h0 i hi)
      | succ j =>
        rw [hget i (by omega), hget j (by omega)] at e
        have := al.inj (by omega) (by omega) e
        omega
  have hcyc := stp_of_edges (G := G) (f := fun k => (p :: w.dropLast)[k % (m + 1)]'(by rw [hL]; exact Nat.mod_lt _ (by omega))) (fun k => by
    have hk := Nat.mod_lt k (show 0 < m + 1 by omega)
    have := hedge (k % (m + 1)) hk
    rw [← hnx _ hk] at this
    have e : (k % (m + 1) + 1) % (m + 1) = (k + 1) % (m + 1) := by rw [Nat.add_mod (k % (m + 1)), Nat.mod_mod, ← Nat.add_mod]
    simp only [e] at this
    exact this)
  -- the least
  have hleast : ∀ i j, (hi : i < m + 1) → (hj : j < m + 1) → (p :: w.dropLast)[j]'(by omega) ∈ G.out ((p :: w.dropLast)[i]'(by omega)) → (i + (m + 1) - j) % (m + 1) = m ∧ ¬ ltB ((p :: w.dropLast)[i]'(by omega)) p := by
    intro i j hi hj he
    have hs := hcyc ((i + (m + 1) - j) % (m + 1)) j
    have e1 : (j + (i + (m + 1) - j) % (m + 1)) % (m + 1) = i := by
      rw [Nat.add_mod, Nat.mod_mod, ← Nat.add_mod, show j + (i + (m + 1) - j) = i + (m + 1) by omega, Nat.add_mod_right, Nat.mod_eq_of_lt hi]
    simp only [e1, Nat.mod_eq_of_lt hj] at hs
    obtain ⟨k, hk, hdk⟩ := dist_of_stp hs
    obtain ⟨d, hd1, hd2, hd3⟩ := cand_of hG he hdk
    have hip : (p :: w.dropLast)[i]'(by omega) ∈ G.ns := Classical.byContradiction fun hn => by rw [hG.none _ hn] at he; cases he
    have := hmin _ (mem_pairsG.2 ⟨hip, he⟩) d hd1
    unfold leC at this
    rw [not_or, hd2, hL] at this
    have hm := Nat.mod_lt (i + (m + 1) - j) (show 0 < m + 1 by omega)
    refine ⟨by omega, fun hlt => this.2 ⟨by omega, ?_⟩⟩
    cases d with
    | nil => cases hd3
    | cons y d =>
      rw [List.getElem?_cons_zero] at hd3
      have hy := Option.some.inj hd3
      subst hy
      rw [cmpL]
      have hn := cmpI_neg.2 hlt
      rw [if_neg (by omega)]
      exact hn
  refine ⟨by omega, fun i hi hm => ?_, fun i hi => ?_, fun i hi => ?_, fun i hi t ht hne hm => ?_⟩
  · obtain ⟨j, hj, e⟩ := List.getElem_of_mem hm
    rw [List.getElem_take] at e
    rw [List.length_take] at hj
    have := hinj j i (by omega) (by omega) e
    omega
  · have := hedge i (by omega)
    rw [← hnx i (by omega)] at this
    simp only [hL]
    exact this
  · have h1 := hedge i (by omega)
    rw [← hnx i (by omega)] at h1
    exact (hleast i ((i + 1) % (m + 1)) (by omega) (Nat.mod_lt _ (by omega)) h1).2
  · obtain ⟨j, hj, e⟩ := List.getElem_of_mem hm
    subst e
    have h1 := (hleast i j (by omega) (by omega) ht).1
    refine hne ?_
    have : j = (i + 1) % (m + 1) := by
      have hi' : i < m + 1 := by omega
      have hj' : j < m + 1 := by omega
      by_cases hij : j ≤ i
      · have e2 : i + (m + 1) - j = (i - j) + (m + 1) := by omega
        rw [e2, Nat.add_mod_right, Nat.mod_eq_of_lt (by omega)] at h1
        have : j = 0 := by omega
        have : i = m := by omega
        subst this
        rw [Nat.mod_self]
        omega
      · rw [Nat.mod_eq_of_lt (by omega)] at h1
        rw [Nat.mod_eq_of_lt (by omega)]
        omega
    simp only [hL, this]

end Go.Proofs.Ytmhbdgnajlnhnaa.Pl
