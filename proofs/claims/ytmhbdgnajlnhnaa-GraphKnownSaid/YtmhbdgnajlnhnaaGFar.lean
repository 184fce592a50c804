/- Folded: PlFar, GVisit, GFar. -/
import Derived.Test.YtmhbdgnajlnhnaaPlGraph
import Derived.Test.YtmhbdgnajlnhnaaGNew
import Derived.Test.YtmhbdgnajlnhnaaPx0
import Derived.Test.YtmhbdgnajlnhnaaWAt
import Derived.WalkMore
/- Distances in a graph, plainly. -/
namespace Go.Proofs.Ytmhbdgnajlnhnaa.Pl
open Go.RowKit Go.Proofs.YtmhbdgnajlnhnaaW.PrintWords
/-- a way of n edges -/
inductive Stp (F : ByteArray → List ByteArray) : Nat → ByteArray → ByteArray → Prop where
  | zero (a : ByteArray) : Stp F 0 a a
  | succ {n : Nat} {a b c : ByteArray} : b ∈ F a → Stp F n b c → Stp F (n + 1) a c
/-- n edges, and no fewer -/
def Dist (F : ByteArray → List ByteArray) (n : Nat) (a b : ByteArray) : Prop := Stp F n a b ∧ ∀ m, m < n → ¬ Stp F m a b
section
variable {F : ByteArray → List ByteArray} {a b c : ByteArray} {n m : Nat}
theorem Dist.uniq (h : Dist F n a b) (h2 : Dist F m a b) : n = m := by
  rcases Nat.lt_trichotomy n m with h' | h' | h'
  · exact absurd h.1 (h2.2 n h')
  · exact h'
  · exact absurd h2.1 (h.2 m h')
theorem dist_zero : Dist F 0 a b ↔ a = b := by
  constructor
  · intro h
    cases h.1
    rfl
  · rintro rfl
    exact ⟨.zero _, fun m hm => absurd hm (Nat.not_lt_zero m)⟩
theorem dist_of_stp (h : Stp F n a b) : ∃ m, m ≤ n ∧ Dist F m a b := by
  induction n using Nat.strongRecOn generalizing a b with
  | _ n ih =>
    by_cases hx : ∃ m, m < n ∧ Stp F m a b
    · obtain ⟨m, hm, hs⟩ := hx
      obtain ⟨k, hk, hd⟩ := ih m hm hs
      exact ⟨k, by omega, hd⟩
    · exact ⟨n, Nat.le_refl _, h, fun m hm hs => hx ⟨m, hm, hs⟩⟩
theorem dist_succ : Dist F (n + 1) a b ↔ (∃ c, c ∈ F a ∧ Dist F n c b) ∧ ∀ m, m ≤ n → ¬ Dist F m a b := by
  constructor
  · intro h
    refine ⟨?_, fun m hm hd => h.2 m (by omega) hd.1⟩
    cases h.1 with
    | succ hc hs =>
      refine ⟨_, hc, hs, fun m hm hs2 => h.2 (m + 1) (by omega) (.succ hc hs2)⟩
  · rintro ⟨⟨c, hc, hd⟩, hn⟩
    refine ⟨.succ hc hd.1, fun m hm hs => ?_⟩
    obtain ⟨k, hk, hd⟩ := dist_of_stp hs
    exact hn k (by omega) hd
/-- where no name is n edges away, none is further away -/
theorem dist_none (h : ∀ s, ¬ Dist F n s b) : ∀ m, n ≤ m → ∀ s, ¬ Dist F m s b := by
  intro m hm
  induction hm with
  | refl => exact h
  | step _ ih =>
    intro s hd
    obtain ⟨⟨c, _, hc⟩, _⟩ := dist_succ.1 hd
    exact ih c hc
theorem stp_inside {G : GG} (hG : GOk G) (h : Stp G.out n a b) (hb : b ∈ G.ns) : a ∈ G.ns := by
  cases h with
  | zero => exact hb
  | succ hc _ => exact Classical.byContradiction fun hn => by rw [hG.none a hn] at hc; cases hc
end
/-- the names that are nearer than n, and how far each is -/
structure Near (G : GG) (t : ByteArray) (n : Nat) (K : List ByteArray) (d : ByteArray → Nat) : Prop where
  once : K.Nodup
  all : ∀ s, s ∈ K ↔ ∃ m, m < n ∧ Dist G.out m s t
  far : ∀ s, s ∈ K → Dist G.out (d s) s t
theorem Near.start (G : GG) (t : ByteArray) (d : ByteArray → Nat) (hd : d t = 0) : Near G t 1 [t] d := by
  refine ⟨by simp, fun s => ?_, fun s hs => ?_⟩
  · rw [List.mem_singleton]
    constructor
    · rintro rfl; exact ⟨0, by omega, dist_zero.2 rfl⟩
    · rintro ⟨m, hm, h⟩
      have : m = 0 := by omega
      subst this
      exact dist_zero.1 h
  · rw [List.mem_singleton] at hs
    subst hs
    rw [hd]; exact dist_zero.2 rfl
/-- a wave: what leads to names n edges away and is not nearer -/
theorem Near.wave {G : GG} (hG : GOk G) {t : ByteArray} {n : Nat} {K wv : List ByteArray} {d : ByteArray → Nat} (h : Near G t (n + 1) K d) (hw : ∀ s, s ∈ wv ↔ Dist G.out n s t) (s : ByteArray) (hs : s ∉ K) : (∃ a, a ∈ wv ∧ s ∈ G.inn a) ↔ Dist G.out (n + 1) s t := by
  rw [dist_succ]
  constructor
  · rintro ⟨a, ha, hi⟩
    refine ⟨⟨a, (GG.mem_inn hG s a).1 hi, (hw a).1 ha⟩, fun m hm hd => hs ((h.all s).2 ⟨m, by omega, hd⟩)⟩
  · rintro ⟨⟨c, hc, hd⟩, _⟩
    exact ⟨c, (hw c).2 hd, (GG.mem_inn hG s c).2 hc⟩
theorem Near.next {G : GG} (hG : GOk G) {t : ByteArray} {n : Nat} {K wv x : List ByteArray} {d d' : ByteArray → Nat} (h : Near G t (n + 1) K d) (hw : ∀ s, s ∈ wv ↔ Dist G.out n s t) (hx : x.Nodup) (hxs : ∀ s, s ∈ x ↔ s ∉ K ∧ ∃ a, a ∈ wv ∧ s ∈ G.inn a)
    (hd1 : ∀ s, s ∈ K → d' s = d s) (hd2 : ∀ s, s ∈ x → d' s = n + 1) : Near G t (n + 2) (K ++ x) d' ∧ ∀ s, s ∈ x ↔ Dist G.out (n + 1) s t := by
  have hk : ∀ s, s ∈ x ↔ Dist G.out (n + 1) s t := fun s => by
    rw [hxs s]
    constructor
    · rintro ⟨h1, h2⟩; exact (h.wave hG hw s h1).1 h2
    · intro hd
      have hn : s ∉ K := fun hk => by
        obtain ⟨m, hm, hd'⟩ := (h.all s).1 hk
        have := hd.uniq hd'
        omega
      exact ⟨hn, (h.wave hG hw s hn).2 hd⟩
  refine ⟨⟨List.nodup_append.2 ⟨h.once, hx, fun a ha b hb e => by subst e; exact ((hxs a).1 hb).1 ha⟩, fun s => ?_, fun s hs => ?_⟩, hk⟩
  · rw [List.mem_append, h.all, hk]
    constructor
    · rintro (⟨m, hm, hd⟩ | hd)
      · exact ⟨m, by omega, hd⟩
      · exact ⟨n + 1, by omega, hd⟩
    · rintro ⟨m, hm, hd⟩
      by_cases e : m = n + 1
      · subst e; exact .inr hd
      · exact .inl ⟨m, by omega, hd⟩
  · rcases List.mem_append.1 hs with h' | h'
    · rw [hd1 s h']; exact h.far s h'
    · rw [hd2 s h']; exact (hk s).1 h'
/-- how far each name is from which a way leads -/
structure FarOf (G : GG) (t : ByteArray) (K : List ByteArray) (d : ByteArray → Nat) : Prop where
  once : K.Nodup
  all : ∀ s, s ∈ K ↔ ∃ m, Dist G.out m s t
  far : ∀ s, s ∈ K → Dist G.out (d s) s t
theorem Near.whole {G : GG} {t : ByteArray} {n : Nat} {K : List ByteArray} {d : ByteArray → Nat} (h : Near G t n K d) (hn : ∀ s, ¬ Dist G.out n s t) : FarOf G t K d := by
  refine ⟨h.once, fun s => ?_, h.far⟩
  rw [h.all]
  constructor
  · rintro ⟨m, _, hd⟩; exact ⟨m, hd⟩
  · rintro ⟨m, hd⟩
    refine ⟨m, Classical.byContradiction fun hlt => ?_, hd⟩
    exact dist_none hn m (by omega) s hd
theorem Near.len {G : GG} (hG : GOk G) {t : ByteArray} {n : Nat} {K : List ByteArray} {d : ByteArray → Nat} (ht : t ∈ G.ns) (h : Near G t n K d) : K.length ≤ G.ns.length :=
  List.Nodup.length_le_of_subset h.once (fun s hs => by obtain ⟨m, _, hd⟩ := (h.all s).1 hs; exact stp_inside hG hd.1 ht)
end Go.Proofs.Ytmhbdgnajlnhnaa.Pl
/- graph's closed: what ways of edges lead to: the closure that visits. -/
namespace Go.Proofs.Ytmhbdgnajlnhnaa.Pl
open Go.RowKit Go.Proofs.YtmhbdgnajlnhnaaW.PrintWords
/-- ways of edges -/
inductive Rch (F : ByteArray → List ByteArray) : ByteArray → ByteArray → Prop where
  | refl (a : ByteArray) : Rch F a a
  | step {a b c : ByteArray} : Rch F a b → c ∈ F b → Rch F a c
theorem Rch.trans {F : ByteArray → List ByteArray} {a b c : ByteArray} (h : Rch F a b) (h2 : Rch F b c) : Rch F a c := by
  induction h2 with
  | refl => exact h
  | step _ hc ih => exact .step ih hc
/-- what a visit leaves -/
structure VPost (ns : List ByteArray) (F : ByteArray → List ByteArray) (a : ByteArray) (T T' : List ByteArray) : Prop where
  sub : ∀ s, s ∈ T → s ∈ T'
  self : a ∈ ns → a ∈ T'
  ways : ∀ s, s ∈ T' → s ∉ T → Rch F a s
  next : ∀ s, s ∈ T' → s ∉ T → ∀ t, t ∈ F s → t ∈ T'
end Go.Proofs.Ytmhbdgnajlnhnaa.Pl
namespace Go.Proofs.Ytmhbdgnajlnhnaa.P
open Go.RowKit Go.Maps Go.MapKept Go.ChangeMaps Go.Proofs.YtmhbdgnajlnhnaaW.PrintWords Go.Proofs.YtmhbdgnajlnhnaaW.PrintLast Go.Proofs.YtmhbdgnajlnhnaaW.PrintMore Go.Proofs.Ytmhbdgnajlnhnaa.Pl
set_option linter.unusedVariables false
set_option linter.unusedSimpArgs false
structure VMem (base : Nat) (role : Nat → Role) (p : Nat) (G : GG) (F : ByteArray → List ByteArray) (be : Nat) (eb : ByteArray → Nat) (h : Nat) (T : List ByteArray) (w : World) : Prop where
  g : GMem w base role p G
  e : MM w be G.ns eb F
  er : role be ≠ .none ∧ ∀ s, s ∈ G.ns → role (eb s) ≠ .none
  hi : ∀ k, role k ≠ .none → k < h
  cells : w.cell? ⟨h + 3, 0, none⟩ = some (.map (some (h + 2))) ∧ w.cell? ⟨h, 0, none⟩ = some (.pointer (some ⟨p, 0, none⟩)) ∧ w.cell? ⟨h + 1, 0, none⟩ = some (.map (some be)) ∧ w.cell? ⟨h + 4, 0, none⟩ = some (.func (.func 58) #[] #[.pointer (some ⟨h + 3, 0, none⟩), .pointer (some ⟨h, 0, none⟩), .pointer (some ⟨h + 1, 0, none⟩), .pointer (some ⟨h + 4, 0, none⟩)])
  seen : MapV w (h + 2) T.length (fun s => if hasB T s = true then some (.bool true) else none)
  rise : SS T
  sub : ∀ s, s ∈ T → s ∈ G.ns
  few : ∀ s, (F s).length ≤ 100000
section
variable {base p be h : Nat} {role : Nat → Role} {G : GG} {F : ByteArray → List ByteArray} {eb : ByteArray → Nat} {T : List ByteArray} {w w' : World}
theorem cell_lt {w : World} {g o : Nat} {v : Value} (h : w.cell? ⟨g, o, none⟩ = some v) : g < w.heap.size := World.block_lt_of_cell? _ _ h
theorem cell_of {w w' : World} {g o : Nat} {v : Value} (h : w.cell? ⟨g, o, none⟩ = some v) (hb : w'.heap[g]? = w.heap[g]?) : w'.cell? ⟨g, o, none⟩ = some v := by
  rw [← h]; simp [World.cell?, hb]
theorem VMem.size (m : VMem base role p G F be eb h T w) : h + 4 < w.heap.size := cell_lt m.cells.2.2.2
theorem VMem.keep (m : VMem base role p G F be eb h T w) (hk : ∀ k, k < h + 5 → w'.heap[k]? = w.heap[k]?) (hs : w.heap.size ≤ w'.heap.size) : VMem base role p G F be eb h T w' :=
  ⟨m.g.keep (fun k hr => hk k (by have := m.hi k hr; omega)) hs, m.e.step (hk be (by have := m.hi be m.er.1; omega)) (fun s hs => hk _ (by have := m.hi _ (m.er.2 s hs); omega)), m.er, m.hi,
    ⟨cell_of m.cells.1 (hk _ (by omega)), cell_of m.cells.2.1 (hk _ (by omega)), cell_of m.cells.2.2.1 (hk _ (by omega)), cell_of m.cells.2.2.2 (hk _ (by omega))⟩, m.seen.step (hk _ (by omega)), m.rise, m.sub, m.few⟩
theorem VMem.len (m : VMem base role p G F be eb h T w) : T.length ≤ G.ns.length := List.Nodup.length_le_of_subset (ss_nodup m.rise) m.sub
/-- a name is marked -/
theorem VMem.mark (m : VMem base role p G F be eb h T w) {a : ByteArray} (ha : a ∈ G.ns) (hn : a ∉ T) (hs : a.size ≤ maxLen) :
    ∃ w', (Instr.mapUpdate 73 (.map (some (h + 2))) (.string a) (.bool true)).run Try.prog w = .ok () w' ∧ VMem base role p G F be eb h (ins a T) w' ∧ Turn (fun k => k = h + 2) w w' ∧ w'.heap.size = w.heap.size := by
  have hl := m.len
  have hf := m.g.few
  have hz := m.size
  obtain ⟨w', r, M, g, sz⟩ := m.seen.put Try.underlying73 (lt_max (Nat.le_trans hl hf)) hs (.bool true)
  have hk : ∀ k, k < w.heap.size → k ≠ h + 2 → w'.heap[k]? = w.heap[k]? := fun k hk hn => grown_blk g hk (fun e => hn (Option.some.inj e).symm)
  refine ⟨w', r, ?_, Turn.grown (ok := fun k => k = h + 2) g (fun k e => (Option.some.inj e).symm), sz⟩
  refine ⟨m.g.keep (fun k hr => hk k (by have := m.hi k hr; omega) (by have := m.hi k hr; omega)) (by omega), m.e.step (hk be (by have := m.hi be m.er.1; omega) (by have := m.hi be m.er.1; omega)) (fun s hs => hk _ (by have := m.hi _ (m.er.2 s hs); omega) (by have := m.hi _ (m.er.2 s hs); omega)), m.er, m.hi,
    ⟨cell_of m.cells.1 (hk _ (by omega) (by omega)), cell_of m.cells.2.1 (hk _ (by omega) (by omega)), cell_of m.cells.2.2.1 (hk _ (by omega) (by omega)), cell_of m.cells.2.2.2 (hk _ (by omega) (by omega))⟩, ?_, ss_ins a T m.rise, fun s hs => ?_, m.few⟩
  · rw [ins_len_new m.rise hn]
    refine cast (congrArg (MapV w' (h + 2) (T.length + 1)) ?_) M
    funext u
    by_cases e : u = a
    · subst e
      rw [upd_same, if_pos (hasB_iff.2 ((mem_ins _ _ _).2 (.inl rfl)))]
    · rw [upd_other _ e]
      have : hasB (ins a T) u = hasB T u := by
        rw [Bool.eq_iff_iff, hasB_iff, hasB_iff, mem_ins]
        exact ⟨fun h' => by rcases h' with h' | h'; exact absurd h' e; exact h', fun h' => .inr h'⟩
      rw [this]
  · rcases (mem_ins _ _ _).1 hs with rfl | hs
    · exact ha
    · exact m.sub s hs
/-- what a call of visit does -/
def VDid (base : Nat) (role : Nat → Role) (p : Nat) (G : GG) (F : ByteArray → List ByteArray) (be : Nat) (eb : ByteArray → Nat) (h : Nat) (a : ByteArray) (T : List ByteArray) (w : World) (e : Ending) (w' : World) : Prop :=
  e = .returned (.tuple #[]) ∧ ∃ T', VMem base role p G F be eb h T' w' ∧ VPost G.ns F a T T' ∧ Turn (fun k => k = h + 2) w w'
/-- between the rounds of visit's range -/
structure VIn (base : Nat) (role : Nat → Role) (p : Nat) (G : GG) (F : ByteArray → List ByteArray) (be : Nat) (eb : ByteArray → Nat) (h : Nat) (a : ByteArray) (T T2 : List ByteArray) (lf : ByteArray → Bool) (w wr : World) : Prop where
  m : VMem base role p G F be eb h T2 wr
  sub : ∀ s, s ∈ ins a T → s ∈ T2
  past : ∀ s, s ∈ F a → lf s = false → s ∈ T2
  ways : ∀ s, s ∈ T2 → s ∉ ins a T → Rch F a s
  next : ∀ s, s ∈ T2 → s ∉ ins a T → ∀ t, t ∈ F s → t ∈ T2
  turn : Turn (fun k => k = h + 2) w wr
theorem VIn.done {a : ByteArray} {T T2 : List ByteArray} {lf : ByteArray → Bool} {wr : World} (i : VIn base role p G F be eb h a T T2 lf w wr) (hG : a ∈ G.ns) (hn : a ∉ T) (hd : ∀ s, s ∈ F a → lf s = false) : VDid base role p G F be eb h a T w (.returned (.tuple #[])) wr := by
  refine ⟨rfl, T2, i.m, ⟨fun s hs => i.sub s ((mem_ins _ _ _).2 (.inr hs)), fun _ => i.sub a ((mem_ins _ _ _).2 (.inl rfl)), fun s hs hn => ?_, fun s hs hn => ?_⟩, i.turn⟩
  · by_cases e : s = a
    · subst e; exact .refl _
    · exact i.ways s hs (fun h' => by rcases (mem_ins _ _ _).1 h' with h' | h'; exact e h'; exact hn h')
  · by_cases e : s = a
    · subst e; exact fun t ht => i.past t ht (hd t ht)
    · exact i.next s hs (fun h' => by rcases (mem_ins _ _ _).1 h' with h' | h'; exact e h'; exact hn h')
theorem VIn.more {a s : ByteArray} {T T2 T4 : List ByteArray} {lf : ByteArray → Bool} {wr w4 : World} (i : VIn base role p G F be eb h a T T2 lf w wr) (hF : ∀ s t, t ∈ F s → t ∈ G.ns) (hs : s ∈ F a) (m4 : VMem base role p G F be eb h T4 w4) (P : VPost G.ns F s T2 T4) (t4 : Turn (fun k => k = h + 2) w w4) :
    VIn base role p G F be eb h a T T4 (fun t => lf t && !decide (t = s)) w w4 := by
  refine ⟨m4, fun x hx => P.sub x (i.sub x hx), fun x hx hl => ?_, fun x hx hn => ?_, fun x hx hn => ?_, t4⟩
  · by_cases e : x = s
    · subst e; exact P.self (hF a x hx)
    · refine P.sub x (i.past x hx ?_)
      simpa [e] using hl
  · by_cases hx2 : x ∈ T2
    · exact i.ways x hx2 hn
    · exact (Rch.step (.refl a) hs).trans (P.ways x hx hx2)
  · by_cases hx2 : x ∈ T2
    · exact fun t ht => P.sub t (i.next x hx2 hn t ht)
    · exact P.next x hx hx2
set_option maxRecDepth 1000000 in
set_option maxHeartbeats 4000000 in
theorem visit_calls (hF : ∀ s t, t ∈ F s → t ∈ G.ns) (hshort : ∀ s, s ∈ G.ns → s.size ≤ maxLen) : ∀ (n : Nat) (a : ByteArray) (T : List ByteArray) (w : World), G.ns.length ≤ T.length + n → a.size ≤ maxLen → VMem base role p G F be eb h T w →
    Calls Try.prog 58 #[.string a, .pointer (some ⟨h + 3, 0, none⟩), .pointer (some ⟨h, 0, none⟩), .pointer (some ⟨h + 1, 0, none⟩), .pointer (some ⟨h + 4, 0, none⟩)] w (VDid base role p G F be eb h a T w) := by
  intro n
  induction n with
  | zero | succ n ih =>
    intro a T w hn ha m
    have c1 := m.cells.1
    have c2 := m.cells.2.1
    have c3 := m.cells.2.2.1
    have c4 := m.cells.2.2.2
    have hlook : (Instr.lookup 73 (.map (some (h + 2))) (.string a) false).run Try.prog w = .ok (.bool (hasB T a)) w := by
      rw [m.seen.look Try.underlying73 (zero4 w) ha]
      cases hasB T a <;> rfl
    have hhas := has_calls m.g a ha
    cases hb : hasB T a
    case true =>
      rw [hb] at hlook
      have hin := hasB_iff.1 hb
      have H : Aside0 (VDid base role p G F be eb h a T w (.returned (.tuple #[])) w) := ⟨rfl, T, m, ⟨fun s hs => hs, fun _ => hin, fun s hs hn => absurd hs hn, fun s hs hn => absurd hs hn⟩, Turn.refl _ _⟩
      clear m hhas hin hb
      go_enter Try.func58, Try.ntmps58
      go_wp2_with fail
      first | go_end0 | (simp only [Exit.inBlock, Exit.then]; refine bodyPost_ret (results_none rfl _ _ _) rfl ?_) | refine bodyPost_ret (results_none rfl _ _ _) rfl ?_
      exact H.out
    case false =>
      rw [hb] at hlook
      have hnT := hasB_false.1 hb
      cases hg : hasB G.ns a
      case false =>
        rw [hg] at hhas
        have hnG := hasB_false.1 hg
        have H : Aside0 (VDid base role p G F be eb h a T w (.returned (.tuple #[])) w) := ⟨rfl, T, m, ⟨fun s hs => hs, fun h' => absurd h' hnG, fun s hs hn => absurd hs hn, fun s hs hn => absurd hs hn⟩, Turn.refl _ _⟩
        clear m hnT hnG hb hg
        go_enter Try.func58, Try.ntmps58
        go_wp2_with fail
        refine hhas.mono ?_
        rintro e w1 ⟨rfl, rfl⟩
        go_wp2_with fail
        first | go_end0 | (simp only [Exit.inBlock, Exit.then]; refine bodyPost_ret (results_none rfl _ _ _) rfl ?_) | refine bodyPost_ret (results_none rfl _ _ _) rfl ?_
        exact H.out
      case true =>
        rw [hg] at hhas
        have hG := hasB_iff.1 hg
        first
          | (exfalso
             have h1 := ins_len_new m.rise hnT
             have h2 : (ins a T).length ≤ G.ns.length := List.Nodup.length_le_of_subset (ss_nodup (ss_ins a T m.rise)) (fun s hs => by rcases (mem_ins _ _ _).1 hs with rfl | hs; exact hG; exact m.sub s hs)
             omega)
          | (obtain ⟨w1, hrun, m1, t1, z1⟩ := m.mark hG hnT ha
             have c3' := m1.cells.2.2.1
             have hl2 := m1.e.look (w := w1) ha
             rw [if_pos hg] at hl2
             have hn1 : G.ns.length ≤ (ins a T).length + n := by rw [ins_len_new m.rise hnT]; omega
             have M0 := Aside0.mk (And.intro m.rise (And.intro hnT t1))
             clear m hb hnT t1 c3 c4
             have HM1 := Aside0.mk m1
             go_enter Try.func58, Try.ntmps58
             go_wp2_with fail
             refine hhas.mono ?_
             rintro e w2 ⟨rfl, rfl⟩
             clear hhas
             go_wp2_with (first | (at_range; refine range_event rfl rfl Try.underlying73 rfl (m1.e.sub a hG) ?_; intro wr0 cnt hr0 hgr0 hsr0 hcnt))
             have hz := m1.size
             have B0 := Aside0.mk (show VIn base role p G F be eb h a T (ins a T) (fun s => (if hasB (F a) s = true then some (Value.bool true) else none).isSome) w2 wr0 from
               ⟨m1.keep (fun k hk => grown_blk hgr0 (by omega) (fun e => (by cases e))) (by omega), fun s hs => hs, fun s hs hl => (by rw [hasB_iff.2 hs] at hl; cases hl), fun s hs hn => absurd hs hn, fun s hs hn => absurd hs hn, M0.out.2.2.trans (Turn.grown (ok := fun k => k = h + 2) hgr0 (fun k e => (by cases e))) (fun k hk => .inl hk)⟩)
             have hS := Aside0.mk (show ∀ s, s ∈ F a → s.size ≤ maxLen from fun s hs => hshort s (hF a s hs))
             have Z1 := Aside0.mk z1
             clear m1 hl2 c1 c2 c3' hlook hrun hgr0 hsr0 hg z1
             obtain ⟨r, hr⟩ : ∃ r, w1.heap.size = r := ⟨_, rfl⟩
             rw [hr] at hr0 hz Z1 ⊢
             simp only [Act.put, List.setIfInBounds_toArray, List.set_cons_zero, List.set_cons_succ]
             go_loopg [6] (cnt + 1) (fun n v6 wr => ∃ (lf : ByteArray → Bool) (c : Nat) (T2 : List ByteArray), Aside0 (n = c + 1) ∧ Aside0 (RangeV wr (eb a) r (F a).length (fun t => if hasB (F a) t = true then some (.bool true) else none) lf c) ∧ Aside0 (VIn base role p G F be eb h a T T2 lf w2 wr))
             case atStart => exact ⟨_, cnt, _, ⟨rfl⟩, ⟨hr0⟩, B0⟩
             case round =>
               obtain ⟨lf, c, T2, hn, HR, HI⟩ := hrel
               clear hr0 B0
               have c4 := HI.out.m.cells.2.2.2
               go_wp2_with (first | (at_next; refine next_event rfl rfl rfl HR.out ?_ ?_))
               · intro hd
                 have HE := Aside0.mk (HI.out.done hG M0.out.2.1 (fun s hs => hd s (hS.out s hs)))
                 clear hd
                 go_wp2_with fail
                 first | go_end0 | (simp only [Exit.inBlock, Exit.then]; refine bodyPost_ret (results_none rfl _ _ _) rfl ?_) | refine bodyPost_ret (results_none rfl _ _ _) rfl ?_
                 exact HE.out
               · intro s v w3 c' hs hlf hfs hvv hr1 hlt hg3 hsz hen
                 subst hvv
                 have hsF : s ∈ F a := hasB_iff.1 hfs
                 have m3 := HI.out.m.keep (w' := w3) (fun k hk => grown_blk hg3 (by have := HI.out.m.size; omega) (fun e => by have := Option.some.inj e; omega)) (by omega)
                 have c4 := m3.cells.2.2.2
                 have hv := ih s T2 w3 (by have := List.Nodup.length_le_of_subset (ss_nodup (ss_ins a T M0.out.1)) HI.out.sub; omega) hs m3
                 have T3 := Aside0.mk (HI.out.turn.trans (Turn.grown (ok := fun k => r = k) hg3 (fun k e => Option.some.inj e)) (fun k hk => .inr (by have := Z1.out; omega)))
                 have M3 := Aside0.mk m3
                 have R3 := Aside0.mk hr1
                 have I3 := Aside0.mk (And.intro hsF hlf)
                 clear m3 hr1 hfs hg3 hlf hsF
                 go_wp2_with fail
                 refine hv.mono ?_
                 rintro e w4 ⟨rfl, T4, m4, P4, t4⟩
                 clear hv
                 have hin : Aside0 (VIn base role p G F be eb h a T T4 (fun t => lf t && !decide (t = s)) w2 w4) := ⟨HI.out.more hF I3.out.1 m4 P4 (T3.out.trans t4 (fun k hk => .inl hk))⟩
                 have hrr : Aside0 (RangeV w4 (eb a) r (F a).length (fun t => if hasB (F a) t = true then some (.bool true) else none) (fun t => lf t && !decide (t = s)) c') := by
                   have l := R3.out.lt
                   have he := M3.out.hi _ (M3.out.er.2 a hG)
                   exact ⟨R3.out.step (t4.block _ l.2.1 (by omega)) (t4.block _ l.1 (by omega))⟩
                 clear m4 P4 t4 T3 M3 R3 HI HR
                 go_wp2_with fail
                 go_roundg (c' + 1)
                 case measure => have := hn.out; omega
                 case rel => exact ⟨_, c', T4, ⟨rfl⟩, hrr, hin⟩)
end
end Go.Proofs.Ytmhbdgnajlnhnaa.P
/- graph's far: how many edges lead from each name to one. -/
namespace Go.Proofs.Ytmhbdgnajlnhnaa.P
open Go.RowKit Go.Maps Go.MapKept Go.ChangeMaps Go.Proofs.YtmhbdgnajlnhnaaW.PrintWords Go.Proofs.YtmhbdgnajlnhnaaW.PrintLast Go.Proofs.YtmhbdgnajlnhnaaW.PrintMore Go.Proofs.Ytmhbdgnajlnhnaa.Pl
set_option linter.unusedVariables false
set_option linter.unusedSimpArgs false
def intAt (K : List ByteArray) (d : ByteArray → Nat) (s : ByteArray) : Option Value := if hasB K s = true then some (.int .i64 (d s : Int)) else none
structure FMem (G : GG) (t : ByteArray) (w : World) (m : Nat) (K wv : List ByteArray) (d : ByteArray → Nat) (v6 : Value) (wr : World) : Prop where
  below : Below w.heap.size w wr
  map : MapV wr w.heap.size K.length (intAt K d)
  row : Kd.R Kd.string 9 wr (w.heap.size + 1) (fun _ => True) v6 wv
  near : Near G t (m + 1) K d
  wave : ∀ s, s ∈ wv ↔ Dist G.out m s t
  once : wv.Nodup
/-- within a wave -/
structure MidIn (ok : Nat → Prop) (G : GG) (bf m : Nat) (K : List ByteArray) (d : ByteArray → Nat) (P : ByteArray → Prop) (W0 : World) (x : List ByteArray) (d' : ByteArray → Nat) (v8 : Value) (wr : World) : Prop where
  turn : Turn (fun k => k = bf) W0 wr
  map : MapV wr bf (K ++ x).length (intAt (K ++ x) d')
  row : Kd.R Kd.string 9 wr W0.heap.size ok v8 x
  once : x.Nodup
  all : ∀ s, s ∈ x ↔ s ∉ K ∧ P s
  old : ∀ s, s ∈ K → d' s = d s
  new : ∀ s, s ∈ x → d' s = m + 1
theorem MidIn.imp {ok : Nat → Prop} {G : GG} {bf m : Nat} {K x : List ByteArray} {d d' : ByteArray → Nat} {P P' : ByteArray → Prop} {W0 wr : World} {v8 : Value} (h : MidIn ok G bf m K d P W0 x d' v8 wr) (hp : ∀ s, s ∉ K → (P s ↔ P' s)) : MidIn ok G bf m K d P' W0 x d' v8 wr :=
  ⟨h.turn, h.map, h.row, h.once, fun s => by rw [h.all]; exact ⟨fun ⟨a, b⟩ => ⟨a, (hp s a).1 b⟩, fun ⟨a, b⟩ => ⟨a, (hp s a).2 b⟩⟩, h.old, h.new⟩
theorem FMem.next {G : GG} (hG : GOk G) {t : ByteArray} {w W0 wr : World} {m : Nat} {K wv x : List ByteArray} {d d' : ByteArray → Nat} {v6 v8 : Value} (h : FMem G t w m K wv d v6 W0) (hm : MidIn (fun _ => True) G w.heap.size m K d (fun s => ∃ a, a ∈ wv ∧ s ∈ G.inn a) W0 x d' v8 wr) (hlt : w.heap.size < W0.heap.size) : FMem G t w (m + 1) (K ++ x) x d' v8 wr := by
  have hn := h.near.next hG h.wave hm.once hm.all hm.old hm.new
  exact ⟨h.below.trans (hm.turn.below (fun k hk => by omega) h.below.size), hm.map, Kd.R_lower hm.row hlt, hn.1, hn.2, hm.once⟩
theorem MidIn.keep {ok : Nat → Prop} {G : GG} {bf m : Nat} {K x : List ByteArray} {d d' : ByteArray → Nat} {P : ByteArray → Prop} {W0 wr w' : World} {v8 : Value} {row : Option Nat} (h : MidIn ok G bf m K d P W0 x d' v8 wr) (hg : wr.grownBy w' row) (hr : ∀ k, row = some k → W0.heap.size ≤ k ∧ ¬ ok k) (hb : bf < W0.heap.size) : MidIn ok G bf m K d P W0 x d' v8 w' := by
  have hs := h.turn.size
  refine ⟨h.turn.trans (Turn.grown (ok := fun k => row = some k) hg (fun k e => e)) (fun k hk => .inr (hr k hk).1), h.map.step (grown_blk hg (by omega) (fun e => by have := (hr bf e).1; omega)), Kd.R_mono (Kd.R_grown (Kd.R_bound h.row) hg (fun k hk e => (hr k e.symm).2 hk.1)) (fun k hk => hk.1), h.once, h.all, h.old, h.new⟩
theorem MidIn.weak {ok ok' : Nat → Prop} {G : GG} {bf m : Nat} {K x : List ByteArray} {d d' : ByteArray → Nat} {P : ByteArray → Prop} {W0 wr : World} {v8 : Value} (h : MidIn ok G bf m K d P W0 x d' v8 wr) (hk : ∀ k, ok k → k < wr.heap.size → ok' k) : MidIn ok' G bf m K d P W0 x d' v8 wr :=
  ⟨h.turn, h.map, Kd.R_mono (Kd.R_bound h.row) (fun k hk' => hk k hk'.1 hk'.2.2.1), h.once, h.all, h.old, h.new⟩
theorem intAt_add {K : List ByteArray} {d : ByteArray → Nat} {s : ByteArray} {n : Nat} : upd (intAt K d) s (some (.int .i64 (n : Int))) = intAt (K ++ [s]) (fun u => if u = s then n else d u) := by
  funext u
  unfold intAt
  by_cases e : u = s
  · subst e
    rw [upd_same, if_pos (hasB_iff.2 (by simp))]
    show _ = some (Value.int .i64 ((if u = u then n else d u : Nat) : Int))
    rw [if_pos rfl]
  · rw [upd_other _ e]
    show _ = if hasB (K ++ [s]) u = true then some (Value.int .i64 ((if u = s then n else d u : Nat) : Int)) else none
    rw [if_neg e]
    have : hasB (K ++ [s]) u = hasB K u := by
      rw [Bool.eq_iff_iff, hasB_iff, hasB_iff, List.mem_append, List.mem_singleton]
      exact ⟨fun h' => by rcases h' with h' | h'; exact h'; exact absurd h' e, fun h' => .inl h'⟩
    rw [this]
theorem MidIn.add {ok : Nat → Prop} {G : GG} {bf m : Nat} {K x : List ByteArray} {d d' : ByteArray → Nat} {P P' : ByteArray → Prop} {W0 wr w5 : World} {v8 v9 : Value} {s : ByteArray} (h : MidIn ok G bf m K d P W0 x d' v8 wr) (hs : s ∉ K ++ x) (hP : ∀ u, u ∉ K → (P' u ↔ P u ∨ u = s)) (hsn : ∀ u, u ∉ K → P u → u ∈ x)
    (hM : MapV w5 bf ((K ++ x).length + 1) (upd (intAt (K ++ x) d') s (some (.int .i64 ((m + 1 : Nat) : Int))))) (ht : Turn (fun k => k = bf) W0 w5) (hR : Kd.R Kd.string 9 w5 W0.heap.size ok v9 (x ++ [s])) : MidIn ok G bf m K d P' W0 (x ++ [s]) (fun u => if u = s then m + 1 else d' u) v9 w5 := by
  have h1 : s ∉ K := fun h' => hs (List.mem_append.2 (.inl h'))
  have h2 : s ∉ x := fun h' => hs (List.mem_append.2 (.inr h'))
  refine ⟨ht, ?_, hR, List.nodup_append.2 ⟨h.once, by simp, fun a ha b hb e => by rw [List.mem_singleton] at hb; subst hb; subst e; exact h2 ha⟩, fun u => ?_, fun u hu => ?_, fun u hu => ?_⟩
  · rw [intAt_add] at hM
    rw [← List.append_assoc, show (K ++ x ++ [s]).length = (K ++ x).length + 1 by simp [Nat.add_assoc]]
    exact hM
  · rw [List.mem_append, List.mem_singleton, h.all]
    constructor
    · rintro (⟨a, b⟩ | rfl)
      · exact ⟨a, (hP u a).2 (.inl b)⟩
      · exact ⟨h1, (hP u h1).2 (.inr rfl)⟩
    · rintro ⟨a, b⟩
      rcases (hP u a).1 b with b | b
      · exact .inl ⟨a, b⟩
      · exact .inr b
  · show (if u = s then m + 1 else d' u) = d u
    rw [if_neg (fun (e : u = s) => h1 (by rw [← e]; exact hu))]; exact h.old u hu
  · show (if u = s then m + 1 else d' u) = m + 1
    by_cases e : u = s
    · rw [if_pos e]
    · rw [if_neg e]
      rcases List.mem_append.1 hu with hu | hu
      · exact h.new u hu
      · exact absurd (List.mem_singleton.1 hu) e
theorem lt9 {n : Nat} (h : n ≤ 200000) : n < maxLen := by unfold maxLen; omega
theorem zero3 (w : World) : (zeroValue 3).run Try.prog w = .ok (.int .i64 0) w := by kernel_rfl
theorem FMem.start {G : GG} {t : ByteArray} {w w1 : World} (hM : MapV w1 w.heap.size 1 (upd (fun _ => none) t (some (.int .i64 0)))) (hB : Below w.heap.size w w1) (hs : w1.heap.size = w.heap.size + 1) : FMem G t w 0 [t] [t] (fun _ => 0) (.slice (some ⟨w.heap.size + 1, 0, none⟩) 1 1) (w1.alloc (.cells #[.string t] 9)) := by
  have h1 := World.ownsRow_lit (base := w.heap.size + 1) (e := 9) (size := 1) w1 #[.string t] 1 (by omega) (by simp [maxLen]) (by simp)
  rw [hs] at h1
  refine ⟨below_alloc hB _, ?_, Kd.R_of_own (by simpa using h1 : (w1.alloc (.cells #[.string t] 9)).ownsRow (w.heap.size + 1) 9 1 (.slice (some ⟨w.heap.size + 1, 0, none⟩) 1 1) 1 [Value.string t]) (fun _ _ => trivial), Near.start G t _ rfl, fun s => by rw [List.mem_singleton, dist_zero], by simp⟩
  refine MapV.step ?_ (alloc_old (by omega))
  refine cast (congrArg (MapV w1 w.heap.size 1) ?_) hM
  funext s
  unfold intAt
  by_cases e : s = t
  · subst e; rw [upd_same, if_pos (hasB_iff.2 (by simp))]; rfl
  · rw [upd_other _ e, if_neg (by rw [hasB_iff]; simpa using e)]
section
variable {base p : Nat} {role : Nat → Role} {G : GG} {w : World}
set_option maxRecDepth 1000000 in
set_option maxHeartbeats 4000000 in
theorem far_calls (hg : GMem w base role p G) (t : ByteArray) (ht : t ∈ G.ns) :
    Calls Try.prog 44 #[.pointer (some ⟨p, 0, none⟩), .string t] w fun e w' => ∃ bf K d, e = .returned (.map (some bf)) ∧ w.heap.size ≤ bf ∧ MapV w' bf K.length (intAt K d) ∧ FarOf G t K d ∧ Below w.heap.size w w' := by
  have hmm := fun (W : World) => @run_makeMap Try.prog 63 W
  go_enter Try.func44, Try.ntmps44
  obtain ⟨w1, hrun, hM1, hg1, hs1⟩ := (MapV.made w).put Try.underlying63 (by unfold maxLen; omega) (hg.good.short t ht) (.int .i64 0)
  go_wp2_with fail
  go_step3
  go_wp2_with fail
  go_step3
  go_wp2_with fail
  have H0 := Aside0.mk (FMem.start (G := G) (t := t) hM1 (pw_below_grown ((Below.refl _ w).alloc (Nat.le_refl _) _) _ (by rw [alloc_size]; omega) hg1 (fun k hk => by have := Option.some.inj hk; omega)) (by rw [hs1, alloc_size]))
  have hz1 : w1.heap.size = w.heap.size + 1 := by rw [hs1, alloc_size]
  have HG := Aside0.mk hg
  have HT := Aside0.mk ht
  clear hM1 hg1 hrun hs1 hmm hg ht
  obtain ⟨W1, hW1⟩ : ∃ W1, w1.alloc (Obj.cells #[Value.string t] 9) = W1 := ⟨_, rfl⟩
  rw [hW1] at H0 ⊢
  have hlt1 : w.heap.size < W1.heap.size := by rw [← hW1, alloc_size]; omega
  clear hW1 hz1
  go_loopg [6, 7] (G.ns.length + 1) (fun n v6 v7 wr => ∃ (m : Nat) (K wv : List ByteArray) (d : ByteArray → Nat), v7 = .int .i64 ((m + 1 : Nat) : Int) ∧ Aside0 (n + K.length = G.ns.length + 2 ∧ m ≤ K.length) ∧ Aside0 (FMem G t w m K wv d v6 wr))
  case atStart => exact ⟨0, [t], [t], _, rfl, ⟨by simp, by simp⟩, H0⟩
  case round =>
    obtain ⟨m, K, wv, d, rfl, ⟨hn, hmK⟩, HF⟩ := hrel
    clear H0
    have hKl := HF.out.near.len HG.out.good HT.out
    have hgf := HG.out.few
    have hwl : wv.length ≤ 100000 := by
      have := List.Nodup.length_le_of_subset HF.out.once (fun s hs => stp_inside HG.out.good ((HF.out.wave s).1 hs).1 HT.out)
      omega
    have hlt : w.heap.size < wr.heap.size := HF.out.map.lt
    obtain ⟨A6, c6, rfl⟩ := Kd.R_slice HF.out.row
    have H8 := Aside0.mk (show MidIn (fun _ => True) G w.heap.size m K d (fun s => ∃ a, a ∈ wv.take 0 ∧ s ∈ G.inn a) wr [] d (.slice none 0 0) wr from
      ⟨Turn.refl _ _, by rw [List.append_nil]; exact HF.out.map, Kd.R_nil _ _ _ _ _, List.nodup_nil, fun s => by simp, fun s _ => rfl, fun s hs => (by cases hs)⟩)
    have HW := Aside0.mk (Kd.C_kept_own (S := fun k => k = w.heap.size) (Kd.R_bound HF.out.row) (fun k hk => by have := hk.2.1; omega))
    obtain ⟨wo, rfl⟩ : ∃ wo : World, wo = wr := ⟨_, rfl⟩
    obtain ⟨go, rfl⟩ : ∃ go : Nat, go = gk := ⟨_, rfl⟩
    go_wp2_with fail
    go_loopg [8, 23] (wv.length + 1) (fun n v8 v23 wr2 => ∃ (i : Nat) (x : List ByteArray) (d' : ByteArray → Nat), v23 = .int .i64 (i : Int) ∧ Aside0 (i + n = wv.length + 1) ∧ Aside0 (MidIn (fun _ => True) G w.heap.size m K d (fun s => ∃ a, a ∈ wv.take i ∧ s ∈ G.inn a) wo x d' v8 wr2))
    case atStart => exact ⟨0, [], d, rfl, ⟨by omega⟩, H8⟩
    case round =>
      obtain ⟨i, x, d', rfl, ⟨hn2⟩, HX⟩ := hrel
      clear H8
      by_cases ci : i < wv.length
      case neg =>
        have cib : decide ((i : Int) < (wv.length : Int)) = false := decide_eq_false (by omega)
        rw [List.take_of_length_le (by omega)] at HX
        have HN := Aside0.mk (HF.out.next HG.out.good HX.out hlt)
        obtain ⟨A8, c8, rfl⟩ := Kd.R_slice HX.out.row
        cases x with
        | nil =>
          have hd := HF.out.near.next HG.out.good HF.out.wave HX.out.once HX.out.all HX.out.old HX.out.new
          have HE : Aside0 (FarOf G t K d') := ⟨by
            have := hd.1.whole (dist_none (n := m + 1) (fun s hs => by cases (hd.2 s).2 hs) (m + 2) (by omega))
            rwa [List.append_nil] at this⟩
          have HR : Aside0 (MapV wr w.heap.size K.length (intAt K d') ∧ Below w.heap.size w wr) := ⟨by have := HN.out.map; rwa [List.append_nil] at this, HN.out.below⟩
          clear hd HN HX
          go_wp2_with fail
          rw [Exit.noGoto_ret]
          go_ret
          exact ⟨_, K, d', rfl, Nat.le_refl _, HR.out.1, HE.out, HR.out.2⟩
        | cons x0 x =>
          have hKx := HN.out.near.len HG.out.good HT.out
          rw [List.length_append, List.length_cons] at hKx
          have hne : (((x0 :: x).length : Int) == 0) = false := by simp; omega
          clear HX
          go_wp2_with fail
          go_roundg (G.ns.length + 2 - (K.length + (x.length + 1)))
          case measure => omega
          case rel => exact ⟨m + 1, K ++ x0 :: x, x0 :: x, d', by first | rfl | (rw [w64_ (by omega) (by omega)]; rfl), ⟨by simp; omega, by simp; omega⟩, HN⟩
      have cib : decide ((i : Int) < (wv.length : Int)) = true := decide_eq_true (by omega)
      obtain ⟨ad, rfl, hcell⟩ := Kd.at_string (HW.out wr HX.out.turn.kept) (i : Int) (Int.natCast_nonneg _) (by omega)
      rw [Int.toNat_natCast] at hcell
      have hx : rdOf ByteArray.empty wv (i : Int) = wv[i] := by
        unfold rdOf; rw [Int.toNat_natCast, List.getD_eq_getElem?_getD, List.getElem?_eq_getElem ci]; rfl
      rw [hx] at hcell
      have htk : wv.take (i + 1) = wv.take i ++ [wv[i]] := List.take_succ_eq_append_getElem ci
      have hin : wv[i] ∈ G.ns := stp_inside HG.out.good ((HF.out.wave _).1 (List.getElem_mem ci)).1 HT.out
      obtain ⟨a, hae⟩ : ∃ a, wv[i] = a := ⟨_, rfl⟩
      rw [hae] at hcell htk hin
      have hB : Below w.heap.size w wr := HF.out.below.trans (HX.out.turn.below (fun k hk => by omega) HF.out.below.size)
      have hgw := HG.out.below hB
      have hlo : w.heap.size ≤ wr.heap.size := hB.size
      obtain ⟨bo, bi, ob, ib, hp, hO, hI, ro, ri, hsub⟩ := hgw.blk
      have k1 : wr.cell? ⟨p, 1, none⟩ = some (.map (some bi)) := by rw [blk_cell' hp]; rfl
      have hib : ib a < w.heap.size := (HG.out.bound _ (by rw [(hsub a hin).2]; simp)).2
      have hl2 := hI.look (w := wr) (hgw.good.short a hin)
      rw [if_pos (hasB_iff.2 hin)] at hl2
      have hisub := hI.sub a hin
      have HK := Aside0.mk (And.intro htk hin)
      obtain ⟨r, hr⟩ : ∃ r, wr.heap.size = r := ⟨_, rfl⟩
      clear hx hae htk hgw hO hI hB hin hp ro ri hsub
      go_wp2_with (first | (at_range; refine range_event rfl rfl Try.underlying73 rfl hisub ?_; intro wr0 cnt hr0 hgr0 hsr0 hcnt))
      have HI0 := Aside0.mk (MidIn.imp (P' := fun s => (∃ a', a' ∈ wv.take i ∧ s ∈ G.inn a') ∨ (s ∈ G.inn a ∧ (if hasB (G.inn a) s = true then some (Value.bool true) else none).isSome = false))
        ((HX.out.weak (ok' := fun k => k ≠ r) (fun k _ hk => by omega)).keep hgr0 (fun k e => by cases e) hlt) (fun s _ => ⟨fun h => .inl h, fun h => h.elim (fun h => h) (fun h => by rw [if_pos (hasB_iff.2 h.1)] at h; cases h.2)⟩))
      have hWr : wo.heap.size ≤ r := by have := HX.out.turn.size; omega
      have hR0 := Aside0.mk hr0
      have hr0s : r < wr0.heap.size := by omega
      clear hr0 hgr0 hsr0 hisub hl2 k1 HX
      rw [hr] at hR0 ⊢
      obtain ⟨wm, rfl⟩ : ∃ wm : World, wm = wr := ⟨_, rfl⟩
      obtain ⟨gm, rfl⟩ : ∃ gm : Nat, gm = gk := ⟨_, rfl⟩
      simp only [Act.put, List.setIfInBounds_toArray, List.set_cons_zero, List.set_cons_succ]
      go_loopg [8] (cnt + 1) (fun n v8 wr2 => ∃ (lf : ByteArray → Bool) (c : Nat) (x : List ByteArray) (d' : ByteArray → Nat), Aside0 (n = c + 1) ∧ Aside0 (RangeV wr2 (ib a) r (G.inn a).length (fun t => if hasB (G.inn a) t = true then some (.bool true) else none) lf c) ∧
        Aside0 (MidIn (fun k => k ≠ r) G w.heap.size m K d (fun s => (∃ a', a' ∈ wv.take i ∧ s ∈ G.inn a') ∨ (s ∈ G.inn a ∧ lf s = false)) wo x d' v8 wr2))
      case atStart => exact ⟨_, cnt, x, d', ⟨rfl⟩, hR0, HI0⟩
      case round =>
        obtain ⟨lf, c, x, d', hn3, HR, HI⟩ := hrel
        clear HI0 hR0
        obtain ⟨A8, c8, rfl⟩ := Kd.R_slice HI.out.row
        go_wp2_with (first | (at_next; refine next_event rfl rfl rfl HR.out ?_ ?_))
        · intro hd
          have HE := Aside0.mk (MidIn.imp (P' := fun s => ∃ a', a' ∈ wv.take (i + 1) ∧ s ∈ G.inn a') (HI.out.weak (ok' := fun _ => True) (fun _ _ _ => trivial)) (fun s _ => by
            rw [HK.out.1]
            constructor
            · rintro (⟨a', h1, h2⟩ | ⟨h1, _⟩)
              · exact ⟨a', List.mem_append.2 (.inl h1), h2⟩
              · exact ⟨a, by simp, h1⟩
            · rintro ⟨a', h1, h2⟩
              rcases List.mem_append.1 h1 with h1 | h1
              · exact .inl ⟨a', h1, h2⟩
              · rw [List.mem_singleton] at h1; subst h1
                exact .inr ⟨h2, hd s (HG.out.good.short s (List.mem_filter.1 h2).1)⟩))
          clear hd HI HR
          go_wp2_with fail
          go_roundg (gm - 1)
          case measure => omega
          case rel => exact ⟨i + 1, x, d', by first | rfl | (rw [w64_ (by omega) (by omega)]; rfl) | simp, ⟨by omega⟩, HE⟩
        · intro s v w3 c' hs hlf hfs hvv hr1 hlt3 hg3 hsz hen
          subst hvv
          have hsI : s ∈ G.inn a := hasB_iff.1 hfs
          have hm3 := HI.out.keep hg3 (fun k hk => by have := Option.some.inj hk; subst this; exact ⟨hWr, fun h => h rfl⟩) hlt
          have hlk := hm3.map.look_ok Try.underlying63 (zero3 w3) hs
          have hlfs : ∀ u, ((lf u && !decide (u = s)) = false) ↔ (lf u = false ∨ u = s) := fun u => by cases lf u <;> simp
          have hR3 := Aside0.mk hr1
          have hrl := hr1.lt
          cases hb : hasB (K ++ x) s with
          | true =>
            have hbi : intAt (K ++ x) d' s = some (.int .i64 (d' s : Int)) := by unfold intAt; rw [if_pos hb]
            rw [hbi] at hlk
            have HE := Aside0.mk (MidIn.imp (P' := fun u => (∃ a', a' ∈ wv.take i ∧ u ∈ G.inn a') ∨ (u ∈ G.inn a ∧ (lf u && !decide (u = s)) = false)) hm3 (fun u hu => by
              rw [hlfs]
              constructor
              · rintro (h | ⟨h1, h2⟩)
                · exact .inl h
                · exact .inr ⟨h1, .inl h2⟩
              · rintro (h | ⟨h1, h2 | rfl⟩)
                · exact .inl h
                · exact .inr ⟨h1, h2⟩
                · rcases List.mem_append.1 (hasB_iff.1 hb) with h' | h'
                  · exact absurd h' hu
                  · exact ((hm3.all u).1 h').2))
            clear hm3 hr1 hg3 hrl HI HR hfs
            go_wp2_with fail
            go_roundg (c' + 1)
            case measure => have := hn3.out; omega
            case rel => exact ⟨_, c', x, d', ⟨rfl⟩, hR3, HE⟩
          | false =>
            have hbi : intAt (K ++ x) d' s = none := by unfold intAt; rw [if_neg (by rw [hb]; simp)]
            rw [hbi] at hlk
            have hnot := hasB_false.1 hb
            have hxl : x.length ≤ G.ns.length := List.Nodup.length_le_of_subset hm3.once (fun u hu => by
              obtain ⟨_, h⟩ := (hm3.all u).1 hu
              rcases h with ⟨a', _, h⟩ | ⟨h, _⟩
              · exact (List.mem_filter.1 h).1
              · exact (List.mem_filter.1 h).1)
            have hlenx : (K ++ x).length = K.length + x.length := by simp
            have hlt9 : K.length + x.length < maxLen := lt9 (by omega)
            obtain ⟨w4, hrun, hM4, hg4, hs4⟩ := hm3.map.put Try.underlying63 (by rw [hlenx]; exact hlt9) hs (.int .i64 ((m + 1 : Nat) : Int))
            have hR4 : Kd.R Kd.string 9 w4 wo.heap.size (fun k => k ≠ r) (.slice A8 x.length c8) x := Kd.R_mono (Kd.R_grown (Kd.R_bound hm3.row) hg4 (fun k hk e => by have := Option.some.inj e; have := hk.2.1; omega)) (fun k hk => hk.1)
            have hle4 : wo.heap.size ≤ w4.heap.size := by have := hm3.turn.size; omega
            have hrl4 : r < w4.heap.size := by omega
            have hr4 := hr1.kept hg4 (fun e => by have := Option.some.inj e; omega) (fun e => by have := Option.some.inj e; omega)
            have T4 := hm3.turn.trans (Turn.grown (ok := fun k => k = w.heap.size) hg4 (fun k e => (Option.some.inj e).symm)) (fun k hk => .inl hk)
            have hfin : ∀ (v9 : Value) (w5 : World), Kd.R Kd.string 9 w5 wo.heap.size (fun k => k ≠ r) v9 (x ++ [s]) → w4.grownBy w5 (Value.slice A8 x.length c8).ownBlock →
                RangeV w5 (ib a) r (G.inn a).length (fun t => if hasB (G.inn a) t = true then some (.bool true) else none) (fun u => lf u && !decide (u = s)) c' ∧
                MidIn (fun k => k ≠ r) G w.heap.size m K d (fun u => (∃ a', a' ∈ wv.take i ∧ u ∈ G.inn a') ∨ (u ∈ G.inn a ∧ (lf u && !decide (u = s)) = false)) wo (x ++ [s]) (fun u => if u = s then m + 1 else d' u) v9 w5 := by
              intro v9 w5 h5 hg5
              have hbd := (Kd.R_bound hR4).1
              refine ⟨hr4.kept hg5 (fun e => by have := (hbd _ e.symm).2.1; omega) (fun e => (hbd _ e.symm).1 rfl), hm3.add hnot (fun u hu => ?_) (fun u hu hp => (hm3.all u).2 ⟨hu, hp⟩) (hM4.kept hg5 (fun e => by have := (hbd _ e.symm).2.1; omega)) (T4.trans (Turn.grown (ok := fun k => (Value.slice A8 x.length c8).ownBlock = some k) hg5 (fun k e => e)) (fun k hk => .inr (hbd k hk).2.1)) h5⟩
              rw [hlfs]
              constructor
              · rintro (h | ⟨h1, h2 | h2⟩)
                · exact .inl (.inl h)
                · exact .inl (.inr ⟨h1, h2⟩)
                · exact .inr h2
              · rintro ((h | ⟨h1, h2⟩) | rfl)
                · exact .inl h
                · exact .inr ⟨h1, .inl h2⟩
                · exact .inr ⟨hsI, .inr rfl⟩
            have HF2 := Aside0.mk hfin
            have hrun2 : (Instr.mapUpdate 63 (.map (some w.heap.size)) (.string s) (.int .i64 ((m : Int) + 1))).run Try.prog w3 = .ok () w4 := hrun
            clear hrun
            clear hs4 hsz
            clear hfin T4 hr4 hM4 hm3 hr1 hg3 hg4 HI HR hfs hlenx hlt9
            go_wp2_with (first | ((with_reducible refine gate_builtin (b := .append) (xs := #[.tmp 49, .tmp 51]) rfl ?_); at_builtin; refine Kd.R_append Kd.string (w0 := w4) (W := w4) wo.heap.size rfl (.tmp 49) (.tmp 51) 23 9 (.string ⟨#[]⟩) 16 rfl Try.underlying23 info9 rfl (by decide) (by omega) (.slice A8 x.length c8) x s [.string s] (fun k => k ≠ r) (fun _ => False) rfl rfl rfl (fun _ hk => hk.elim) (fun k hk (e : k = r) => by omega) hR4 (Below.refl _ _) hle4 (by omega) ?_; intro v1 w5 h5 hbl hg5 hat))
            have HE := Aside0.mk (HF2.out v1 w5 (Kd.R_mono h5 (fun k hk => hk)) hg5)
            clear h5 hg5 HF2
            go_wp2_with fail
            go_roundg (c' + 1)
            case measure => have := hn3.out; omega
            case rel => exact ⟨_, c', x ++ [s], _, ⟨rfl⟩, ⟨HE.out.1⟩, ⟨HE.out.2⟩⟩
end
end Go.Proofs.Ytmhbdgnajlnhnaa.P
