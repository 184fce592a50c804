/- Folded: GAdd, GLink, GNew. -/
import Derived.Test.YtmhbdgnajlnhnaaGGraph
import Derived.Test.YtmhbdgnajlnhnaaWAt
import Derived.Test.YtmhbdgnajlnhnaaPx0
/- (*Graph).Add: names are added. -/
namespace Go.Proofs.Ytmhbdgnajlnhnaa.P
open Go.RowKit Go.Maps Go.MapKept Go.ChangeMaps Go.Proofs.YtmhbdgnajlnhnaaW.PrintWords Go.Proofs.YtmhbdgnajlnhnaaW.PrintLast Go.Proofs.YtmhbdgnajlnhnaaW.PrintMore Go.Proofs.Ytmhbdgnajlnhnaa.Pl
set_option linter.unusedVariables false
set_option linter.unusedSimpArgs false
/-- what a call leaves that turns a graph -/
def GDid (w : World) (base : Nat) (role : Nat → Role) (p : Nat) (G' : GG) (w' : World) : Prop :=
  ∃ role', GMem w' base role' p G' ∧ (∀ k, k < w.heap.size → role' k = role k) ∧ Turn (fun k => role k ≠ .none) w w'
theorem GDid.refl {w : World} {base p : Nat} {role : Nat → Role} {G : GG} (h : GMem w base role p G) : GDid w base role p G w := ⟨role, h, fun _ _ => rfl, Turn.refl _ _⟩
theorem GDid.trans {w w' w'' : World} {base p : Nat} {role role' : Nat → Role} {G : GG} (h2 : ∀ k, k < w.heap.size → role' k = role k) (h3 : Turn (fun k => role k ≠ .none) w w') (h : GDid w' base role' p G w'') : GDid w base role p G w'' := by
  obtain ⟨r2, a, b, c⟩ := h
  refine ⟨r2, a, fun k hk => (b k (by have := h3.size; omega)).trans (h2 k hk), h3.trans c (fun k hk => ?_)⟩
  by_cases hlt : k < w.heap.size
  · exact .inl (by rw [← h2 k hlt]; exact hk)
  · exact .inr (by omega)
theorem Turn.kept {ok : Nat → Prop} {a b : World} (h : Turn ok a b) : Kept a b ok := ⟨h.size, h.block⟩
/-- between the steps of two new entries -/
structure AddSt (w : World) (bo bi : Nat) (oo oi : Obj) (m1 m2 : Option Nat) (W : World) : Prop where
  os : W.os = w.os
  tape : W.tape = w.tape
  output : W.output = w.output
  size : w.heap.size ≤ W.heap.size
  lt : bo < w.heap.size ∧ bi < w.heap.size ∧ bo ≠ bi
  out : W.heap[bo]? = some oo
  inn : W.heap[bi]? = some oi
  one : ∀ x, m1 = some x → w.heap.size ≤ x ∧ x < W.heap.size ∧ W.heap[x]? = some (.map #[] 0)
  two : ∀ x, m2 = some x → w.heap.size ≤ x ∧ x < W.heap.size ∧ W.heap[x]? = some (.map #[] 0)
  apart : ∀ x, m1 = some x → m2 ≠ some x
  rest : ∀ k, k < w.heap.size → k ≠ bo → k ≠ bi → W.heap[k]? = w.heap[k]?
theorem set_other {w : World} {b k : Nat} {o : Obj} (h : k ≠ b) : (setBlock w b o).heap[k]? = w.heap[k]? := by
  show (w.heap.setIfInBounds b o)[k]? = _
  rw [Array.getElem?_setIfInBounds, if_neg (fun e => h e.symm)]
theorem set_size {w : World} {b : Nat} {o : Obj} : (setBlock w b o).heap.size = w.heap.size := by
  show (w.heap.setIfInBounds b o).size = _
  simp
theorem alloc_old {w : World} {k : Nat} {o : Obj} (h : k < w.heap.size) : (w.alloc o).heap[k]? = w.heap[k]? := by
  show (w.heap.push o)[k]? = _
  rw [Array.getElem?_push_lt h, Array.getElem?_eq_getElem h]
theorem alloc_new {w : World} {o : Obj} : (w.alloc o).heap[w.heap.size]? = some o := by
  show (w.heap.push o)[w.heap.size]? = _
  simp
theorem alloc_size {w : World} {o : Obj} : (w.alloc o).heap.size = w.heap.size + 1 := by
  show (w.heap.push o).size = _
  simp
section
variable {w W : World} {bo bi : Nat} {oo oi : Obj} {m1 m2 : Option Nat}
theorem AddSt.drewN (h : AddSt w bo bi oo oi m1 m2 W) (n : Nat) : AddSt w bo bi oo oi m1 m2 (W.drewN n) := ⟨h.os, h.tape, h.output, h.size, h.lt, h.out, h.inn, h.one, h.two, h.apart, h.rest⟩
theorem AddSt.drew (h : AddSt w bo bi oo oi m1 m2 W) : AddSt w bo bi oo oi m1 m2 W.drew := ⟨h.os, h.tape, h.output, h.size, h.lt, h.out, h.inn, h.one, h.two, h.apart, h.rest⟩
theorem AddSt.mk1 (h : AddSt w bo bi oo oi none m2 W) : AddSt w bo bi oo oi (some W.heap.size) m2 (W.alloc (.map #[] 0)) := by
  have hs := h.size
  have hl := h.lt
  refine ⟨h.os, h.tape, h.output, by rw [alloc_size]; omega, hl, (alloc_old (by omega)).trans h.out, (alloc_old (by omega)).trans h.inn, fun x hx => ?_, fun x hx => ?_, fun x hx e => ?_, fun k hk h1 h2 => (alloc_old (by omega)).trans (h.rest k hk h1 h2)⟩
  · injection hx with hx; subst hx; exact ⟨hs, by rw [alloc_size]; omega, alloc_new⟩
  · obtain ⟨a, b, c⟩ := h.two x hx; exact ⟨a, by rw [alloc_size]; omega, (alloc_old b).trans c⟩
  · injection hx with hx; subst hx
    have := h.two _ e; omega
theorem AddSt.mk2 (h : AddSt w bo bi oo oi m1 none W) : AddSt w bo bi oo oi m1 (some W.heap.size) (W.alloc (.map #[] 0)) := by
  have hs := h.size
  have hl := h.lt
  refine ⟨h.os, h.tape, h.output, by rw [alloc_size]; omega, hl, (alloc_old (by omega)).trans h.out, (alloc_old (by omega)).trans h.inn, fun x hx => ?_, fun x hx => ?_, fun x hx e => ?_, fun k hk h1 h2 => (alloc_old (by omega)).trans (h.rest k hk h1 h2)⟩
  · obtain ⟨a, b, c⟩ := h.one x hx; exact ⟨a, by rw [alloc_size]; omega, (alloc_old b).trans c⟩
  · injection hx with hx; subst hx; exact ⟨hs, by rw [alloc_size]; omega, alloc_new⟩
  · injection e with e; subst e
    have := h.one _ hx; omega
theorem AddSt.setO (h : AddSt w bo bi oo oi m1 m2 W) (o : Obj) : AddSt w bo bi o oi m1 m2 (setBlock W bo o) := by
  have hl := h.lt
  refine ⟨h.os, h.tape, h.output, by rw [set_size]; exact h.size, hl, setBlock_heap h.out, (set_other (fun e => hl.2.2 e.symm)).trans h.inn, fun x hx => ?_, fun x hx => ?_, h.apart, fun k hk h1 h2 => (set_other h1).trans (h.rest k hk h1 h2)⟩
  · obtain ⟨a, b, c⟩ := h.one x hx; exact ⟨a, by rw [set_size]; exact b, (set_other (by omega)).trans c⟩
  · obtain ⟨a, b, c⟩ := h.two x hx; exact ⟨a, by rw [set_size]; exact b, (set_other (by omega)).trans c⟩
theorem AddSt.setI (h : AddSt w bo bi oo oi m1 m2 W) (o : Obj) : AddSt w bo bi oo o m1 m2 (setBlock W bi o) := by
  have hl := h.lt
  refine ⟨h.os, h.tape, h.output, by rw [set_size]; exact h.size, hl, (set_other hl.2.2).trans h.out, setBlock_heap h.inn, fun x hx => ?_, fun x hx => ?_, h.apart, fun k hk h1 h2 => (set_other h2).trans (h.rest k hk h1 h2)⟩
  · obtain ⟨a, b, c⟩ := h.one x hx; exact ⟨a, by rw [set_size]; exact b, (set_other (by omega)).trans c⟩
  · obtain ⟨a, b, c⟩ := h.two x hx; exact ⟨a, by rw [set_size]; exact b, (set_other (by omega)).trans c⟩
theorem map_of_empty {W : World} {x : Nat} (h : W.heap[x]? = some (.map #[] 0)) : MapV W x 0 (fun _ => none) := by
  have hlt : x < W.heap.size := (Array.getElem?_eq_some_iff.1 h).1
  let u : World := { W with heap := W.heap.extract 0 x }
  have hu : u.heap.size = x := by show (W.heap.extract 0 x).size = x; simp; omega
  have := MapV.made u
  rw [hu] at this
  refine this.step (h.trans ?_)
  have := @alloc_new u (.map #[] 0)
  rw [hu] at this
  exact this.symm
theorem MM.added {w W : World} {b x : Nat} {ns : List ByteArray} {ob : ByteArray → Nat} {F : ByteArray → List ByteArray} {n : ByteArray} (h : MM w b ns ob F) (hr : SS ns) (hn : n ∉ ns) (hF : F n = []) (hx : W.heap[x]? = some (.map #[] 0))
    (ht : MapV W b (ns.length + 1) (upd (fun s => if hasB ns s = true then some (.map (some (ob s))) else none) n (some (.map (some x))))) (hs : ∀ s, s ∈ ns → W.heap[ob s]? = w.heap[ob s]?) :
    MM W b (ins n ns) (fun s => if s = n then x else ob s) F := by
  refine ⟨?_, fun s hs' => ?_⟩
  · rw [ins_len_new hr hn]
    refine cast (congrArg (MapV W b (ns.length + 1)) ?_) ht
    funext s
    by_cases e : s = n
    · subst e
      rw [upd_same, if_pos (hasB_iff.2 ((mem_ins _ _ _).2 (.inl rfl))), if_pos rfl]
    · rw [upd_other _ e]
      show _ = if hasB (ins n ns) s = true then some (Value.map (some (if s = n then x else ob s))) else none
      rw [if_neg e]
      have : hasB (ins n ns) s = hasB ns s := by
        rw [Bool.eq_iff_iff, hasB_iff, hasB_iff, mem_ins]
        exact ⟨fun h' => by rcases h' with h' | h'; exact absurd h' e; exact h', fun h' => .inr h'⟩
      rw [this]
  · show MapV W (if s = n then x else ob s) _ _
    by_cases e : s = n
    · subst e
      rw [if_pos rfl, hF]
      exact map_of_empty hx
    · rw [if_neg e]
      have hm : s ∈ ns := by rcases (mem_ins _ _ _).1 hs' with h' | h'; exact absurd h' e; exact h'
      exact (h.sub s hm).step (hs s hm)
theorem AddSt.done {base p : Nat} {role : Nat → Role} {G : GG} {n : ByteArray} {ob ib : ByteArray → Nat} {x y : Nat} (h : AddSt w bo bi oo oi (some x) (some y) W)
    (hp : w.heap[p]? = some (.cells #[.map (some bo), .map (some bi)] 70 (0, 0))) (hO : MM w bo G.ns ob G.out) (hI : MM w bi G.ns ib G.inn) (hro : role bo = .outs) (hri : role bi = .inns) (hsub : ∀ s, s ∈ G.ns → role (ob s) = .o s ∧ role (ib s) = .i s)
    (hg : GMem w base role p G) (hn : n ∉ G.ns) (hsz : n.size ≤ maxLen) (hfew : G.ns.length + 1 ≤ 100000)
    (hTO : MapV W bo (G.ns.length + 1) (upd (fun s => if hasB G.ns s = true then some (.map (some (ob s))) else none) n (some (.map (some x)))))
    (hTI : MapV W bi (G.ns.length + 1) (upd (fun s => if hasB G.ns s = true then some (.map (some (ib s))) else none) n (some (.map (some y))))) : GDid w base role p (addG G n) W := by
  obtain ⟨x1, x2, x3⟩ := h.one x rfl
  obtain ⟨y1, y2, y3⟩ := h.two y rfl
  have hxy : x ≠ y := fun e => h.apart x rfl (by rw [e])
  have hs := h.size
  have hb := hg.bound
  have hne : ∀ k, role k ≠ .none → k < w.heap.size := fun k hk => (hb k hk).2
  have hOs : ∀ s, s ∈ G.ns → W.heap[ob s]? = w.heap[ob s]? := fun s hs' => h.rest _ (hne _ (by rw [(hsub s hs').1]; simp)) (fun e => by have := (hsub s hs').1; rw [e, hro] at this; cases this) (fun e => by have := (hsub s hs').1; rw [e, hri] at this; cases this)
  have hIs : ∀ s, s ∈ G.ns → W.heap[ib s]? = w.heap[ib s]? := fun s hs' => h.rest _ (hne _ (by rw [(hsub s hs').2]; simp)) (fun e => by have := (hsub s hs').2; rw [e, hro] at this; cases this) (fun e => by have := (hsub s hs').2; rw [e, hri] at this; cases this)
  have hpp := hg.self
  have hpl := hne p (by rw [hpp]; simp)
  have h1 := hO.added hg.good.rise hn (hg.good.none n hn) x3 hTO hOs
  have h2 := hI.added hg.good.rise hn (GG.inn_none hg.good hn) y3 hTI hIs
  have hinn : (addG G n).inn = G.inn := by funext t; exact add_inn hg.good hsz t
  refine ⟨fun k => if k = x then .o n else if k = y then .i n else role k, ⟨⟨bo, bi, _, _, (h.rest p hpl (fun e => by rw [e, hro] at hpp; cases hpp) (fun e => by rw [e, hri] at hpp; cases hpp)).trans hp, h1, by rw [hinn]; exact h2, ?_, ?_, fun s hs' => ?_⟩, ?_, fun k hk => ?_, addG_ok hg.good hsz, ?_⟩, fun k hk => ?_, h.os, h.tape, h.output, hs, fun k hk hn' => ?_⟩
  · have := h.lt; show (if bo = x then _ else if bo = y then _ else role bo) = _
    rw [if_neg (by omega), if_neg (by omega)]; exact hro
  · have := h.lt; show (if bi = x then _ else if bi = y then _ else role bi) = _
    rw [if_neg (by omega), if_neg (by omega)]; exact hri
  · by_cases e : s = n
    · subst e
      show (if (if s = s then x else ob s) = x then _ else _) = _ ∧ (if (if s = s then y else ib s) = x then _ else if (if s = s then y else ib s) = y then _ else _) = _
      rw [if_pos rfl, if_pos rfl, if_pos rfl, if_neg (fun e => hxy e.symm), if_pos rfl]
      exact ⟨rfl, rfl⟩
    · have hm : s ∈ G.ns := by rcases (mem_ins _ _ _).1 hs' with h' | h'; exact absurd h' e; exact h'
      have l1 := hne (ob s) (by rw [(hsub s hm).1]; simp)
      have l2 := hne (ib s) (by rw [(hsub s hm).2]; simp)
      show (if (if s = n then x else ob s) = x then _ else if (if s = n then x else ob s) = y then _ else role (if s = n then x else ob s)) = _ ∧ (if (if s = n then y else ib s) = x then _ else if (if s = n then y else ib s) = y then _ else role (if s = n then y else ib s)) = _
      rw [if_neg e, if_neg e, if_neg (by omega), if_neg (by omega), if_neg (by omega), if_neg (by omega)]
      exact hsub s hm
  · show (if p = x then _ else if p = y then _ else role p) = _
    rw [if_neg (by omega), if_neg (by omega)]; exact hpp
  · have hk : (if k = x then Role.o n else if k = y then .i n else role k) ≠ .none := hk
    have hbp := hb p (by rw [hpp]; simp)
    split at hk
    · omega
    · split at hk
      · omega
      · have := hb k hk; omega
  · show (ins n G.ns).length ≤ _
    rw [ins_len_new hg.good.rise hn]; exact hfew
  · show (if k = x then _ else if k = y then _ else role k) = _
    rw [if_neg (by omega), if_neg (by omega)]
  · exact h.rest k hk (fun e => hn' (by rw [e, hro]; simp)) (fun e => hn' (by rw [e, hri]; simp))
end
section
variable {w W : World} {bo bi : Nat} {oo oi : Obj} {m1 m2 : Option Nat} {ops : Array Oper} {o : Oper} {a : Act} {Q : Exit → Act → World → Prop} {Kc : Act → World → Prop} {E : Prop}
theorem mk1_event (hd : o.dst = some 32) (hS : AddSt w bo bi oo oi none m2 W)
    (h : ∀ x W', AddSt w bo bi oo oi (some x) m2 W' → Kc (a.put o.dst (.map (some x))) W') : Oper.upon Try.prog o a Kc Q (((Instr.makeMap 73 none).run Try.prog W).andThen fun v w' => .ok (.value v) w') := by
  rw [run_makeMap]
  exact h _ _ hS.mk1
theorem mk2_event (hd : o.dst = some 33) (hS : AddSt w bo bi oo oi m1 none W)
    (h : ∀ x W', AddSt w bo bi oo oi m1 (some x) W' → Kc (a.put o.dst (.map (some x))) W') : Oper.upon Try.prog o a Kc Q (((Instr.makeMap 73 none).run Try.prog W).andThen fun v w' => .ok (.value v) w') := by
  rw [run_makeMap]
  exact h _ _ hS.mk2
theorem entO_event {w0 : World} {k : Nat} {f : ByteArray → Option Value} {s : ByteArray} {z : Value} {es : Array MapEntry} {clock : Nat} (hE : Entry w0 bo k f 68 s z es clock) (hS : AddSt w bo bi (.map es clock) oi m1 m2 W)
    (h : ∀ W', AddSt w bo bi (.map (es.push ⟨.string s, z, clock⟩) (clock + 1)) oi m1 m2 W' → Kc (a.put o.dst (.tuple #[z, goInt clock])) W') : Oper.upon Try.prog o a Kc Q (((Instr.mapEntry 68 (.map (some bo)) (.string s)).run Try.prog W).andThen fun v w' => .ok (.value v) w') := by
  rw [hE.make W hS.out]
  exact h _ (hS.setO _)
theorem entI_event {w0 : World} {k : Nat} {f : ByteArray → Option Value} {s : ByteArray} {z : Value} {es : Array MapEntry} {clock : Nat} (hE : Entry w0 bi k f 68 s z es clock) (hS : AddSt w bo bi oo (.map es clock) m1 m2 W)
    (h : ∀ W', AddSt w bo bi oo (.map (es.push ⟨.string s, z, clock⟩) (clock + 1)) m1 m2 W' → Kc (a.put o.dst (.tuple #[z, goInt clock])) W') : Oper.upon Try.prog o a Kc Q (((Instr.mapEntry 68 (.map (some bi)) (.string s)).run Try.prog W).andThen fun v w' => .ok (.value v) w') := by
  rw [hE.make W hS.inn]
  exact h _ (hS.setI _)
theorem stoO_event {w0 : World} {k : Nat} {f : ByteArray → Option Value} {s : ByteArray} {z v : Value} {es : Array MapEntry} {clock : Nat} (hE : Entry w0 bo k f 68 s z es clock) (hS : AddSt w bo bi (.map (es.push ⟨.string s, z, clock⟩) (clock + 1)) oi m1 m2 W)
    (h : ∀ W', AddSt w bo bi (.map (es.push ⟨.string s, v, clock⟩) (clock + 1)) oi m1 m2 W' → Kc (a.put o.dst undef) W') : Oper.upon Try.prog o a Kc Q (((Instr.entryStore 68 (.map (some bo)) (goInt clock) v).run Try.prog W).andThen fun _ w' => .ok .skip w') := by
  rw [hE.fill W v hS.out]
  exact h _ (hS.setO _)
theorem stoI_event {w0 : World} {k : Nat} {f : ByteArray → Option Value} {s : ByteArray} {z v : Value} {es : Array MapEntry} {clock : Nat} (hE : Entry w0 bi k f 68 s z es clock) (hS : AddSt w bo bi oo (.map (es.push ⟨.string s, z, clock⟩) (clock + 1)) m1 m2 W)
    (h : ∀ W', AddSt w bo bi oo (.map (es.push ⟨.string s, v, clock⟩) (clock + 1)) m1 m2 W' → Kc (a.put o.dst undef) W') : Oper.upon Try.prog o a Kc Q (((Instr.entryStore 68 (.map (some bi)) (goInt clock) v).run Try.prog W).andThen fun _ w' => .ok .skip w') := by
  rw [hE.fill W v hS.inn]
  exact h _ (hS.setI _)
end
def addAll (G : GG) (l : List ByteArray) : GG := l.foldl addG G
theorem addAll_snoc (G : GG) (l : List ByteArray) (x : ByteArray) : addAll G (l ++ [x]) = addG (addAll G l) x := by unfold addAll; rw [List.foldl_append]; rfl
theorem addAll_len (G : GG) : ∀ l : List ByteArray, (addAll G l).ns.length ≤ G.ns.length + l.length := by
  intro l
  induction l generalizing G with
  | nil => exact Nat.le_refl _
  | cons x l ih =>
    have := ih (addG G x)
    have h2 : (addG G x).ns.length ≤ G.ns.length + 1 := by have := ins_len x G.ns; exact this
    show (addAll (addG G x) l).ns.length ≤ _
    simp only [List.length_cons]
    omega
set_option maxRecDepth 1000000 in
set_option maxHeartbeats 4000000 in
theorem add_calls {w : World} {base p : Nat} {role : Nat → Role} {G : GG} (hg : GMem w base role p G) (A0 : Option Addr) (c0 : Nat) (l0 : List ByteArray) (hC : ∀ W', Kept w W' (fun k => role k ≠ .none) → Kd.string.C W' A0 l0.length l0) (hl : ∀ s, s ∈ l0 → s.size ≤ maxLen) (hfew : G.ns.length + l0.length ≤ 100000) :
    Calls Try.prog 39 #[.pointer (some ⟨p, 0, none⟩), .slice A0 l0.length c0] w fun e w' => e = .returned (.int .i64 0) ∧ GDid w base role p (addAll G l0) w' := by
  have HC := Aside0.mk hC
  have HL := Aside0.mk hl
  have HF := Aside0.mk hfew
  have hlen : l0.length ≤ 100000 := by omega
  have HG := Aside0.mk (GDid.refl hg)
  clear hC hl hg hfew
  go_enter Try.func39, Try.ntmps39
  go_wp2_with fail
  go_loopg [11] (l0.length + 1) (fun n iv wr => ∃ i : Nat, iv = .int .i64 (i : Int) ∧ Aside0 (i + n = l0.length + 1) ∧ Aside0 (GDid w base role p (addAll G (l0.take i)) wr))
  case atStart => exact ⟨0, rfl, ⟨by omega⟩, HG⟩
  case round =>
    obtain ⟨i, rfl, ⟨hn⟩, ⟨hM⟩⟩ := hrel
    clear HG
    by_cases c1 : i < l0.length
    case neg =>
      have c1b : decide ((i : Int) < (l0.length : Int)) = false := decide_eq_false (by omega)
      rw [List.take_of_length_le (by omega)] at hM
      have H := Aside0.mk hM
      clear hM
      go_wp2_with fail
      go_ret
      exact ⟨rfl, H.out⟩
    have c1b : decide ((i : Int) < (l0.length : Int)) = true := decide_eq_true (by omega)
    obtain ⟨r1, hM1, hro, hT⟩ := hM
    obtain ⟨ad, rfl, hcell⟩ := Kd.at_string (HC.out wr hT.kept) (i : Int) (Int.natCast_nonneg _) (by omega)
    rw [Int.toNat_natCast] at hcell
    have hx : rdOf ByteArray.empty l0 (i : Int) = l0[i] := by
      unfold rdOf; rw [Int.toNat_natCast, List.getD_eq_getElem?_getD, List.getElem?_eq_getElem c1]; rfl
    rw [hx] at hcell
    have hxs : l0[i].size ≤ maxLen := HL.out _ (List.getElem_mem c1)
    have htk : l0.take (i + 1) = l0.take i ++ [l0[i]] := List.take_succ_eq_append_getElem c1
    have hal := addAll_len G (l0.take i)
    have htl : (l0.take i).length = i := by simp; omega
    have hfw := HF.out
    obtain ⟨x, hxe⟩ : ∃ x, l0[i] = x := ⟨_, rfl⟩
    rw [hxe] at hcell hxs htk
    have hGn : addAll G (l0.take (i + 1)) = addG (addAll G (l0.take i)) x := by rw [htk, addAll_snoc]
    obtain ⟨G1, hG1⟩ : ∃ G1, addAll G (l0.take i) = G1 := ⟨_, rfl⟩
    rw [hG1] at hM1 hGn hal
    clear hx hxe htk
    obtain ⟨bo, bi, ob, ib, hp, hO, hI, ro, ri, hsub⟩ := hM1.blk
    have c0 : wr.cell? ⟨p, 0, none⟩ = some (.map (some bo)) := by rw [blk_cell' hp]; rfl
    have c1 : wr.cell? ⟨p, 1, none⟩ = some (.map (some bi)) := by rw [blk_cell' hp]; rfl
    have hlook := hO.look hxs
    have hnil : ∀ (w : World) (r : Option Nat), (binOp .eql 73 (.map r) (.map none)).run Try.prog w = .ok (.bool r.isNone) w := fun w r => run_eql_map_nil w _ _ _ r Try.underlying73
    cases hb : hasB G1.ns x
    case true =>
      rw [hb] at hlook
      have HM := Aside0.mk hM1
      have HE := Aside0.mk (show addAll G (l0.take (i + 1)) = G1 by rw [hGn, addG_same hM1.good (hasB_iff.1 hb)])
      have HT := Aside0.mk (And.intro hro hT)
      clear hO hI hsub hM1 hT hro hp hG1 hGn hal htl hfw
      go_wp2_with fail
      go_roundg (gk - 1)
      case measure => omega
      case rel => exact ⟨i + 1, by first | rfl | (rw [w64_ (by omega) (by omega)]; rfl) | simp, ⟨by omega⟩, ⟨by rw [HE.out]; exact ⟨r1, HM.out, HT.out.1, HT.out.2⟩⟩⟩
    case false =>
      rw [hb] at hlook
      have hnot := hasB_false.1 hb
      obtain ⟨es, ck, hEO⟩ := hO.top.entry Try.underlying68 (by have := hM1.few; unfold maxLen; omega) hxs (by rw [hb]; rfl) zero73
      obtain ⟨es', ck', hEI⟩ := hI.top.entry Try.underlying68 (by have := hM1.few; unfold maxLen; omega) hxs (by rw [hb]; rfl) zero73
      have hst : AddSt wr bo bi (.map es ck) (.map es' ck') none none wr := ⟨rfl, rfl, rfl, Nat.le_refl _, ⟨(hM1.bound bo (by rw [ro]; simp)).2, (hM1.bound bi (by rw [ri]; simp)).2, fun e => by rw [e, ri] at ro; cases ro⟩, hEO.is, hEI.is, fun _ h => (by cases h), fun _ h => (by cases h), fun _ h => (by cases h), fun _ _ _ _ => rfl⟩
      have hfin : ∀ (u v : Nat) (W : World), AddSt wr bo bi (.map (es.push ⟨.string x, .map (some u), ck⟩) (ck + 1)) (.map (es'.push ⟨.string x, .map (some v), ck'⟩) (ck' + 1)) (some u) (some v) W → GDid w base role p (addAll G (l0.take (i + 1))) W := by
        intro u v W h
        rw [hGn]
        exact GDid.trans hro hT (h.done hp hO hI ro ri hsub hM1 hnot hxs (by omega) (hEO.done W _ h.out) (hEI.done W _ h.inn))
      have hkp : ∀ {oo oi m1 m2 W}, AddSt wr bo bi oo oi m1 m2 W → W.cell? ⟨p, 0, none⟩ = some (.map (some bo)) ∧ W.cell? ⟨p, 1, none⟩ = some (.map (some bi)) := by
        intro oo oi m1 m2 W h
        have h2 := h.rest p (hM1.bound p (by rw [hM1.self]; simp)).2 (fun e => by have := hM1.self; rw [e, ro] at this; cases this) (fun e => by have := hM1.self; rw [e, ri] at this; cases this)
        have h3 := h2.trans hp
        exact ⟨by rw [blk_cell' h3]; rfl, by rw [blk_cell' h3]; rfl⟩
      have hk0 : wr.drew.cell? ⟨p, 0, none⟩ = some (.map (some bo)) ∧ wr.drew.cell? ⟨p, 1, none⟩ = some (.map (some bi)) := ⟨c0, c1⟩
      have HX := Aside0.mk (And.intro hro hT)
      clear hO hI hsub hM1 hT hro hp hG1 hGn hal htl hfw hnot
      go_wp2_with fail
      go_region_held3 (fun W => W.cell? ⟨p, 0, none⟩ = some (.map (some bo)) ∧ W.cell? ⟨p, 1, none⟩ = some (.map (some bi))) (first | exact ⟨c0, c1⟩ | exact hk0 | exact hkp (by assumption)) ((first
        | (refine mk1_event (by rfl) (by first | assumption | exact AddSt.drew (by assumption)) ?_; intro x1 W1 hs1)
        | (refine mk2_event (by rfl) (by first | assumption | exact AddSt.drew (by assumption)) ?_; intro x2 W2 hs2)
        | (refine entO_event hEO (by first | assumption | exact AddSt.drew (by assumption)) ?_; intro W3 hs3)
        | (refine entI_event hEI (by first | assumption | exact AddSt.drew (by assumption)) ?_; intro W4 hs4)
        | (refine stoO_event hEO (by first | assumption | exact AddSt.drew (by assumption)) ?_; intro W5 hs5)
        | (refine stoI_event hEI (by first | assumption | exact AddSt.drew (by assumption)) ?_; intro W6 hs6)))
      all_goals
        have hD := hfin _ _ _ (by assumption)
        go_wp2_with fail
        go_roundg (gk - 1)
        case measure => omega
        case rel => exact ⟨i + 1, by first | rfl | (rw [w64_ (by omega) (by omega)]; rfl) | simp, ⟨by omega⟩, ⟨hD⟩⟩
end Go.Proofs.Ytmhbdgnajlnhnaa.P
/- (*Graph).Link, New: edges are added. -/
namespace Go.Proofs.Ytmhbdgnajlnhnaa.P
open Go.RowKit Go.Maps Go.MapKept Go.ChangeMaps Go.Proofs.YtmhbdgnajlnhnaaW.PrintWords Go.Proofs.YtmhbdgnajlnhnaaW.PrintLast Go.Proofs.YtmhbdgnajlnhnaaW.PrintMore Go.Proofs.Ytmhbdgnajlnhnaa.Pl
set_option linter.unusedVariables false
set_option linter.unusedSimpArgs false
theorem MM.edged {w w' : World} {b : Nat} {ns : List ByteArray} {ob : ByteArray → Nat} {F : ByteArray → List ByteArray} {x t : ByteArray} (h : MM w b ns ob F) (hF : SS (F x)) (hx : x ∈ ns) (hp : MapV w' (ob x) ((F x).length + 1) (upd (fun s => if hasB (F x) s = true then some (.bool true) else none) t (some (.bool true))))
    (hb : w'.heap[b]? = w.heap[b]?) (hs : ∀ s, s ∈ ns → s ≠ x → w'.heap[ob s]? = w.heap[ob s]?) : MM w' b ns ob (fun s => if s = x then ins t (F x) else F s) := by
  refine ⟨h.top.step hb, fun s hm => ?_⟩
  show MapV w' (ob s) (if s = x then ins t (F x) else F s).length (fun u => if hasB (if s = x then ins t (F x) else F s) u = true then some (Value.bool true) else none)
  by_cases e : s = x
  · subst e
    rw [if_pos rfl]
    have hf : (upd (fun u => if hasB (F s) u = true then some (Value.bool true) else none) t (some (.bool true))) = (fun u => if hasB (ins t (F s)) u = true then some (Value.bool true) else none) := by
      funext u
      by_cases eu : u = t
      · subst eu
        rw [upd_same, if_pos (hasB_iff.2 ((mem_ins _ _ _).2 (.inl rfl)))]
      · rw [upd_other _ eu]
        have : hasB (ins t (F s)) u = hasB (F s) u := by
          rw [Bool.eq_iff_iff, hasB_iff, hasB_iff, mem_ins]
          exact ⟨fun h' => by rcases h' with h' | h'; exact absurd h' eu; exact h', fun h' => .inr h'⟩
        rw [this]
    rw [hf] at hp
    exact hp.tight (ins t (F s)) (ss_nodup (ss_ins t _ hF)) (fun u => by
      rw [← hasB_iff]
      cases hasB (ins t (F s)) u <;> simp)
  · rw [if_neg e]
    exact (h.sub s hm).step (hs s hm e)
theorem grown_blk {w w' : World} {row : Option Nat} (h : w.grownBy w' row) {k : Nat} (hk : k < w.heap.size) (hn : row ≠ some k) : w'.heap[k]? = w.heap[k]? := h.block k hk (fun e => hn e.symm)
theorem lt_max {n : Nat} (h : n ≤ 100000) : n < maxLen := by unfold maxLen; omega
/-- an edge's two steps -/
theorem edge_steps {w : World} {base p : Nat} {role : Nat → Role} {G : GG} (hg : GMem w base role p G) {a b : ByteArray} (ha : a ∈ G.ns) (hb : b ∈ G.ns) :
    ∃ bo bi oa ib w1 w2, (w.cell? ⟨p, 0, none⟩ = some (.map (some bo)) ∧ (Instr.lookup 68 (.map (some bo)) (.string a) false).run Try.prog w = .ok (.map (some oa)) w ∧ (Instr.mapUpdate 73 (.map (some oa)) (.string b) (.bool true)).run Try.prog w = .ok () w1) ∧
      (w1.cell? ⟨p, 1, none⟩ = some (.map (some bi)) ∧ (Instr.lookup 68 (.map (some bi)) (.string b) false).run Try.prog w1 = .ok (.map (some ib)) w1 ∧ (Instr.mapUpdate 73 (.map (some ib)) (.string a) (.bool true)).run Try.prog w1 = .ok () w2) ∧
      GDid w base role p (edgeG G a b) w2 := by
  obtain ⟨bo, bi, ob, ib, hp, hO, hI, ro, ri, hsub⟩ := hg.blk
  have hok := hg.good
  have hfew := hg.few
  have sa := hok.short a ha
  have sb := hok.short b hb
  have l1 := hO.look (w := w) sa
  rw [if_pos (hasB_iff.2 ha)] at l1
  have ol := out_len hg a
  have il := inn_len hg b
  obtain ⟨w1, r1, m1, g1, s1⟩ := (hO.sub a ha).put Try.underlying73 (lt_max ol) sb (.bool true)
  have hlt : ∀ k, role k ≠ .none → k < w.heap.size := fun k hk => (hg.bound k hk).2
  have k1 : ∀ k, role k ≠ .none → k ≠ ob a → w1.heap[k]? = w.heap[k]? := fun k hk hn => grown_blk g1 (hlt k hk) (fun e => hn (Option.some.inj e).symm)
  have roa := (hsub a ha).1
  have rib := (hsub b hb).2
  have hI1 : MM w1 bi G.ns ib G.inn := hI.step (k1 bi (by rw [ri]; simp) (fun e => by rw [e, roa] at ri; cases ri)) (fun s hs => k1 _ (by rw [(hsub s hs).2]; simp) (fun e => by have := (hsub s hs).2; rw [e, roa] at this; cases this))
  have hO1 : MM w1 bo G.ns ob (fun s => if s = a then ins b (G.out a) else G.out s) := hO.edged (hok.outs a) ha m1 (k1 bo (by rw [ro]; simp) (fun e => by rw [e, roa] at ro; cases ro)) (fun s hs hne => k1 _ (by rw [(hsub s hs).1]; simp) (fun e => by have := (hsub s hs).1; rw [e, roa] at this; injection this with this; exact hne this.symm))
  have l2 := hI1.look (w := w1) sb
  rw [if_pos (hasB_iff.2 hb)] at l2
  obtain ⟨w2, r2, m2, g2, s2⟩ := (hI1.sub b hb).put Try.underlying73 (lt_max il) sa (.bool true)
  have k2 : ∀ k, role k ≠ .none → k ≠ ib b → w2.heap[k]? = w1.heap[k]? := fun k hk hn => grown_blk g2 (by rw [s1]; exact hlt k hk) (fun e => hn (Option.some.inj e).symm)
  have hI2 : MM w2 bi G.ns ib (fun s => if s = b then ins a (G.inn b) else G.inn s) := hI1.edged (GG.ss_inn hok b) hb m2 (k2 bi (by rw [ri]; simp) (fun e => by rw [e, rib] at ri; cases ri)) (fun s hs hne => k2 _ (by rw [(hsub s hs).2]; simp) (fun e => by have := (hsub s hs).2; rw [e, rib] at this; injection this with this; exact hne this.symm))
  have hO2 : MM w2 bo G.ns ob (fun s => if s = a then ins b (G.out a) else G.out s) := hO1.step (k2 bo (by rw [ro]; simp) (fun e => by rw [e, rib] at ro; cases ro)) (fun s hs => k2 _ (by rw [(hsub s hs).1]; simp) (fun e => by have := (hsub s hs).1; rw [e, rib] at this; cases this))
  have hpa : p ≠ ob a := fun e => by have := hg.self; rw [e, roa] at this; cases this
  have hpb : p ≠ ib b := fun e => by have := hg.self; rw [e, rib] at this; cases this
  have hpn : role p ≠ .none := by rw [hg.self]; simp
  have hinn : (edgeG G a b).inn = fun s => if s = b then ins a (G.inn b) else G.inn s := by funext t; exact edge_inn hok ha hb t
  refine ⟨bo, bi, ob a, ib b, w1, w2, ⟨by rw [blk_cell' hp]; rfl, l1, r1⟩, ⟨by rw [blk_cell' ((k1 p hpn hpa).trans hp)]; rfl, l2, r2⟩, role, ⟨⟨bo, bi, ob, ib, (k2 p hpn hpb).trans ((k1 p hpn hpa).trans hp), hO2, by rw [hinn]; exact hI2, ro, ri, hsub⟩, hg.self, fun k hk => ⟨(hg.bound k hk).1, by rw [s2, s1]; exact hlt k hk⟩, edgeG_ok hok ha hb, hfew⟩, fun _ _ => rfl, ?_⟩
  exact (Turn.grown (ok := fun k => role k ≠ .none) g1 (fun k e => by injection e with e; subst e; rw [roa]; simp)).trans (Turn.grown (ok := fun k => role k ≠ .none) g2 (fun k e => by injection e with e; subst e; rw [rib]; simp)) (fun k hk => .inl hk)
theorem pair_C (w : World) (a b : ByteArray) : Kd.string.C (w.alloc (.cells #[.string a, .string b] 9)) (some ⟨w.heap.size, 0, none⟩) 2 [a, b] := by
  have h1 := World.ownsRow_lit (base := 0) (e := 9) (size := 1) w #[.string a, .string b] 2 (Nat.zero_le _) (by simp [maxLen]) (by simp)
  have h2 : Kd.R Kd.string 9 (w.alloc (.cells #[.string a, .string b] 9)) 0 (fun _ => True) (.slice (some ⟨w.heap.size, 0, none⟩) 2 2) [a, b] := Kd.R_of_own (by simpa using h1 : (w.alloc (.cells #[.string a, .string b] 9)).ownsRow 0 9 1 (.slice (some ⟨w.heap.size, 0, none⟩) 2 2) 2 [Value.string a, Value.string b]) (fun _ _ => trivial)
  exact (Kd.R_reads' h2).2.2
theorem linkG_two (G : GG) (a b : ByteArray) : linkG G a b = edgeG (addAll G [a, b]) a b := rfl
set_option maxRecDepth 1000000 in
set_option maxHeartbeats 4000000 in
theorem link_calls {w : World} {base p : Nat} {role : Nat → Role} {G : GG} (hg : GMem w base role p G) (a b : ByteArray) (ha : a.size ≤ maxLen) (hb : b.size ≤ maxLen) (hfew : G.ns.length + 2 ≤ 100000) :
    Calls Try.prog 25 #[.pointer (some ⟨p, 0, none⟩), .string a, .string b] w fun e w' => e = .returned (.int .i64 0) ∧ GDid w base role p (linkG G a b) w' := by
  obtain ⟨w1, hw1⟩ : ∃ w1, w.alloc (.cells #[.string a, .string b] 9) = w1 := ⟨_, rfl⟩
  have hbel : Below w.heap.size w w1 := by rw [← hw1]; exact (Below.refl _ w).alloc (Nat.le_refl _) _
  have hnone : role w.heap.size = .none := by
    cases h : role w.heap.size with
    | none => rfl
    | _ => have := (hg.bound w.heap.size (by rw [h]; simp)).2; omega
  have hC : ∀ W', Kept w1 W' (fun k => role k ≠ .none) → Kd.string.C W' (some ⟨w.heap.size, 0, none⟩) [a, b].length [a, b] := by
    rw [← hw1]
    refine Kd.C_foot_neS (fun h => h) (pair_C w a b) (fun ad h _ => ?_)
    injection h with h
    subst h
    simpa using hnone
  have hadd := add_calls (hg.below hbel) (some ⟨w.heap.size, 0, none⟩) 2 [a, b] hC (fun s hs => by rcases List.mem_cons.1 hs with rfl | hs; exact ha; rw [List.mem_singleton] at hs; subst hs; exact hb) (by simpa using hfew)
  have hT := Turn.of_below (ok := fun k => role k ≠ .none) hbel
  have H := Aside0.mk hT
  clear hT hC hbel hg
  go_enter Try.func25, Try.ntmps25
  go_wp2_with fail
  try rw [hw1]
  refine hadd.mono ?_
  rintro e w2 ⟨rfl, r2, hM, hr, hT2⟩
  clear hadd
  have hma : a ∈ (addAll G [a, b]).ns := (mem_ins b a _).2 (.inr ((mem_ins a a _).2 (.inl rfl)))
  have hmb : b ∈ (addAll G [a, b]).ns := (mem_ins b b _).2 (.inl rfl)
  obtain ⟨bo, bi, oa, ib, w3, w4, ⟨f1, f2, f3⟩, ⟨f4, f5, f6⟩, hD⟩ := edge_steps hM hma hmb
  have HD : Aside0 (GDid w base role p (linkG G a b) w4) := ⟨by
    rw [linkG_two]
    exact GDid.trans (fun _ _ => rfl) H.out (GDid.trans hr hT2 hD)⟩
  clear hM hr hT2 hD hma hmb H
  go_wp2_with fail
  go_ret
  exact ⟨rfl, HD.out⟩
end Go.Proofs.Ytmhbdgnajlnhnaa.P
/- graph.New: the graph of edges. -/
namespace Go.Proofs.Ytmhbdgnajlnhnaa.P
open Go.RowKit Go.Maps Go.MapKept Go.ChangeMaps Go.Proofs.YtmhbdgnajlnhnaaW.PrintWords Go.Proofs.YtmhbdgnajlnhnaaW.PrintLast Go.Proofs.YtmhbdgnajlnhnaaW.PrintMore Go.Proofs.Ytmhbdgnajlnhnaa.Pl
set_option linter.unusedVariables false
set_option linter.unusedSimpArgs false
def linkAll (G : GG) (l : List S45) : GG := l.foldl (fun G e => linkG G e.f0 e.f1) G
theorem linkAll_snoc (G : GG) (l : List S45) (x : S45) : linkAll G (l ++ [x]) = linkG (linkAll G l) x.f0 x.f1 := by unfold linkAll; rw [List.foldl_append]; rfl
theorem linkG_len (G : GG) (a b : ByteArray) : (linkG G a b).ns.length ≤ G.ns.length + 2 := by
  have := addAll_len G [a, b]
  exact this
theorem linkAll_len (G : GG) : ∀ l : List S45, (linkAll G l).ns.length ≤ G.ns.length + 2 * l.length := by
  intro l
  induction l generalizing G with
  | nil => exact Nat.le_refl _
  | cons x l ih =>
    have h1 := ih (linkG G x.f0 x.f1)
    have h2 := linkG_len G x.f0 x.f1
    show (linkAll (linkG G x.f0 x.f1) l).ns.length ≤ _
    simp only [List.length_cons]
    omega
theorem empty_mem {w W : World} {p bo bi : Nat} (hp : W.heap[p]? = some (.cells #[.map (some bo), .map (some bi)] 70 (0, 0))) (ho : W.heap[bo]? = some (.map #[] 0)) (hi : W.heap[bi]? = some (.map #[] 0)) (h1 : w.heap.size ≤ bo) (h2 : w.heap.size ≤ bi) (h3 : w.heap.size ≤ p) (hn : bo ≠ bi) :
    ∃ role, GMem W w.heap.size role p emptyG := by
  have lp := (Array.getElem?_eq_some_iff.1 hp).1
  have lo := (Array.getElem?_eq_some_iff.1 ho).1
  have li := (Array.getElem?_eq_some_iff.1 hi).1
  have npo : p ≠ bo := fun e => by rw [e, ho] at hp; cases hp
  have npi : p ≠ bi := fun e => by rw [e, hi] at hp; cases hp
  have hz : ∀ {b : Nat}, W.heap[b]? = some (.map #[] 0) → ∀ F, MM W b [] (fun _ => 0) F := fun hb F => ⟨by simpa [hasB] using map_of_empty hb, fun s hs => by cases hs⟩
  refine ⟨fun k => if k = p then .self else if k = bo then .outs else if k = bi then .inns else .none, ⟨bo, bi, fun _ => 0, fun _ => 0, hp, hz ho _, hz hi _, ?_, ?_, fun s hs => by cases hs⟩, ?_, fun k hk => ?_, emptyG_ok, Nat.zero_le _⟩
  · show (if bo = p then _ else if bo = bo then _ else _) = _
    rw [if_neg (fun e => npo e.symm), if_pos rfl]
  · show (if bi = p then _ else if bi = bo then _ else if bi = bi then _ else _) = _
    rw [if_neg (fun e => npi e.symm), if_neg (fun e => hn e.symm), if_pos rfl]
  · show (if p = p then _ else _) = _
    rw [if_pos rfl]
  · by_cases e1 : k = p
    · subst e1; exact ⟨h3, lp⟩
    · by_cases e2 : k = bo
      · subst e2; exact ⟨h1, lo⟩
      · by_cases e3 : k = bi
        · subst e3; exact ⟨h2, li⟩
        · exact absurd (show (if k = p then Role.self else if k = bo then .outs else if k = bi then .inns else .none) = Role.none by rw [if_neg e1, if_neg e2, if_neg e3]) hk
def NewDid (w : World) (p : Nat) (G : GG) (w' : World) : Prop := ∃ role, GMem w' w.heap.size role p G ∧ Below w.heap.size w w'
theorem NewDid.did {w w' w'' : World} {p : Nat} {G G' : GG} {role : Nat → Role} (hg : GMem w' w.heap.size role p G) (hb : Below w.heap.size w w') (h : GDid w' w.heap.size role p G' w'') : NewDid w p G' w'' := by
  obtain ⟨r2, a, b, c⟩ := h
  exact ⟨r2, a, hb.trans (c.below (fun k hk => (hg.bound k hk).1) hb.size)⟩
set_option maxRecDepth 1000000 in
set_option maxHeartbeats 4000000 in
theorem new_calls {w : World} (A0 : Option Addr) (c0 : Nat) (l0 : List S45) (hC : Kd.C k45 w A0 l0.length l0) (hl : ∀ e, e ∈ l0 → e.f0.size ≤ maxLen ∧ e.f1.size ≤ maxLen) (hfew : l0.length ≤ 10000) :
    Calls Try.prog 37 #[.slice A0 l0.length c0] w fun e w' => ∃ p, e = .returned (.pointer (some ⟨p, 0, none⟩)) ∧ NewDid w p (linkAll emptyG l0) w' := by
  have HC := Aside0.mk hC
  have HL := Aside0.mk hl
  have hmm := fun (W : World) => @run_makeMap Try.prog 68 W
  clear hC hl
  go_enter Try.func37, Try.ntmps37
  go_wp2_with fail
  obtain ⟨W, hW⟩ : ∃ W, (((w.alloc (Obj.map #[] 0)).alloc (Obj.map #[] 0)).alloc (Obj.cells #[Value.map (some w.heap.size), Value.map (some (w.heap.size + 1))] 70)) = W := ⟨_, rfl⟩
  have h0 : Aside0 (NewDid w (w.heap.size + 1 + 1) (linkAll emptyG (l0.take 0)) W) := by
    constructor
    rw [List.take_zero]
    have hb : Below w.heap.size w W := by rw [← hW]; exact below_alloc (below_alloc (below_alloc (Below.refl _ w) _) _) _
    have s1 : (w.alloc (Obj.map #[] 0)).heap.size = w.heap.size + 1 := alloc_size
    have s2 : ((w.alloc (Obj.map #[] 0)).alloc (Obj.map #[] 0)).heap.size = w.heap.size + 1 + 1 := by rw [alloc_size, s1]
    obtain ⟨role, hM⟩ := empty_mem (w := w) (W := W) (p := w.heap.size + 1 + 1) (bo := w.heap.size) (bi := w.heap.size + 1)
      (by rw [← hW, ← s2]; exact alloc_new) (by rw [← hW, alloc_old (by omega), alloc_old (by omega)]; exact alloc_new) (by rw [← hW, alloc_old (by omega), ← s1]; exact alloc_new) (Nat.le_refl _) (by omega) (by omega) (by omega)
    exact ⟨role, hM, hb⟩
  obtain ⟨p, hp⟩ : ∃ p, w.heap.size + 1 + 1 = p := ⟨_, rfl⟩
  obtain ⟨q1, hq1⟩ : ∃ q, w.heap.size + 1 = q := ⟨_, rfl⟩
  rw [hW]
  rw [hp] at h0 ⊢
  rw [hq1]
  clear hW hp hq1
  go_loopg [12] (l0.length + 1) (fun n iv wr => ∃ i : Nat, iv = .int .i64 (i : Int) ∧ Aside0 (i + n = l0.length + 1) ∧ Aside0 (NewDid w p (linkAll emptyG (l0.take i)) wr))
  case atStart => exact ⟨0, rfl, ⟨by omega⟩, h0⟩
  case round =>
    obtain ⟨i, rfl, ⟨hn⟩, ⟨hM⟩⟩ := hrel
    clear h0
    by_cases c1 : i < l0.length
    case neg =>
      have c1b : decide ((i : Int) < (l0.length : Int)) = false := decide_eq_false (by omega)
      rw [List.take_of_length_le (by omega)] at hM
      have H := Aside0.mk hM
      clear hM
      go_wp2_with fail
      go_ret
      exact ⟨_, rfl, H.out⟩
    have c1b : decide ((i : Int) < (l0.length : Int)) = true := decide_eq_true (by omega)
    obtain ⟨role, hM, hB⟩ := hM
    obtain ⟨ad, rfl, hc0, hc1⟩ := at_T45 (Kd.C_below HC.out hB) (i : Int) (Int.natCast_nonneg _) (by omega)
    rw [Int.toNat_natCast] at hc0 hc1
    have hx : rd_T45 l0 (i : Int) = l0[i] := by
      unfold rd_T45; rw [Int.toNat_natCast, List.getD_eq_getElem?_getD, List.getElem?_eq_getElem c1]; rfl
    rw [hx] at hc0 hc1
    have hxs := HL.out _ (List.getElem_mem c1)
    have htk : l0.take (i + 1) = l0.take i ++ [l0[i]] := List.take_succ_eq_append_getElem c1
    have hal := linkAll_len emptyG (l0.take i)
    have htl : (l0.take i).length = i := by simp; omega
    have hel : emptyG.ns.length = 0 := rfl
    obtain ⟨x, hxe⟩ : ∃ x, l0[i] = x := ⟨_, rfl⟩
    rw [hxe] at hc0 hc1 hxs htk
    have hGn := Aside0.mk (show linkAll emptyG (l0.take (i + 1)) = linkG (linkAll emptyG (l0.take i)) x.f0 x.f1 by rw [htk, linkAll_snoc])
    obtain ⟨G1, hG1⟩ : ∃ G1, linkAll emptyG (l0.take i) = G1 := ⟨_, rfl⟩
    rw [hG1] at hM hGn hal
    clear hx hxe htk hG1
    obtain ⟨W, hW⟩ : ∃ W, wr.alloc (.cells #[.string x.f0, .string x.f1] 45) = W := ⟨_, rfl⟩
    have hbel : Below wr.heap.size wr W := by rw [← hW]; exact (Below.refl _ wr).alloc (Nat.le_refl _) _
    have z0 : W.cell? ⟨wr.heap.size, 0, none⟩ = some (.string x.f0) := by rw [← hW, blk_cell' alloc_new]; rfl
    have z1 : W.cell? ⟨wr.heap.size, 1, none⟩ = some (.string x.f1) := by rw [← hW, blk_cell' alloc_new]; rfl
    have HB := Aside0.mk (below_then hB hB.size hbel)
    have HM := Aside0.mk (hM.below hbel)
    clear hM hbel hB
    go_wp2_with fail
    refine (link_calls HM.out x.f0 x.f1 hxs.1 hxs.2 (by omega)).mono ?_
    rintro e w2 ⟨rfl, hD⟩
    have HD : Aside0 (NewDid w p (linkAll emptyG (l0.take (i + 1))) w2) := ⟨by rw [hGn.out]; exact NewDid.did HM.out HB.out hD⟩
    clear hD HM HB hal
    go_wp2_with fail
    go_roundg (gk - 1)
    case measure => omega
    case rel => exact ⟨i + 1, by first | rfl | (rw [w64_ (by omega) (by omega)]; rfl) | simp, ⟨by omega⟩, HD⟩
end Go.Proofs.Ytmhbdgnajlnhnaa.P
