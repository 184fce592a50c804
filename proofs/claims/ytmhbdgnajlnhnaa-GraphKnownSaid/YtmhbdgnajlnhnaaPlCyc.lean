/- There is an order just if there is no cycle. -/
import Derived.Test.YtmhbdgnajlnhnaaPlPure
import Derived.Test.YtmhbdgnajlnhnaaPlGraph
import Derived.Test.YtmhbdgnajlnhnaaGHave
namespace Go.Proofs.Ytmhbdgnajlnhnaa.Pl
open Go.RowKit Go.Proofs.YtmhbdgnajlnhnaaW.PrintWords Go.Proofs.Ytmhbdgnajlnhnaa.P
set_option linter.unusedVariables false
set_option linter.unusedSimpArgs false
theorem order_all {G : GG} (hG : GOk G) {o : List ByteArray} (h : OOk G o) (hl : o.length = G.ns.length) {s : ByteArray} (hs : s ∈ G.ns) : s ∈ o := by
  by_cases hm : s ∈ o
  · exact hm
  · have h1 := len_restO hG h
    have h2 : s ∈ restO G o := mem_restO.2 ⟨hs, hm⟩
    have : restO G o = [] := List.eq_nil_of_length_eq_zero (by omega)
    rw [this] at h2
    cases h2
theorem order_cyc_no {G : GG} (hG : GOk G) {o c : List ByteArray} (ho : OOk G o) (hl : o.length = G.ns.length) (he : ∀ i, (hi : i < o.length) → ∀ t, t ∈ G.out o[i] → t ∈ o.take i) (hc : CycOk G c) : False := by
  have key : ∀ j, (hj : j < o.length) → o[j] ∉ c := by
    intro j
    induction j using Nat.strongRecOn with
    | _ j ih =>
      intro hj hm
      obtain ⟨i, hi, e⟩ := List.getElem_of_mem hm
      have h1 := hc.next i hi
      rw [e] at h1
      have h2 := he j hj _ h1
      obtain ⟨j', hj', e'⟩ := List.getElem_of_mem h2
      rw [List.length_take] at hj'
      rw [List.getElem_take] at e'
      refine ih j' (by omega) (by omega) ?_
      rw [e']
      exact List.getElem_mem _
  have hp := hc.pos
  have h0 : c[0] ∈ G.ns := by
    by_cases h : c[0] ∈ G.ns
    · exact h
    · have h1 := hc.next 0 hp
      rw [hG.none _ h] at h1
      cases h1
  obtain ⟨j, hj, e⟩ := List.getElem_of_mem (order_all hG ho hl h0)
  exact key j hj (by rw [e]; exact List.getElem_mem _)
theorem pigeon {R : List ByteArray} {f : Nat → ByteArray} (h : ∀ k, f k ∈ R) : ∃ i j, i < j ∧ f i = f j := by
  by_cases hx : ∃ i j, i < j ∧ f i = f j
  · exact hx
  · exfalso
    have hd : ((List.range (R.length + 1)).map f).Nodup := List.pairwise_map.2 (List.pairwise_lt_range.imp (fun {i j} hij e => hx ⟨i, j, hij, e⟩))
    have := List.Nodup.length_le_of_subset hd (fun s hs => by
      obtain ⟨k, _, rfl⟩ := List.mem_map.1 hs
      exact h k)
    rw [List.length_map, List.length_range] at this
    omega
theorem stuck_cyc {G : GG} (hG : GOk G) {L : List ByteArray} (hL : OOk G L) (hl : L.length < G.ns.length) (hn : nextO G L = none) : ∃ c, cycleG G = some c := by
  have hstep : ∀ s, s ∈ restO G L → ∃ t, t ∈ G.out s ∧ t ∈ restO G L := by
    intro s hs
    rw [nextO_rest, List.find?_eq_none] at hn
    have h1 := hn s hs
    unfold freeB at h1
    rw [List.all_eq_true] at h1
    apply Classical.byContradiction
    intro hno
    refine h1 (fun t ht => ?_)
    apply Classical.byContradiction
    intro hb
    refine hno ⟨t, ht, mem_restO.2 ⟨hG.inside _ _ ht, fun hm => hb (hasB_iff.2 hm)⟩⟩
  have h0 : 0 < (restO G L).length := by have := len_restO hG hL; omega
  have nx : ∀ s : { s // s ∈ restO G L }, ∃ t : { s // s ∈ restO G L }, t.1 ∈ G.out s.1 := fun s => by
    obtain ⟨t, h1, h2⟩ := hstep s.1 s.2
    exact ⟨⟨t, h2⟩, h1⟩
  obtain ⟨nf, hnf⟩ := Classical.axiomOfChoice nx
  let g : Nat → { s // s ∈ restO G L } := fun k => Nat.rec ⟨(restO G L)[0], List.getElem_mem h0⟩ (fun _ s => nf s) k
  have hg : ∀ k, (g (k + 1)).1 ∈ G.out (g k).1 := fun k => hnf (g k)
  obtain ⟨i, j, hij, e⟩ := pigeon (f := fun k => (g k).1) (fun k => (g k).2)
  have hs := stp_of_edges (G := G) (f := fun k => (g k).1) hg (j - (i + 1)) (i + 1)
  rw [show i + 1 + (j - (i + 1)) = j by omega] at hs
  obtain ⟨m, _, hd⟩ := dist_of_stp hs
  have e' : (g j).1 = (g i).1 := e.symm
  rw [e'] at hd
  have hq : (g (i + 1)).1 ∈ G.out (g i).1 := hg i
  obtain ⟨c, hc, _⟩ := cand_of hG hq hd
  rcases bestOf_spec G (pairsG G G.ns) with ⟨_, h2⟩ | ⟨c', h2, _⟩
  · exact absurd hc (h2 _ (mem_pairsG.2 ⟨(mem_restO.1 (g i).2).1, hq⟩) c)
  · exact ⟨c', h2⟩
/-- the two are never alike -/
theorem order_cyc {G : GG} (hG : GOk G) : (cycleG G).isSome = !(orderG G).2 := by
  rcases order_ok hG with ⟨o, h, hO, hl, he⟩ | ⟨h, L, hL, hl, hn⟩
  · rw [h]
    cases hc : cycleG G with
    | none => rfl
    | some c => exact absurd (cyc_ok hG hc) (fun hk => order_cyc_no hG hO hl he hk)
  · rw [h]
    obtain ⟨c, hc⟩ := stuck_cyc hG hL hl hn
    rw [hc]
    rfl
theorem order_parts {G : GG} (hG : GOk G) (h : (orderG G).2 = true) : (orderG G).1.length = G.ns.length ∧ OOk G (orderG G).1 ∧ (∀ s, s ∈ (orderG G).1 ↔ s ∈ G.ns) ∧ ∀ i, (hi : i < (orderG G).1.length) → ∀ t, t ∈ G.out (orderG G).1[i] → t ∈ (orderG G).1.take i := by
  rcases order_ok hG with ⟨o, ho, hO, hl, he⟩ | ⟨ho, _⟩
  · have h1 : (orderG G).1 = o := by rw [ho]
    rw [h1]
    exact ⟨hl, hO, fun s => ⟨hO.sub s, order_all hG hO hl⟩, he⟩
  · rw [ho] at h; cases h
theorem order_not {G : GG} (hG : GOk G) (h : (orderG G).2 = false) : (orderG G).1 = [] := by
  rcases order_ok hG with ⟨o, ho, _⟩ | ⟨ho, _⟩
  · rw [ho] at h; cases h
  · rw [ho]
theorem cyc_sub {G : GG} (hG : GOk G) {c : List ByteArray} (h : CycOk G c) {s : ByteArray} (hs : s ∈ c) : s ∈ G.ns := by
  obtain ⟨i, hi, e⟩ := List.getElem_of_mem hs
  by_cases hm : s ∈ G.ns
  · exact hm
  · have h1 := h.next i hi
    rw [e, hG.none s hm] at h1
    cases h1
theorem whole_parts {G : GG} (hG : GOk G) : ∃ (O C : List ByteArray) (k : Bool), orderG G = (O, k) ∧ cycleG G = (if k = true then none else some C) ∧
    (k = true → O.length = G.ns.length ∧ msrt O = G.ns ∧ (∀ i, (hi : i < O.length) → ∀ t, t ∈ G.out O[i] → t ∈ O.take i) ∧ ∀ s, s ∈ O → s ∈ G.ns) ∧
    (k = false → O = [] ∧ CycOk G C ∧ ∀ s, s ∈ C → s ∈ G.ns) := by
  cases hk : (orderG G).2 with
  | true =>
    obtain ⟨hl, hO, hm, hout⟩ := order_parts hG hk
    refine ⟨(orderG G).1, [], true, by rw [← hk], ?_, fun _ => ⟨hl, ?_, hout, fun s => (hm s).1⟩, fun h => (by cases h)⟩
    · have := order_cyc hG
      rw [hk] at this
      cases hc : cycleG G with
      | none => rfl
      | some c => rw [hc] at this; cases this
    · rw [msrt_srt hO.once]
      exact ss_uniq _ _ (ss_srt _) hG.rise (fun z => by rw [mem_srt, hm z])
  | false =>
    have := order_cyc hG
    rw [hk] at this
    cases hc : cycleG G with
    | none => rw [hc] at this; cases this
    | some c =>
      refine ⟨(orderG G).1, c, false, by rw [← hk], rfl, fun h => (by cases h), fun _ => ⟨order_not hG hk, cyc_ok hG hc, fun s => cyc_sub hG (cyc_ok hG hc)⟩⟩
theorem hasB_no' {l : List ByteArray} {s : ByteArray} (h : s ∉ l) : hasB l s = false := by
  cases e : hasB l s with
  | false => rfl
  | true => exact absurd (hasB_iff.1 e) h
end Go.Proofs.Ytmhbdgnajlnhnaa.Pl
namespace Go.Proofs.Ytmhbdgnajlnhnaa.P
open Go.RowKit Go.Proofs.YtmhbdgnajlnhnaaW.PrintWords Go.Proofs.YtmhbdgnajlnhnaaW.PrintLast Go.Proofs.YtmhbdgnajlnhnaaW.PrintMore Go.Proofs.Ytmhbdgnajlnhnaa.Pl
theorem below_sorted {w wr w' : World} {ok : Nat → Prop} {v : Value} {l : List ByteArray} (hB : Below w.heap.size w wr) (hR : Kd.R Kd.string 9 wr w.heap.size ok v l) (hg : wr.grownBy w' v.ownBlock) : Below w.heap.size w w' :=
  pw_below_grown hB _ hB.size hg (fun k hk => ((Kd.R_bound hR).1 k hk).2.1)
end Go.Proofs.Ytmhbdgnajlnhnaa.P
