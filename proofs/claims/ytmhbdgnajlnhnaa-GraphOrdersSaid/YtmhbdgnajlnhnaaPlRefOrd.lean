/- The reference's Order, plainly. -/
import Derived.Test.YtmhbdgnajlnhnaaPlRefO
import Derived.Test.YtmhbdgnajlnhnaaPxf33
namespace Go.Proofs.Ytmhbdgnajlnhnaa.Pl
open Go.RowKit Go.Proofs.YtmhbdgnajlnhnaaW.PrintWords Go.Proofs.Ytmhbdgnajlnhnaa.P
set_option linter.unusedVariables false
set_option linter.unusedSimpArgs false
theorem rorder_l2 {G : GG} {E : List S45} {out : List ByteArray} {i : Nat} (ho : out.length ≤ 1000000) (hi : i < G.ns.length) (l : List ByteArray) (hl : l.length ≤ 1000000) {R : List ByteArray × Bool} : ∀ d j : Nat, j + d = l.length → ∀ f : Bool,
    Ev (fun k => if (f && (l.drop j).all (hasB out)) = true then brickyardref19_Order.l1 k (out ++ [G.ns[i]]) true (wrap64 ((i : Int) + 1)) G.ns E else brickyardref19_Order.l1 k out false (wrap64 ((i : Int) + 1)) G.ns E) R →
    Ev (fun k => brickyardref19_Order.l2 k out false (i : Int) f l (j : Int) G.ns E) R := by
  intro d
  induction d with
  | zero =>
    intro j hj f hK
    rw [List.drop_of_length_le (by omega)] at hK
    simp only [List.all_nil, Bool.and_true] at hK
    refine ev_succ ?_
    simp only [brickyardref19_Order.l2, get_rd hi]
    refine ev_ite_neg (by omega) ?_
    by_cases hf : f = true
    · subst hf
      exact ev_ite_pos (by decide) (ev_ite_pos (by omega) (ev_ite_pos (by omega) (ev_ite_pos (by omega) (by simpa using hK))))
    · rw [Bool.not_eq_true] at hf
      subst hf
      exact ev_ite_neg (by decide) (by simpa using hK)
  | succ d ih =>
    intro j hj f hK
    have hlt : j < l.length := by omega
    rw [List.drop_eq_getElem_cons hlt, List.all_cons, ← Bool.and_assoc] at hK
    refine ev_succ ?_
    simp only [brickyardref19_Order.l2, get_rd hlt, w64n (n := j) (by omega)]
    refine ev_ite_pos (by omega) ?_
    by_cases hf : f = true
    · subst hf
      refine ev_ite_pos (by decide) (ev_ite_pos (by omega) (ev_bind (has_ev out l[j] (by omega)) (ih (j + 1) (by omega) _ ?_)))
      simpa using hK
    · rw [Bool.not_eq_true] at hf
      subst hf
      exact ev_ite_neg (by decide) (ih (j + 1) (by omega) _ (by simpa using hK))
set_option maxHeartbeats 1000000 in
theorem rorder_l0 {G : GG} {E : List S45} (h : RG G E) : ∀ (q : Nat) (out : List ByteArray), out.length + q = G.ns.length + 1 → out.length ≤ G.ns.length → Ev (fun k => brickyardref19_Order.l0 k out G.ns E) (orderGo G q out) := by
  have hnm := h.names
  intro q
  induction q with
  | zero =>
    intro out hq hle
    omega
  | succ q ih =>
    intro out hq hle
    refine ev_succ ?_
    simp only [brickyardref19_Order.l0]
    rw [orderGo]
    by_cases hlt : out.length < G.ns.length
    case neg => rw [if_neg hlt]; exact ev_ite_neg (by omega) (ev_const rfl)
    rw [if_pos hlt]
    refine ev_ite_pos (by omega) ?_
    have found : ∀ (o : List ByteArray) (i : Nat), i ≤ G.ns.length → Ev (fun k => brickyardref19_Order.l0 k o G.ns E) (orderGo G q o) → Ev (fun k => brickyardref19_Order.l1 k o true (i : Int) G.ns E) (orderGo G q o) := by
      intro o i hi hK
      have : Ev (fun k => brickyardref19_Order.j2 k o true (i : Int) false G.ns E) (orderGo G q o) := by
        refine ev_succ ?_
        simp only [brickyardref19_Order.j2]
        exact ev_ite_neg (by decide) (ev_ite_pos (by decide) hK)
      refine ev_succ ?_
      simp only [brickyardref19_Order.l1]
      by_cases hl : i < G.ns.length
      · exact ev_ite_pos (by omega) this
      · exact ev_ite_neg (by omega) this
    have key : ∀ d i : Nat, i + d = G.ns.length → (∀ y, y ∈ G.ns.take i → (!hasB out y && freeB G out y) = false) → Ev (fun k => brickyardref19_Order.l1 k out false (i : Int) G.ns E) (match nextO G out with | none => ([], false) | some s => orderGo G q (out ++ [s])) := by
      intro d
      induction d with
      | zero =>
        intro i hi hlow
        rw [List.take_of_length_le (by omega)] at hlow
        have : nextO G out = none := List.find?_eq_none.2 (fun y hy => by rw [hlow y hy]; decide)
        rw [this]
        refine ev_succ ?_
        simp only [brickyardref19_Order.l1]
        refine ev_ite_neg (by omega) (ev_succ ?_)
        simp only [brickyardref19_Order.j2]
        exact ev_ite_neg (by decide) (ev_ite_neg (by decide) (ev_const rfl))
      | succ d ihd =>
        intro i hi hlow
        have hil : i < G.ns.length := by omega
        have hnx : (!hasB out G.ns[i] && freeB G out G.ns[i]) = false → Ev (fun k => brickyardref19_Order.l1 k out false ((i + 1 : Nat) : Int) G.ns E) (match nextO G out with | none => ([], false) | some s => orderGo G q (out ++ [s])) := fun hc => by
          refine ihd (i + 1) (by omega) (fun y hy => ?_)
          rw [List.take_succ_eq_append_getElem hil] at hy
          rcases List.mem_append.1 hy with hy | hy
          · exact hlow y hy
          · rw [List.mem_singleton] at hy; rw [hy]; exact hc
        refine ev_succ ?_
        simp only [brickyardref19_Order.l1]
        refine ev_ite_pos (by omega) (ev_succ ?_)
        simp only [brickyardref19_Order.j2, get_rd hil, w64n (n := i) (by omega)]
        refine ev_ite_pos (by decide) (ev_ite_pos (by omega) (ev_ite_pos (by omega) (ev_bind (has_ev out G.ns[i] (by omega)) ?_)))
        by_cases hb : hasB out G.ns[i] = true
        · exact ev_ite_pos hb (hnx (by rw [hb]; rfl))
        · refine ev_ite_neg hb (ev_bind (h.out_ev G.ns[i]) ?_)
          refine rorder_l2 (by omega) hil (G.out G.ns[i]) (h.out_len _) (G.out G.ns[i]).length 0 (Nat.zero_add _) true ?_
          rw [List.drop_zero, Bool.true_and, w64n (n := i) (by omega)]
          rw [Bool.not_eq_true] at hb
          by_cases hf : (G.out G.ns[i]).all (hasB out) = true
          · have hN : nextO G out = some G.ns[i] := by
              unfold nextO
              conv => lhs; rw [← List.take_append_drop i G.ns]
              rw [List.find?_append, List.find?_eq_none.2 (fun y hy => by rw [hlow y hy]; decide), List.drop_eq_getElem_cons hil, List.find?_cons_of_pos (by rw [hb]; exact hf)]
              rfl
            rw [hN]
            refine ev_ite_pos hf (found _ (i + 1) (by omega) (ih _ (by simp; omega) (by simp; omega)))
          · exact ev_ite_neg hf (hnx (by rw [hb, Bool.not_false, Bool.true_and]; exact Bool.eq_false_iff.2 hf))
    exact key G.ns.length 0 (Nat.zero_add _) (fun y hy => by rw [List.take_zero] at hy; cases hy)
theorem rorder_ev {G : GG} {E : List S45} (h : RG G E) : Ev (fun k => brickyardref19_Order.f k G.ns E) (orderG G) := rorder_l0 h _ [] (by simp) (by simp)
end Go.Proofs.Ytmhbdgnajlnhnaa.Pl
