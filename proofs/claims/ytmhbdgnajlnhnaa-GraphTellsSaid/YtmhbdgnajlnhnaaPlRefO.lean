/- The reference's Out, plainly. -/
import Derived.Test.YtmhbdgnajlnhnaaPlPure
import Derived.Test.YtmhbdgnajlnhnaaPxf30
namespace Go.Proofs.Ytmhbdgnajlnhnaa.Pl
open Go.RowKit Go.Proofs.YtmhbdgnajlnhnaaW.PrintWords Go.Proofs.Ytmhbdgnajlnhnaa.P
set_option linter.unusedVariables false
set_option linter.unusedSimpArgs false
theorem has_l0 (l : List ByteArray) (s : ByteArray) (hl : l.length ≤ 1000000000000) : ∀ d i : Nat, i + d = l.length → Ev (fun k => brickyardref19_has.l0 k l s (i : Int)) (hasB (l.drop i) s) := by
  intro d
  induction d with
  | zero =>
    intro i hi
    refine ev_succ ?_
    simp only [brickyardref19_has.l0]
    rw [List.drop_of_length_le (by omega)]
    exact ev_ite_neg (by omega) (ev_const rfl)
  | succ d ih =>
    intro i hi
    have hlt : i < l.length := by omega
    refine ev_succ ?_
    simp only [brickyardref19_has.l0, get_rd hlt, w64n (n := i) (by omega)]
    rw [List.drop_eq_getElem_cons hlt, hasB_cons]
    refine ev_ite_pos (by omega) (ev_ite_pos (by omega) ?_)
    by_cases h : l[i] = s
    · exact ev_eq (ev_ite_pos (toList_eq.2 h) (ev_const rfl)) (by rw [decide_eq_true h]; rfl)
    · exact ev_eq (ev_ite_neg (fun h' => h (toList_eq.1 h')) (ih (i + 1) (by omega))) (by rw [decide_eq_false h]; rfl)
theorem has_ev (l : List ByteArray) (s : ByteArray) (hl : l.length ≤ 1000000000000) : Ev (fun k => brickyardref19_has.f k l s) (hasB l s) := by
  have := has_l0 l s hl l.length 0 (Nat.zero_add _)
  rwa [List.drop_zero] at this
set_option maxHeartbeats 1000000 in
theorem sorted_l0 (l : List ByteArray) (hl : l.length ≤ 100000000) : ∀ d i : Nat, i + d = l.length → ∀ acc : List ByteArray, acc.length + d ≤ 100000000 →
    Ev (fun k => brickyardref19_Sorted.l0 k l acc (i : Int)) ((l.drop i).foldl (fun a x => ins x a) acc) := by
  intro d
  induction d with
  | zero =>
    intro i hi acc ha
    refine ev_succ ?_
    simp only [brickyardref19_Sorted.l0]
    rw [List.drop_of_length_le (by omega)]
    exact ev_ite_neg (by omega) (ev_const rfl)
  | succ d ih =>
    intro i hi acc ha
    have hlt : i < l.length := by omega
    have next : ∀ a : List ByteArray, a.length ≤ acc.length + 1 → Ev (fun k => brickyardref19_Sorted.l0 k l a (wrap64 ((i : Int) + 1))) ((l.drop (i + 1)).foldl (fun a x => ins x a) a) := by
      intro a h
      rw [w64n (n := i) (by omega)]
      exact ih (i + 1) (by omega) a (by omega)
    rw [List.drop_eq_getElem_cons hlt, List.foldl_cons]
    obtain ⟨x, hx⟩ : ∃ x, l[i] = x := ⟨_, rfl⟩
    have hrd : rdOf ByteArray.empty l (i : Int) = x := by rw [get_rd hlt, hx]
    rw [hx]
    refine ev_succ ?_
    simp only [brickyardref19_Sorted.l0]
    refine ev_ite_pos (by omega) ?_
    have key : ∀ e j : Nat, j + e = acc.length → (∀ y, y ∈ acc.take j → ltB y x) → Ev (fun k => brickyardref19_Sorted.l1 k l acc (i : Int) (j : Int)) ((l.drop (i + 1)).foldl (fun a x => ins x a) (ins x acc)) := by
      intro e
      induction e with
      | zero =>
        intro j hj hlow
        have hins : ins x acc = acc ++ [x] := by
          have := ins_skip x acc [] (by rwa [List.take_of_length_le (by omega)] at hlow)
          rwa [List.append_nil] at this
        refine ev_succ ?_
        simp only [brickyardref19_Sorted.l1, hrd, Int.toNat_natCast]
        rw [List.drop_of_length_le (by omega), List.take_of_length_le (by omega)]
        simp only [Option.bind_some, List.append_nil, List.length_append, List.length_nil, List.length_cons]
        refine ev_ite_neg (by omega) (ev_ite_pos (by omega) (ev_ite_pos (by omega) (ev_ite_pos (by omega) (ev_ite_pos (by omega) (ev_ite_pos (by omega) (ev_ite_pos (by omega) (ev_ite_pos (by omega) ?_)))))))
        rw [hins]
        exact next _ (by simp)
      | succ e ihj =>
        intro j hj hlow
        have hjl : j < acc.length := by omega
        have hsp : acc = acc.take j ++ acc[j] :: acc.drop (j + 1) := by rw [← List.drop_eq_getElem_cons hjl, List.take_append_drop]
        have hins : ins x acc = acc.take j ++ ins x (acc[j] :: acc.drop (j + 1)) := by
          conv => lhs; rw [hsp]
          exact ins_skip x _ _ hlow
        have hl1 : (acc.drop j).length = acc.length - j := List.length_drop
        have hl2 : (acc.take j).length = j := by simp; omega
        refine ev_succ ?_
        simp only [brickyardref19_Sorted.l1, hrd, get_rd hjl, less_ltB, toList_eq, Int.toNat_natCast]
        simp only [Option.bind_some, List.nil_append, List.length_append, List.length_nil, List.length_cons, hl1, hl2]
        refine ev_ite_pos (by omega) (ev_ite_pos (by omega) (ev_ite_pos (by omega) (ev_ite_pos (by omega) ?_)))
        by_cases h1 : ltB acc[j] x
        · refine ev_ite_pos h1 ?_
          rw [w64n (n := j) (by omega)]
          refine ihj (j + 1) (by omega) (fun y hy => ?_)
          rw [List.take_succ_eq_append_getElem hjl] at hy
          rcases List.mem_append.1 hy with hy | hy
          · exact hlow y hy
          · rw [List.mem_singleton] at hy; rw [hy]; exact h1
        · refine ev_ite_neg h1 ?_
          by_cases h2 : acc[j] = x
          · refine ev_ite_pos h2 ?_
            have : ins x acc = acc := by
              rw [hins, ins, if_neg h1, if_pos h2]
              exact hsp.symm
            rw [this]
            exact next _ (by omega)
          · refine ev_ite_neg h2 (ev_ite_pos (by omega) (ev_ite_pos (by omega) (ev_ite_pos (by omega) (ev_ite_pos (by omega) ?_))))
            have : ins x acc = acc.take j ++ [x] ++ acc.drop j := by
              rw [hins, ins, if_neg h1, if_neg h2, ← List.drop_eq_getElem_cons hjl, List.append_assoc]
              rfl
            rw [this]
            exact next _ (by simp; omega)
    exact key acc.length 0 (Nat.zero_add _) (fun y hy => by rw [List.take_zero] at hy; cases hy)
theorem sorted_ev (l : List ByteArray) (hl : l.length ≤ 50000000) : Ev (fun k => brickyardref19_Sorted.f k l) (srt l) := by
  have := sorted_l0 l (by omega) l.length 0 (Nat.zero_add _) [] (by simp; omega)
  rwa [List.drop_zero] at this
theorem out_l0 (ns : List ByteArray) (E : List S45) (a : ByteArray) (hE : E.length ≤ 1000000) : ∀ d i : Nat, i + d = E.length → ∀ acc : List ByteArray, acc.length + d ≤ 1000000 →
    Ev (fun k => brickyardref19_Out.l0 k a acc (i : Int) ns E) (srt (acc ++ tosE (E.drop i) a)) := by
  intro d
  induction d with
  | zero =>
    intro i hi acc ha
    refine ev_succ ?_
    simp only [brickyardref19_Out.l0]
    rw [List.drop_of_length_le (by omega)]
    refine ev_ite_neg (by omega) (ev_bind (sorted_ev acc (by omega)) (ev_const ?_))
    unfold tosE; simp
  | succ d ih =>
    intro i hi acc ha
    have hlt : i < E.length := by omega
    rw [List.drop_eq_getElem_cons hlt, tosE_cons]
    refine ev_succ ?_
    simp only [brickyardref19_Out.l0, get_rdE hlt, toList_eq, w64n (n := i) (by omega)]
    refine ev_ite_pos (by omega) (ev_ite_pos (by omega) ?_)
    by_cases h : E[i].f0 = a
    · refine ev_ite_pos h (ev_ite_pos (by omega) ?_)
      rw [if_pos h]
      have := ih (i + 1) (by omega) (acc ++ [E[i].f1]) (by simp; omega)
      rwa [List.append_assoc] at this
    · refine ev_ite_neg h ?_
      rw [if_neg h]
      exact ih (i + 1) (by omega) acc (by omega)
theorem out_ev (ns : List ByteArray) (E : List S45) (a : ByteArray) (hE : E.length ≤ 1000000) : Ev (fun k => brickyardref19_Out.f k ns E a) (outE E a) := by
  have := out_l0 ns E a hE E.length 0 (Nat.zero_add _) [] (by simpa using hE)
  rwa [List.drop_zero, List.nil_append] at this
theorem RG.out_ev {G : GG} {E : List S45} (h : RG G E) (a : ByteArray) : Ev (fun k => brickyardref19_Out.f k G.ns E a) (G.out a) := by
  rw [← h.outs a]; exact Pl.out_ev G.ns E a h.few
end Go.Proofs.Ytmhbdgnajlnhnaa.Pl
