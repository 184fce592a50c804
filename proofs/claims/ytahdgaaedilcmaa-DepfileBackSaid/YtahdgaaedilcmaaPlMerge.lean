/- Rules put together, plainly: the document's road and the program's come to the same; how great lists may be. -/
import Derived.Test.YtahdgaaedilcmaaGRMerge
import Derived.Test.YtahdgaaedilcmaaPxf15
import Derived.Test.YtahdgaaedilcmaaGRow
namespace Go.Proofs.Ytahdgaaedilcmaa.Pl
open Go.RowKit Go.Proofs.Ytahdgaaedilcmaa.P Go.Proofs.YtahdgaaedilcmaaW.PrintWords Go.Proofs.YtahdgaaedilcmaaW.PrintLast Go.Proofs.YtahdgaaedilcmaaW.PrintMore
set_option linter.unusedVariables false
theorem inS_iff (S : List ByteArray) (x : ByteArray) : inS S x = true ↔ x ∈ S := by
  unfold inS
  rw [List.any_eq_true]
  constructor
  · rintro ⟨y, hy, he⟩
    have : y = x := L_inj (beq_iff_eq.1 he)
    exact this ▸ hy
  · intro h; exact ⟨x, h, beq_self_eq_true _⟩
theorem onceGo_app (a b : List ByteArray) : ∀ acc, onceGo acc (a ++ b) = onceGo (onceGo acc a) b := by
  induction a with
  | nil => intro acc; rfl
  | cons x a ih =>
    intro acc
    rw [List.cons_append, onceGo, onceGo]
    by_cases h : inS acc x = true
    · rw [if_pos h, if_pos h]; exact ih _
    · rw [if_neg h, if_neg h]; exact ih _
theorem acc_onceGo (l : List ByteArray) : ∀ acc x, x ∈ acc → x ∈ onceGo acc l := by
  induction l with
  | nil => intro acc x h; exact h
  | cons y l ih =>
    intro acc x h
    rw [onceGo]
    split
    · exact ih _ _ h
    · exact ih _ _ (List.mem_append_left _ h)
theorem mem_onceGo (l : List ByteArray) : ∀ acc x, x ∈ l → x ∈ onceGo acc l := by
  induction l with
  | nil => intro acc x h; cases h
  | cons y l ih =>
    intro acc x h
    rw [onceGo]
    rcases List.mem_cons.1 h with rfl | h
    · split
      · rename_i hs; exact acc_onceGo _ _ _ ((inS_iff _ _).1 hs)
      · exact acc_onceGo _ _ _ (by simp)
    · split <;> exact ih _ _ h
theorem nodup_onceGo (l : List ByteArray) : ∀ acc : List ByteArray, acc.Nodup → (onceGo acc l).Nodup := by
  induction l with
  | nil => intro acc h; exact h
  | cons y l ih =>
    intro acc h
    rw [onceGo]
    split
    · exact ih _ h
    · rename_i hs
      refine ih _ ?_
      rw [List.nodup_append]
      exact ⟨h, by simp, fun a ha b hb he => hs ((inS_iff _ _).2 (by rw [List.mem_singleton] at hb; rw [← hb, ← he]; exact ha))⟩
theorem step_map (g : ByteArray → S32) (hg : ∀ n, (g n).f0 = n) (r : S32) : ∀ ns : List ByteArray, ns.Nodup →
    rmStep (ns.map g) r = ns.map (fun n => if n = r.f0 then ⟨n, onceGo (g n).f1 r.f1⟩ else g n) ++ (if inS ns r.f0 = true then [] else [(⟨r.f0, onceGo [] r.f1⟩ : S32)])
  | [], _ => rfl
  | n :: ns, hnd => by
    rw [List.nodup_cons] at hnd
    rw [List.map_cons, List.map_cons, rmStep, hg n]
    by_cases h : n = r.f0
    · rw [if_pos h, if_pos h, if_pos ((inS_iff _ _).2 (by rw [h]; exact List.mem_cons_self)), List.append_nil]
      congr 1
      refine List.map_congr_left (fun m hm => ?_)
      rw [if_neg (fun e => hnd.1 (by rw [h, ← e]; exact hm))]
    · rw [if_neg h, if_neg h, step_map g hg r ns hnd.2]
      have : inS (n :: ns) r.f0 = true ↔ inS ns r.f0 = true := by rw [inS_iff, inS_iff]; simp [Ne.symm h]
      by_cases h2 : inS ns r.f0 = true
      · rw [if_pos h2, if_pos (this.2 h2)]; rfl
      · rw [if_neg h2, if_neg (fun e => h2 (this.1 e))]; rfl
theorem merge_snoc (l : List S32) (r : S32) : rmStep (mergeL l) r = mergeL (l ++ [r]) := by
  unfold mergeL
  rw [step_map (fun n => ⟨n, onceGo [] (depsOf l n)⟩) (fun _ => rfl) r _ (nodup_onceGo _ [] List.nodup_nil), List.map_append, List.map_singleton, onceGo_snoc]
  have hmem : r.f0 ∈ onceGo [] (l.map (·.f0)) ↔ r.f0 ∈ l.map (·.f0) := ⟨fun h => (onceGo_mem _ _ _ h).elim (fun h => by cases h) id, mem_onceGo _ _ _⟩
  have hfun : ∀ n, (if n = r.f0 then (⟨n, onceGo (onceGo [] (depsOf l n)) r.f1⟩ : S32) else ⟨n, onceGo [] (depsOf l n)⟩) = ⟨n, onceGo [] (depsOf (l ++ [r]) n)⟩ := by
    intro n
    rw [depsOf_snoc]
    by_cases h : n = r.f0
    · rw [if_pos h, if_pos h.symm, onceGo_app]
    · rw [if_neg h, if_neg (fun e => h e.symm)]
  have hmap : ∀ ns : List ByteArray, ns.map (fun n => if n = r.f0 then (⟨n, onceGo (onceGo [] (depsOf l n)) r.f1⟩ : S32) else ⟨n, onceGo [] (depsOf l n)⟩) = ns.map (fun n => ⟨n, onceGo [] (depsOf (l ++ [r]) n)⟩) := fun ns => List.map_congr_left (fun n _ => hfun n)
  rw [hmap]
  by_cases h : inS (onceGo [] (l.map (·.f0))) r.f0 = true
  · rw [if_pos h, if_pos h, List.append_nil]
  · rw [if_neg h, if_neg h, List.map_append, List.map_singleton]
    have hd : depsOf l r.f0 = [] := by
      unfold depsOf
      rw [List.flatMap_eq_nil_iff]
      intro q hq
      rw [if_neg]
      intro e
      exact h ((inS_iff _ _).2 (hmem.2 (by rw [← e]; exact List.mem_map_of_mem hq)))
    rw [depsOf_snoc, if_pos rfl, hd, List.nil_append]
theorem merge_eq (l : List S32) : rmerge l = mergeL l := by
  have h : ∀ (b a : List S32), b.foldl rmStep (mergeL a) = mergeL (a ++ b) := by
    intro b
    induction b with
    | nil => intro a; rw [List.append_nil]; rfl
    | cons r b ih => intro a; rw [List.foldl_cons, merge_snoc, ih (a ++ [r]), List.append_assoc]; rfl
  exact h l []
def totT (l : List ByteArray) : Nat := (l.map fun d => 1 + d.size).sum
def tot (l : List S32) : Nat := (l.map fun r => 1 + r.f0.size + totT r.f1).sum
def totL (l : List (List S32)) : Nat := (l.map tot).sum
theorem tot_drop {l : List S32} {i : Nat} (h : i < l.length) : tot (l.drop i) = 1 + l[i].f0.size + totT l[i].f1 + tot (l.drop (i + 1)) := by
  rw [List.drop_eq_getElem_cons h]; rfl
theorem totT_drop {l : List ByteArray} {i : Nat} (h : i < l.length) : totT (l.drop i) = 1 + l[i].size + totT (l.drop (i + 1)) := by
  rw [List.drop_eq_getElem_cons h]; rfl
theorem totL_drop {l : List (List S32)} {i : Nat} (h : i < l.length) : totL (l.drop i) = tot l[i] + totL (l.drop (i + 1)) := by
  rw [List.drop_eq_getElem_cons h]; rfl
set_option maxHeartbeats 2000000 in
/-- is it too great to be played? -/
theorem great_ev (G : List (List S32)) (hG : G.length ≤ 1000) (hB : ∀ l ∈ G, RB l) : ∃ b, Ev (fun k => brickyardlaw16_great.f k G) b ∧ (b = false → totL G < 32768) := by
  have hmx : reachBytes = 140737488351232 := rfl
  have key : ∀ d i : Nat, i + d = G.length → ∀ n : Int, 0 ≤ n → n ≤ 140737488400000 → ∃ b, Ev (fun k => brickyardlaw16_great.l0 k n G (G.length : Int) (i : Int)) b ∧ (b = false → n + (totL (G.drop i) : Nat) < 32768) := by
    intro d
    induction d with
    | zero =>
      intro i hi n hn hn2
      refine ⟨decide (n ≥ 32768), ev_succ ?_, ?_⟩
      · simp only [brickyardlaw16_great.l0]
        exact ev_ite_neg (by omega) (ev_const rfl)
      · intro h
        rw [List.drop_of_length_le (by omega)]
        have := of_decide_eq_false h
        show n + (0 : Int) < 32768
        omega
    | succ d ih =>
      intro i hi n hn hn2
      have hlt : i < G.length := by omega
      have hrd : rd_L3 G (i : Int) = G[i] := by
        unfold rd_L3; rw [Int.toNat_natCast, List.getD_eq_getElem?_getD, List.getElem?_eq_getElem hlt]; rfl
      have hRB := hB _ (List.getElem_mem hlt)
      rw [totL_drop hlt]
      obtain ⟨l, hl⟩ : ∃ l, G[i] = l := ⟨_, rfl⟩
      rw [hl] at hrd hRB ⊢
      have next : ∀ n : Int, 0 ≤ n → n ≤ 140737488400000 → ∃ b, Ev (fun k => brickyardlaw16_great.l0 k n G (G.length : Int) (wrap64 ((i : Int) + 1))) b ∧ (b = false → n + (totL (G.drop (i + 1)) : Nat) < 32768) := by
        rw [w64_ (by omega) (by omega)]
        exact ih (i + 1) (by omega)
      clear ih
      have one : ∀ e j : Nat, j + e = l.length → ∀ n : Int, 0 ≤ n → n ≤ 140737488400000 → ∃ b, Ev (fun k => brickyardlaw16_great.l1 k n l (j : Int) G (G.length : Int) (i : Int)) b ∧ (b = false → n + (tot (l.drop j) : Nat) + (totL (G.drop (i + 1)) : Nat) < 32768) := by
        intro e
        induction e with
        | zero =>
          intro j hj n hn hn2
          obtain ⟨b, hb, ht⟩ := next n hn hn2
          refine ⟨b, ev_succ ?_, fun h => ?_⟩
          · simp only [brickyardlaw16_great.l1]
            refine ev_ite_neg (by omega) (ev_succ ?_)
            simp only [brickyardlaw16_great.j2]
            exact ev_ite_neg (by decide) hb
          · have := ht h
            rw [List.drop_of_length_le (by omega)]
            show n + (0 : Int) + _ < 32768
            omega
        | succ e ih =>
          intro j hj n hn hn2
          have hlj : j < l.length := by omega
          by_cases hsm : n < 32768
          case neg =>
            obtain ⟨b, hb, ht⟩ := next n hn hn2
            refine ⟨b, ev_succ ?_, fun h => by have := ht h; omega⟩
            simp only [brickyardlaw16_great.l1]
            refine ev_ite_pos (by omega) (ev_succ ?_)
            simp only [brickyardlaw16_great.j2]
            exact ev_ite_neg (by rw [decide_eq_false hsm]; decide) hb
          have hrd2 : rd_T32 l (j : Int) = l[j] := by
            unfold rd_T32; rw [Int.toNat_natCast, List.getD_eq_getElem?_getD, List.getElem?_eq_getElem hlj]; rfl
          have hr := hRB.2 _ (List.getElem_mem hlj)
          have hlb := hRB.1
          rw [tot_drop hlj]
          obtain ⟨r, hre⟩ : ∃ r, l[j] = r := ⟨_, rfl⟩
          rw [hre] at hrd2 hr ⊢
          obtain ⟨hr0, hr1, hr2⟩ := hr
          have next2 : ∀ n : Int, 0 ≤ n → n ≤ 140737488400000 → ∃ b, Ev (fun k => brickyardlaw16_great.l1 k n l (wrap64 ((j : Int) + 1)) G (G.length : Int) (i : Int)) b ∧ (b = false → n + (tot (l.drop (j + 1)) : Nat) + (totL (G.drop (i + 1)) : Nat) < 32768) := by
            rw [w64_ (by omega) (by omega)]
            exact ih (j + 1) (by omega)
          clear ih
          have two : ∀ f m : Nat, m + f = r.f1.length → ∀ n : Int, 0 ≤ n → n ≤ 140737488400000 → ∃ b, Ev (fun k => brickyardlaw16_great.l2 k n l (j : Int) (m : Int) G (G.length : Int) (i : Int)) b ∧
              (b = false → n + (totT (r.f1.drop m) : Nat) + (tot (l.drop (j + 1)) : Nat) + (totL (G.drop (i + 1)) : Nat) < 32768) := by
            intro f
            induction f with
            | zero =>
              intro m hm n hn hn2
              obtain ⟨b, hb, ht⟩ := next2 n hn hn2
              refine ⟨b, ev_succ ?_, fun h => ?_⟩
              · simp only [brickyardlaw16_great.l2, hrd2]
                exact ev_ite_pos (by omega) (ev_ite_pos (by omega) (ev_ite_neg (by omega) hb))
              · have := ht h
                rw [List.drop_of_length_le (by omega)]
                show n + (0 : Int) + _ + _ < 32768
                omega
            | succ f ih =>
              intro m hm n hn hn2
              have hlm : m < r.f1.length := by omega
              by_cases hsm2 : n < 32768
              case neg =>
                obtain ⟨b, hb, ht⟩ := next2 n hn hn2
                refine ⟨b, ev_succ ?_, fun h => by have := ht h; omega⟩
                simp only [brickyardlaw16_great.l2, hrd2]
                exact ev_ite_pos (by omega) (ev_ite_pos (by omega) (ev_ite_pos (by omega) (ev_ite_neg hsm2 hb)))
              have hrd3 : rdOf ByteArray.empty r.f1 (m : Int) = r.f1[m] := by
                unfold rdOf; rw [Int.toNat_natCast, List.getD_eq_getElem?_getD, List.getElem?_eq_getElem hlm]; rfl
              have hd := hr2 _ (List.getElem_mem hlm)
              rw [totT_drop hlm]
              obtain ⟨x, hx⟩ : ∃ x, r.f1[m] = x := ⟨_, rfl⟩
              rw [hx] at hrd3 hd ⊢
              have e1 : Aside0 (wrap64 (n + wrap64 (1 + (x.size : Int))) = n + (1 + (x.size : Int))) := .mk <| by rw [w64_ (x := 1 + (x.size : Int)) (by omega) (by omega), w64_ (by omega) (by omega)]
              have e2 : Aside0 (wrap64 ((m : Int) + 1) = ((m + 1 : Nat) : Int)) := .mk <| by rw [w64_ (by omega) (by omega)]; rfl
              obtain ⟨b, hb, ht⟩ := ih (m + 1) (by omega) (n + (1 + (x.size : Int))) (by omega) (by omega)
              refine ⟨b, ev_succ ?_, fun h => by have := ht h; omega⟩
              simp only [brickyardlaw16_great.l2, hrd2, hrd3]
              rw [e1.out, e2.out]
              exact ev_ite_pos (by omega) (ev_ite_pos (by omega) (ev_ite_pos (by omega) (ev_ite_pos hsm2 (ev_ite_pos (by omega) hb))))
          have e1 : Aside0 (wrap64 (n + wrap64 (1 + (r.f0.size : Int))) = n + (1 + (r.f0.size : Int))) := .mk <| by rw [w64_ (x := 1 + (r.f0.size : Int)) (by omega) (by omega), w64_ (by omega) (by omega)]
          obtain ⟨b, hb, ht⟩ := two r.f1.length 0 (Nat.zero_add _) (n + (1 + (r.f0.size : Int))) (by omega) (by omega)
          refine ⟨b, ev_succ ?_, fun h => by have := ht h; rw [List.drop_zero] at this; omega⟩
          simp only [brickyardlaw16_great.l1]
          refine ev_ite_pos (by omega) (ev_succ ?_)
          simp only [brickyardlaw16_great.j2, hrd2]
          rw [e1.out]
          exact ev_ite_pos (by rw [decide_eq_true hsm]) (ev_ite_pos (by omega) (ev_ite_pos (by omega) hb))
      obtain ⟨b, hb, ht⟩ := one l.length 0 (Nat.zero_add _) n hn hn2
      refine ⟨b, ev_succ ?_, fun h => by have := ht h; rw [List.drop_zero] at this; omega⟩
      simp only [brickyardlaw16_great.l0, hrd]
      exact ev_ite_pos (by omega) (ev_ite_pos (by omega) (ev_ite_pos (by omega) hb))
  obtain ⟨b, hb, ht⟩ := key G.length 0 (Nat.zero_add _) 0 (Int.le_refl _) (by decide)
  refine ⟨b, hb, fun h => ?_⟩
  have := ht h
  rw [List.drop_zero] at this
  omega
end Go.Proofs.Ytahdgaaedilcmaa.Pl
