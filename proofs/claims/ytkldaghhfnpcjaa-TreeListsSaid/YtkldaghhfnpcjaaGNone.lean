/- Folded: GTreeW, GNone. -/
import Derived.Test.YtkldaghhfnpcjaaGTree
import Derived.Test.YtkldaghhfnpcjaaGListed
/- The source tree: Write, Remove. -/
namespace Go.Proofs.Ytkldaghhfnpcjaa.P
open Go.RowKit Go.Maps Go.Proofs.YtkldaghhfnpcjaaW.PrintWords Go.Proofs.YtkldaghhfnpcjaaW.PrintLast Go.Proofs.YtkldaghhfnpcjaaW.PrintMore Go.Proofs.Ytkldaghhfnpcjaa.Pl
set_option linter.unusedVariables false
set_option linter.unusedSimpArgs false
/-- the answer, and the tree behind it -/
def TDone (w : World) (base : Nat) (ok : Nat → Prop) (p : Nat) (R : TS × Int) (e : Ending) (w' : World) : Prop := e = .returned (.int .i64 R.2) ∧ TDid w base ok p R.1 w'
theorem fV_keys (l : Fs) (h : FS l) : (l.map (·.1)).Nodup ∧ ∀ s, s ∈ l.map (·.1) ↔ (fV l s).isSome = true :=
  ⟨List.pairwise_map.2 (h.imp fun {a b} h => ltB_ne h), fun s => by unfold fV; rw [← fget_some_iff]; cases fget l s <;> simp⟩
theorem fV_put {l : Fs} (h : FS l) (a s : ByteArray) : fV (fput l a s) = upd (fV l) a (some (.string s)) := by
  funext q
  unfold fV upd
  rw [fget_put h]
  by_cases e : q = a
  · rw [if_pos e, if_pos e]; rfl
  · rw [if_neg e, if_neg e]
theorem fV_del {l : Fs} (h : FS l) (a : ByteArray) : fV (fdel l a) = upd (fV l) a none := by
  funext q
  unfold fV upd
  rw [fget_del h]
  by_cases e : q = a
  · rw [if_pos e, if_pos e]; rfl
  · rw [if_neg e, if_neg e]
/-- behind a store into the map, or a strike, and the note -/
theorem turned_done {w W w2 w3 : World} {base p b n : Nat} {ok : Nat → Prop} {S : TS} {fs' : Fs} {a : ByteArray} (h : TMem w base ok p S) (hcs : S.cs.length < 1000000) (hT : Turn ok w W) (hb : ok b ∨ w.heap.size ≤ b) (hne : b ≠ p) (hlt : b < W.heap.size)
    (hM : MapV w2 b n (fV fs')) (hg : W.grownBy w2 (some b)) (h3 : w3.heap[p]? = some (.cells (treeCells (S.cs ++ [a]) (some b)) 50 (0, 0))) (ht3 : Turn (· = p) w2 w3) (hok : TOk ⟨fs', S.cs ++ [a]⟩) (hfix : ∀ C b', w.heap[p]? = some (.cells (treeCells C (some b')) 50 (0, 0)) → b' = b) : TDid w base ok p ⟨fs', S.cs ++ [a]⟩ w3 := by
  have hs2 := hg.size
  have hp := h.bound p h.own
  have hTT : Turn (fun k => ok k ∨ k = b) W w3 := (Turn.grown (ok := fun k => ok k ∨ k = b) hg (fun k e => .inr (by injection e with e; exact e.symm))).trans ht3 (fun k e => .inl (.inl (e ▸ h.own)))
  refine ⟨fun k => ok k ∨ k = b, ⟨⟨some b, h3, .inr ⟨b, rfl, hne, .inr rfl, ?_⟩⟩, .inl h.own, fun k hk => ?_, hok, by simp; omega⟩, fun k hk => ?_, hT.trans hTT (fun k hk => ?_), fun C b' hc => by rw [hfix C b' hc]; exact h3⟩
  · have hM3 : MapV w3 b n (fV fs') := hM.step (ht3.block b (by omega) hne)
    have := hM3.tight (fs'.map (·.1)) (fV_keys fs' hok.rise).1 (fV_keys fs' hok.rise).2
    rwa [List.length_map] at this
  · have h4 := hTT.size
    have h5 := hT.size
    rcases hk with hk | rfl
    · have := h.bound k hk; omega
    · rcases hb with hb | hb
      · have := h.bound k hb; omega
      · omega
  · rcases hk with hk | rfl
    · exact .inl hk
    · exact hb
  · rcases hk with hk | rfl
    · exact .inl hk
    · exact hb
set_option maxRecDepth 100000 in
set_option maxHeartbeats 2000000 in
theorem twrite_calls {w : World} {base p : Nat} {ok : Nat → Prop} {S : TS} (h : TMem w base ok p S) (a s : ByteArray) (ha : a.size ≤ maxLen) (hcs : S.cs.length < 1000000) :
    Calls Try.prog 13 #[.pointer (some ⟨p, 0, none⟩), .string a, .string s] w (TDone w base ok p (writeT S a s)) := by
  obtain ⟨m, hb, hm⟩ := h.blk
  have c33 := (tree_cells hb).2.1
  have hlk := fun n => files_look (w := w.drewN n) (p := p) (ok := ok) (S := S) (m := m) (by rcases hm with hm | ⟨b, e, h1, h2, h3⟩; exact .inl hm; exact .inr ⟨b, e, h1, h2, h3⟩) ha
  have hln := fun n ty => files_len (w := w.drewN n) (p := p) (ok := ok) (S := S) (m := m) (by rcases hm with hm | ⟨b, e, h1, h2, h3⟩; exact .inl hm; exact .inr ⟨b, e, h1, h2, h3⟩) h.good.rise ty
  have hnil : ∀ (w : World) (r : Option Nat), (binOp .eql 48 (.map r) (.map none)).run Try.prog w = .ok (.bool r.isNone) w := fun w r => run_eql_map_nil w _ _ _ r Try.underlying48
  have hmm := fun (W : World) => @run_makeMap Try.prog 48 W
  have HW := Aside0.mk (h.good.write a s)
  have H := Aside0.mk h
  have HM := Aside0.mk hm
  have HB := Aside0.mk hb
  clear hm hb h
  go_enter Try.func13, Try.ntmps13
  go_wp2_with fail
  refine (is_calls a w).mono ?_
  rintro e w1 ⟨rfl, ⟨nd, rfl⟩⟩
  have hl := hlk nd
  have hn := hln nd
  clear hlk hln
  cases hp : isP a with
  | false =>
    have HE := Aside0.mk (show writeT S a s = (S, 2) from by unfold writeT; rw [if_neg (by rw [hp]; decide)])
    clear hl hn
    go_wp2_with fail
    go_ret
    exact ⟨by rw [HE.out]; rfl, by rw [HE.out]; exact TDid.drewN H.out nd⟩
  | true =>
    by_cases hsz : 4096 < s.size
    · have HE := Aside0.mk (show writeT S a s = (S, 3) from by unfold writeT; rw [if_pos hp, if_pos hsz])
      have cl : decide ((4096 : Int) < (s.size : Int)) = true := decide_eq_true (by omega)
      clear hl hn
      go_wp2_with fail
      go_ret
      exact ⟨by rw [HE.out]; rfl, by rw [HE.out]; exact TDid.drewN H.out nd⟩
    have cl : decide ((4096 : Int) < (s.size : Int)) = false := decide_eq_false (by omega)
    cases hg : fget S.fs a with
    | none =>
      rw [hg] at hl
      replace hl : (Instr.lookup 48 (.map m) (.string a) true).run Try.prog (w.drewN nd) = .ok (.tuple #[.string ⟨#[]⟩, .bool false]) (w.drewN nd) := hl
      by_cases hfull : S.fs.length = 256
      · have HE := Aside0.mk (show writeT S a s = (S, 8) from by unfold writeT; rw [if_pos hp, if_neg hsz, if_neg (by rw [hg]; simp), if_pos ⟨hg, hfull⟩])
        replace hn : ∀ ty, (Builtin.len_ #[48] ty #[.map m]).run Try.prog (w.drewN nd) = .ok (.int .i64 256) (w.drewN nd) := fun ty => by have := hn ty; rw [hfull] at this; exact this
        clear hg hp hsz hfull
        go_wp2_with fail
        go_ret
        exact ⟨by rw [HE.out]; rfl, by rw [HE.out]; exact TDid.drewN H.out nd⟩
      · have HE := Aside0.mk (show writeT S a s = (⟨fput S.fs a s, S.cs ++ [a]⟩, 0) from by unfold writeT; rw [if_pos hp, if_neg hsz, if_neg (by rw [hg]; simp), if_neg (fun h => hfull h.2)])
        have cf : (((S.fs.length : Nat) : Int) == 256) = false := beq_eq_false_iff_ne.mpr (by omega)
        clear hg hp hsz hfull
        rcases HM.out with ⟨rfl, hf⟩ | ⟨b, rfl, hne, hokb, hMb⟩
        · obtain ⟨W, hW⟩ : ∃ W, W = ((w.drewN nd).alloc (.map #[] 0)).setCell ⟨p, 33, none⟩ (.map (some w.heap.size)) := ⟨_, rfl⟩
          have hb1 : ((w.drewN nd).alloc (.map #[] 0)).heap[p]? = some (.cells (treeCells S.cs none) 50 (0, 0)) := blk_alloc (show (w.drewN nd).heap[p]? = _ from HB.out) _
          have hb2 : W.heap[p]? = some (.cells (treeCells S.cs (some w.heap.size)) 50 (0, 0)) := by rw [hW]; exact tree_map hb1 _
          have hplt := H.out.bound p H.out.own
          have hMW : MapV W w.heap.size 0 (fV S.fs) := by
            rw [hf, hW]
            exact (MapV.made (w.drewN nd)).step (Below.heap_setCell _ ⟨p, 33, none⟩ _ w.heap.size (by show w.heap.size ≠ p; omega))
          have hT : Turn ok w W := by rw [hW]; exact (((Turn.refl ok w).drewN nd).alloc _).setCell _ _ H.out.own
          have hWs : W.heap.size = w.heap.size + 1 := by rw [hW]; simp
          obtain ⟨w2, hrun, hM2, hg2, hs2⟩ := hMW.put Try.underlying48 (by decide) ha (.string s)
          have hb3 : w2.heap[p]? = some (.cells (treeCells S.cs (some w.heap.size)) 50 (0, 0)) := blk_grown hb2 hg2 (fun e => by injection e with e; omega)
          have hnote := note_calls p S.cs (some w.heap.size) a w2 hb3 (by omega)
          have g33 := (tree_cells hb1).2.1
          have z33 := (tree_cells hb1).2.2.2 33
          have c33' := (tree_cells hb2).2.1
          have HK := Aside0.mk (fun (w3 : World) (h3 : w3.heap[p]? = some (.cells (treeCells (S.cs ++ [a]) (some w.heap.size)) 50 (0, 0))) (ht3 : Turn (· = p) w2 w3) => turned_done (fs' := fput S.fs a s) H.out hcs hT (.inr (Nat.le_refl _)) (by omega) (by omega) (by rw [fV_put H.out.good.rise]; exact hM2) hg2 h3 ht3 (by have := HW.out; rw [HE.out] at this; exact this) (fun C b' hc => absurd (treeCells_m (HB.out.symm.trans hc)) (by simp)))
          clear hb1 hb2 hb3 hMW hT hM2 hg2 hs2 hWs hplt hf
          rw [hW] at hrun c33'
          clear hW
          go_wp2_with fail
          refine hnote.mono ?_
          rintro e w3 ⟨rfl, h3, ht3, _⟩
          clear hnote
          go_wp2_with fail
          go_ret
          exact ⟨by rw [HE.out]; rfl, by rw [HE.out]; exact HK.out w3 h3 ht3⟩
        · have hMW : MapV (w.drewN nd) b S.fs.length (fV S.fs) := hMb
          obtain ⟨w2, hrun, hM2, hg2, hs2⟩ := hMW.put Try.underlying48 (by have := H.out.good.few; unfold maxLen; omega) ha (.string s)
          have hb3 : w2.heap[p]? = some (.cells (treeCells S.cs (some b)) 50 (0, 0)) := blk_grown (show (w.drewN nd).heap[p]? = _ from HB.out) hg2 (fun e => by injection e with e; exact hne e.symm)
          have hnote := note_calls p S.cs (some b) a w2 hb3 (by omega)
          have HK := Aside0.mk (fun (w3 : World) (h3 : w3.heap[p]? = some (.cells (treeCells (S.cs ++ [a]) (some b)) 50 (0, 0))) (ht3 : Turn (· = p) w2 w3) => turned_done (fs' := fput S.fs a s) H.out hcs ((Turn.refl ok w).drewN nd) (.inl hokb) hne (H.out.bound b hokb).2 (by rw [fV_put H.out.good.rise]; exact hM2) hg2 h3 ht3 (by have := HW.out; rw [HE.out] at this; exact this) (fun C b' hc => (Option.some.inj (treeCells_m (HB.out.symm.trans hc))).symm))
          clear hb3 hMW hM2 hg2 hs2 hMb hne hokb
          go_wp2_with fail
          refine hnote.mono ?_
          rintro e w3 ⟨rfl, h3, ht3, _⟩
          clear hnote
          go_wp2_with fail
          go_ret
          exact ⟨by rw [HE.out]; rfl, by rw [HE.out]; exact HK.out w3 h3 ht3⟩
    | some u =>
      rw [hg] at hl
      replace hl : (Instr.lookup 48 (.map m) (.string a) true).run Try.prog (w.drewN nd) = .ok (.tuple #[.string u, .bool true]) (w.drewN nd) := hl
      rcases HM.out with ⟨rfl, hf⟩ | ⟨b, rfl, hne, hokb, hMb⟩
      · rw [hf] at hg; cases hg
      by_cases hus : u = s
      · subst hus
        have HE := Aside0.mk (show writeT S a u = (S, 0) from by unfold writeT; rw [if_pos hp, if_neg hsz, if_pos hg])
        have ce : (u.toList == u.toList) = true := beq_self_eq_true _
        clear hg hp hsz
        go_wp2_with fail
        go_ret
        exact ⟨by rw [HE.out]; rfl, by rw [HE.out]; exact TDid.drewN H.out nd⟩
      · have HE := Aside0.mk (show writeT S a s = (⟨fput S.fs a s, S.cs ++ [a]⟩, 0) from by unfold writeT; rw [if_pos hp, if_neg hsz, if_neg (by rw [hg]; intro e; exact hus (Option.some.inj e)), if_neg (fun h => by rw [hg] at h; cases h.1)])
        have ce : (u.toList == s.toList) = false := beq_eq_false_iff_ne.mpr (fun e => hus (L_inj (by rw [← toList_L, ← toList_L, e])))
        have hMW : MapV (w.drewN nd) b S.fs.length (fV S.fs) := hMb
        obtain ⟨w2, hrun, hM2, hg2, hs2⟩ := hMW.put Try.underlying48 (by have := H.out.good.few; unfold maxLen; omega) ha (.string s)
        have hb3 : w2.heap[p]? = some (.cells (treeCells S.cs (some b)) 50 (0, 0)) := blk_grown (show (w.drewN nd).heap[p]? = _ from HB.out) hg2 (fun e => by injection e with e; exact hne e.symm)
        have hnote := note_calls p S.cs (some b) a w2 hb3 (by omega)
        have HK := Aside0.mk (fun (w3 : World) (h3 : w3.heap[p]? = some (.cells (treeCells (S.cs ++ [a]) (some b)) 50 (0, 0))) (ht3 : Turn (· = p) w2 w3) => turned_done (fs' := fput S.fs a s) H.out hcs ((Turn.refl ok w).drewN nd) (.inl hokb) hne (H.out.bound b hokb).2 (by rw [fV_put H.out.good.rise]; exact hM2) hg2 h3 ht3 (by have := HW.out; rw [HE.out] at this; exact this) (fun C b' hc => (Option.some.inj (treeCells_m (HB.out.symm.trans hc))).symm))
        clear hb3 hMW hM2 hg2 hs2 hMb hne hokb hg hp hsz hus
        go_wp2_with fail
        refine hnote.mono ?_
        rintro e w3 ⟨rfl, h3, ht3, _⟩
        clear hnote
        go_wp2_with fail
        go_ret
        exact ⟨by rw [HE.out]; rfl, by rw [HE.out]; exact HK.out w3 h3 ht3⟩
set_option maxRecDepth 100000 in
set_option maxHeartbeats 2000000 in
theorem tremove_calls {w : World} {base p : Nat} {ok : Nat → Prop} {S : TS} (h : TMem w base ok p S) (a : ByteArray) (ha : a.size ≤ maxLen) (hcs : S.cs.length < 1000000) :
    Calls Try.prog 17 #[.pointer (some ⟨p, 0, none⟩), .string a] w (TDone w base ok p (removeT S a)) := by
  obtain ⟨m, hb, hm⟩ := h.blk
  have c33 := (tree_cells hb).2.1
  have hrd := tread_calls h a ha
  have HW := Aside0.mk (h.good.remove a)
  have H := Aside0.mk h
  have HM := Aside0.mk hm
  have HB := Aside0.mk hb
  clear hm hb h
  go_enter Try.func17, Try.ntmps17
  go_wp2_with fail
  refine hrd.mono ?_
  rintro e w1 ⟨rfl, ⟨nd, rfl⟩⟩
  clear hrd
  by_cases hz : (readT S a).2 = 0
  · obtain ⟨hp, u, hg, _⟩ := readT_zero.1 hz
    rcases HM.out with ⟨rfl, hf⟩ | ⟨b, rfl, hne, hokb, hMb⟩
    · rw [hf] at hg; cases hg
    have HE := Aside0.mk (show removeT S a = (⟨fdel S.fs a, S.cs ++ [a]⟩, 0) from by unfold removeT; rw [if_pos hz])
    have cz : ((readT S a).2 != 0) = false := by rw [hz]; rfl
    obtain ⟨R, hR⟩ : ∃ R, readT S a = R := ⟨_, rfl⟩
    rw [hR] at cz ⊢
    have hMW : MapV (w.drewN nd) b S.fs.length (fV S.fs) := hMb
    obtain ⟨w2, hrun, hM2, hg2, hs2⟩ := hMW.del Try.underlying48 ha 0
    have hb3 : w2.heap[p]? = some (.cells (treeCells S.cs (some b)) 50 (0, 0)) := blk_grown (show (w.drewN nd).heap[p]? = _ from HB.out) hg2 (fun e => by injection e with e; exact hne e.symm)
    have hnote := note_calls p S.cs (some b) a w2 hb3 (by omega)
    have HK := Aside0.mk (fun (w3 : World) (h3 : w3.heap[p]? = some (.cells (treeCells (S.cs ++ [a]) (some b)) 50 (0, 0))) (ht3 : Turn (· = p) w2 w3) => turned_done (fs' := fdel S.fs a) H.out hcs ((Turn.refl ok w).drewN nd) (.inl hokb) hne (H.out.bound b hokb).2 (by rw [fV_del H.out.good.rise]; exact hM2) hg2 h3 ht3 (by have := HW.out; rw [HE.out] at this; exact this) (fun C b' hc => (Option.some.inj (treeCells_m (HB.out.symm.trans hc))).symm))
    clear hb3 hMW hM2 hg2 hs2 hMb hne hokb hg hp hz hR
    go_wp2_with fail
    refine hnote.mono ?_
    rintro e w3 ⟨rfl, h3, ht3, _⟩
    clear hnote
    go_wp2_with fail
    go_ret
    exact ⟨by rw [HE.out]; rfl, by rw [HE.out]; exact HK.out w3 h3 ht3⟩
  · have HE := Aside0.mk (show removeT S a = (S, (readT S a).2) from by unfold removeT; rw [if_neg hz])
    have cz : ((readT S a).2 != 0) = true := by rw [bne_iff_ne]; exact hz
    clear hz
    go_wp2_with fail
    go_ret
    exact ⟨by rw [HE.out]; rfl, by rw [HE.out]; exact TDid.drewN H.out nd⟩
end Go.Proofs.Ytkldaghhfnpcjaa.P
/- A tree that is not there; the one answer that is fixed. -/
namespace Go.Proofs.Ytkldaghhfnpcjaa.P
open Go.RowKit Go.Maps Go.Proofs.YtkldaghhfnpcjaaW.PrintWords Go.Proofs.YtkldaghhfnpcjaaW.PrintLast Go.Proofs.YtkldaghhfnpcjaaW.PrintMore Go.Proofs.Ytkldaghhfnpcjaa.Pl
set_option linter.unusedVariables false
set_option linter.unusedSimpArgs false
deriving instance DecidableEq for TS
theorem read_none (a : ByteArray) (w : World) : Calls Try.prog 22 #[.pointer none, .string a] w fun e w' => e = .returned (.tuple #[.string ⟨#[]⟩, .int .i64 1]) ∧ w' = w := by
  go_enter Try.func22, Try.ntmps22
  go_wp2_with fail
  go_ret2
  exact ⟨rfl, rfl⟩
theorem write_none (a s : ByteArray) (w : World) : Calls Try.prog 13 #[.pointer none, .string a, .string s] w fun e w' => e = .returned (.int .i64 1) ∧ w' = w := by
  go_enter Try.func13, Try.ntmps13
  go_wp2_with fail
  go_ret
  exact ⟨rfl, rfl⟩
theorem remove_none (a : ByteArray) (w : World) : Calls Try.prog 17 #[.pointer none, .string a] w fun e w' => e = .returned (.int .i64 1) ∧ w' = w := by
  go_enter Try.func17, Try.ntmps17
  go_wp2_with fail
  refine (read_none a w).mono ?_
  rintro e w1 ⟨rfl, rfl⟩
  go_wp2_with fail
  go_ret
  exact ⟨rfl, rfl⟩
theorem len_none (w : World) : Calls Try.prog 16 #[.pointer none] w fun e w' => e = .returned (.int .i64 0) ∧ w' = w := by
  go_enter Try.func16, Try.ntmps16
  go_wp2_with fail
  go_ret
  exact ⟨rfl, rfl⟩
theorem mark_none (w : World) : Calls Try.prog 20 #[.pointer none] w fun e w' => e = .returned (.int .i64 0) ∧ w' = w := by
  go_enter Try.func20, Try.ntmps20
  go_wp2_with fail
  go_ret
  exact ⟨rfl, rfl⟩
theorem copy_none (w : World) : Calls Try.prog 19 #[.pointer none] w fun e w' => e = .returned (.pointer none) ∧ w' = w := by
  go_enter Try.func19, Try.ntmps19
  go_wp2_with fail
  go_ret
  exact ⟨rfl, rfl⟩
theorem since_none (n : Int) (w : World) : Calls Try.prog 25 #[.pointer none, .int .i64 n] w fun e w' => e = .returned (.tuple #[.slice none 0 0, .bool false]) ∧ w' = w := by
  go_enter Try.func25, Try.ntmps25
  go_wp2_with fail
  go_ret2
  exact ⟨rfl, rfl⟩
set_option maxRecDepth 100000 in
set_option maxHeartbeats 1000000 in
theorem list_none (a : ByteArray) (w : World) : Calls Try.prog 15 #[.pointer none, .string a] w (Lists w []) := by
  have hsl := fun (W : World) => sort_calls (w := W) (base := w.heap.size) (ok := fun _ => True) (Kd.R_nil Kd.string 9 W w.heap.size (fun _ => True)) (by decide)
  go_enter Try.func15, Try.ntmps15
  go_wp2_with fail
  refine (hsl _).mono ?_
  rintro e w2 ⟨rfl, hR, hg⟩
  rw [show msrt [] = [] by simp [msrt]] at hR
  clear hsl
  go_wp2_with fail
  refine (values_calls _ _ _ _).mono ?_
  rintro e w3 ⟨rfl, rfl⟩
  go_wp2_with fail
  go_ret
  have hB := pw_below_grown (Below.refl w.heap.size w) _ (Nat.le_refl _) hg (fun k hk => by cases hk)
  exact ⟨w2.heap.size, _, rfl, blk_new w2 _, hB.size, Kd.R_nil _ _ _ _ _, hB.alloc hB.size _⟩
theorem listed_none (a : ByteArray) (w : World) : Calls Try.prog 14 #[.pointer none, .string a] w (Listed w []) :=
  listed_calls (by simp) (fun W _ => list_none a W) (.inl rfl)
theorem listed_tree {w : World} {base p : Nat} {ok : Nat → Prop} {S : TS} (h : TMem w base ok p S) (a : ByteArray) : Calls Try.prog 14 #[.pointer (some ⟨p, 0, none⟩), .string a] w (Listed w (listT S a)) :=
  listed_calls (Nat.le_trans (by unfold listT; exact Nat.le_trans (List.length_filter_le _ _) (by simp)) h.good.few) (fun W hW => tlist_calls (h.below hW) a) (.inr ⟨p, rfl⟩)
set_option maxRecDepth 100000 in
set_option maxHeartbeats 2000000 in
theorem works_calls (w : World) : Calls Try.prog 10 #[] w fun e w' => e = .returned (.bool true) ∧ Below w.heap.size w w' := by
  have hnf := fun (W : World) fn first cap => run_eql_func_nil (P := Try.prog) W 35 Try.underlying35 fn first cap
  have hw1 : writeT ⟨[], []⟩ ⟨#[97]⟩ ⟨#[120]⟩ = (⟨[(⟨#[97]⟩, ⟨#[120]⟩)], [⟨#[97]⟩]⟩, 0) := by decide +kernel
  have hr1 : readT ⟨[(⟨#[97]⟩, ⟨#[120]⟩)], [⟨#[97]⟩]⟩ ⟨#[97]⟩ = (⟨#[120]⟩, 0) := by decide +kernel
  go_enter Try.func10, Try.ntmps10
  go_wp2_with fail
  refine (tnew_calls w).mono ?_
  rintro e w1 ⟨rfl, hM, hB⟩
  have hwr := twrite_calls hM ⟨#[97]⟩ ⟨#[120]⟩ (by decide) (by decide)
  rw [hw1] at hwr
  have H1 := Aside0.mk (And.intro hM hB)
  clear hM hB hw1
  go_wp2_with fail
  refine hwr.mono ?_
  rintro e w2 ⟨rfl, ok2, hM2, hk2, hT2, _⟩
  have hB2 := H1.out.2.trans (hT2.below (base := w.heap.size) (fun k hk => (H1.out.1.bound k hk).1) H1.out.2.size)
  have hls := tlist_calls hM2 ⟨#[]⟩
  have H2 := Aside0.mk (And.intro hM2 hB2)
  clear hwr hM2 hk2 hT2 hB2
  go_wp2_with fail
  refine hls.mono ?_
  rintro e w3 ⟨b, v, rfl, _, _, _, hB3⟩
  have hM3 := H2.out.1.below hB3
  have hB3 := H2.out.2.trans (hB3.mono H2.out.2.size)
  have hrd := tread_calls hM3 ⟨#[97]⟩ (by decide)
  rw [hr1] at hrd
  have H3 := Aside0.mk (And.intro hM3 hB3)
  clear hls hM3 hB3 hr1
  go_wp2_with fail
  refine hrd.mono ?_
  rintro e w4 ⟨rfl, hd⟩
  have hB4 := H3.out.2.trans (hd.below.mono H3.out.2.size)
  have hmk := tmark_calls (H3.out.1.below hd.below)
  have H4 := Aside0.mk hB4
  clear hrd hB4 hd
  go_wp2_with fail
  refine hmk.mono ?_
  rintro e w5 ⟨rfl, rfl⟩
  clear hmk
  go_wp2_with fail
  go_ret
  exact ⟨rfl, H4.out⟩
end Go.Proofs.Ytkldaghhfnpcjaa.P
