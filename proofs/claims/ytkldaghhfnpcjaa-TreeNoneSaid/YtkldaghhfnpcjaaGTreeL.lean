/- The source tree: List. -/
import Derived.Test.YtkldaghhfnpcjaaGTreeS
import Derived.Laws.IdiomRangeMap
namespace Go.Proofs.Ytkldaghhfnpcjaa.P
open Go.RowKit Go.Maps Go.Proofs.YtkldaghhfnpcjaaW.PrintWords Go.Proofs.YtkldaghhfnpcjaaW.PrintLast Go.Proofs.YtkldaghhfnpcjaaW.PrintMore Go.Proofs.Ytkldaghhfnpcjaa.Pl
set_option linter.unusedVariables false
set_option linter.unusedSimpArgs false
theorem ss_list (S : TS) (h : FS S.fs) (pre : ByteArray) : SS (listT S pre) := (List.pairwise_map.2 h).sublist (List.filter_sublist)
theorem mem_list (S : TS) (pre s : ByteArray) : s ∈ listT S pre ↔ (fget S.fs s).isSome = true ∧ startsB s pre = true := by
  unfold listT
  rw [List.mem_filter, fget_some_iff]
theorem prefix_starts (s pre : ByteArray) : (Lib.hasPrefix s.data.toList pre.data.toList) = startsB s pre := by
  unfold startsB
  unfold Lib.hasPrefix L
  rw [Bool.eq_iff_iff, beq_iff_eq, List.isPrefixOf_iff_prefix, List.prefix_iff_eq_take]
  exact eq_comm
theorem sorted_list {S : TS} (h : FS S.fs) {xs : List ByteArray} {pre : ByteArray} (hn : xs.Nodup) (hm : ∀ s, s ∈ xs ↔ s ∈ listT S pre) : msrt xs = listT S pre := by
  rw [msrt_srt hn]
  exact ss_uniq _ _ (ss_srt xs) (ss_list S h pre) (fun z => by rw [mem_srt, hm])
/-- an iterator over paths: a function over one box that holds a row -/
def Lists (w : World) (l : List ByteArray) (e : Ending) (w' : World) : Prop :=
  ∃ (b : Nat) (v : Value), e = .returned (.func (.func 44) #[] #[.pointer (some ⟨b, 0, none⟩)]) ∧ w'.heap[b]? = some (.cells #[v] 31 (0, 0)) ∧ w.heap.size ≤ b ∧ Kd.R Kd.string 9 w' w.heap.size (fun _ => True) v l ∧ Below w.heap.size w w'
theorem values_calls (A : Option Addr) (n c : Nat) (w : World) : Calls Try.prog 30 #[.slice A n c] w fun e w' => e = .returned (.func (.func 44) #[] #[.pointer (some ⟨w.heap.size, 0, none⟩)]) ∧ w' = w.alloc (.cells #[.slice A n c] 31) := by
  go_enter Try.func30, Try.ntmps30
  go_wp2
  go_ret
  exact ⟨rfl, rfl⟩
theorem list_end {w wr : World} {S : TS} {xs : List ByteArray} {pre : ByteArray} {v : Value} (hB : Below w.heap.size w wr) (hf : FS S.fs) (hR : Kd.R Kd.string 9 wr w.heap.size (fun _ => True) v xs) (hn : xs.Nodup) (hm : ∀ s, s ∈ xs ↔ s ∈ listT S pre) {w2 : World}
    (h : Sorted wr w.heap.size (fun _ => True) v (msrt xs) w2) : Lists w (listT S pre) (.returned (.func (.func 44) #[] #[.pointer (some ⟨w2.heap.size, 0, none⟩)])) (w2.alloc (.cells #[v] 31)) := by
  obtain ⟨hR2, hg2⟩ := h
  have hB2 := below_sorted hB hR hg2
  rw [sorted_list hf hn hm] at hR2
  exact ⟨w2.heap.size, v, rfl, blk_new w2 _, hB2.size, Kd.R_alloc hR2 _, hB2.alloc hB2.size _⟩
set_option maxRecDepth 100000 in
set_option maxHeartbeats 2000000 in
theorem tlist_calls {w : World} {base p : Nat} {ok : Nat → Prop} {S : TS} (h : TMem w base ok p S) (pre : ByteArray) :
    Calls Try.prog 15 #[.pointer (some ⟨p, 0, none⟩), .string pre] w (Lists w (listT S pre)) := by
  obtain ⟨m, hb, hm⟩ := h.blk
  have c33 := (tree_cells hb).2.1
  have HG := Aside0.mk h.good
  have hbn : ∀ k, ok k → k < w.heap.size := fun k hk => (h.bound k hk).2
  rcases hm with ⟨rfl, hf⟩ | ⟨b, rfl, hne, hokb, hM⟩
  · have hnl : listT S pre = [] := by unfold listT; rw [hf]; rfl
    have hsl := fun (W : World) => sort_calls (w := W) (base := w.heap.size) (ok := fun _ => True) (Kd.R_nil Kd.string 9 W w.heap.size (fun _ => True)) (by decide)
    have hrn := fun (W : World) => run_range_nilMap (P := Try.prog) W 48 9 9 Try.underlying48
    have hrx := fun (W : World) ty => run_next_nilMap (P := Try.prog) W ty 0 0 #[]
    have HNL := Aside0.mk hnl
    clear hb h hf hnl
    go_enter Try.func15, Try.ntmps15
    go_wp2_with fail
    refine wp_loop_rounds 1 ?_
    rw [rounds_succ]
    go_wp2_with fail
    refine (hsl _).mono ?_
    rintro e w2 ⟨rfl, hS⟩
    clear hsl
    go_wp2_with fail
    refine (values_calls _ _ _ _).mono ?_
    rintro e w3 ⟨rfl, rfl⟩
    go_wp2_with fail
    go_ret
    exact list_end (xs := []) ((Below.refl _ w).alloc (Nat.le_refl _) _) HG.out.rise (Kd.R_nil _ _ _ _ _) List.nodup_nil (fun s => by rw [HNL.out]) hS
  · have HM := Aside0.mk hM
    have HO := Aside0.mk (hbn b hokb)
    clear hb h hM hokb hbn
    go_enter Try.func15, Try.ntmps15
    go_wp2_with (first | (at_range; refine range_event rfl rfl Try.underlying48 rfl HM.out ?_; intro w0 cnt hr0 hg0 hs0 hc0))
    go_frame
    have hM0 : Aside0 ((Below w.heap.size w w0) ∧ ([] : List ByteArray).Nodup ∧ (∀ s, s ∈ ([] : List ByteArray) ↔ ((fget S.fs s).isSome = true ∧ (fV S.fs s).isSome = false ∧ startsB s pre = true)) ∧ ([] : List ByteArray).length + cnt ≤ 256) := by
      refine ⟨pw_below_grown (Below.refl _ w) _ (Nat.le_refl _) hg0 (fun k hk => by cases hk), List.nodup_nil, fun s => ⟨(fun h => by cases h), fun h => ?_⟩, by have := HG.out.few; simp; omega⟩
      have h1 := h.1
      have h2 := h.2.1
      unfold fV at h2
      cases hg : fget S.fs s with
      | none => rw [hg] at h1; cases h1
      | some u => rw [hg] at h2; cases h2
    have HS0 := Aside0.mk hs0
    clear hg0 hs0 hc0
    go_loopg [5] (cnt + 1) (fun n v5 wr => ∃ (xs : List ByteArray) (lf : ByteArray → Bool) (c : Nat), Aside0 (n = c + 1) ∧ Aside0 (RangeV wr b w.heap.size S.fs.length (fV S.fs) lf c) ∧ Aside0 (Kd.R Kd.string 9 wr (w.heap.size + 1) (fun _ => True) v5 xs) ∧
      Aside0 ((Below w.heap.size w wr) ∧ xs.Nodup ∧ (∀ s, s ∈ xs ↔ ((fget S.fs s).isSome = true ∧ lf s = false ∧ startsB s pre = true)) ∧ xs.length + c ≤ 256))
    case atStart => exact ⟨[], _, cnt, ⟨rfl⟩, ⟨hr0⟩, ⟨Kd.R_nil _ _ _ _ _⟩, hM0⟩
    case round =>
      obtain ⟨xs, lf, c, hn, HR, HX, HI⟩ := hrel
      clear hr0 hM0
      obtain ⟨A5, c5, rfl⟩ := Kd.R_slice HX.out
      go_wp2_with (first | (at_next; refine next_event rfl rfl rfl HR.out ?_ ?_))
      · intro hd
        have hxl := HI.out.2.2.2
        have HE := Aside0.mk (show ∀ s, s ∈ xs ↔ s ∈ listT S pre from fun s => by
          rw [HI.out.2.2.1 s, mem_list]
          refine ⟨fun h => ⟨h.1, h.2.2⟩, fun h => ⟨h.1, hd s ?_, h.2⟩⟩
          obtain ⟨y, hy, e⟩ := List.mem_map.1 (fget_some_iff.1 h.1)
          have := isP_size (HG.out.short y hy).1
          rw [e] at this
          unfold maxLen
          omega)
        have HX2 := Aside0.mk (Kd.R_lower (base' := w.heap.size) HX.out (Nat.le_succ _))
        have hsl := sort_calls HX2.out (by omega)
        clear hd hxl
        go_wp2_with fail
        refine hsl.mono ?_
        rintro e w2 ⟨rfl, hS⟩
        clear hsl
        go_wp2_with fail
        refine (values_calls _ _ _ _).mono ?_
        rintro e w3 ⟨rfl, rfl⟩
        go_wp2_with fail
        go_ret
        exact list_end HI.out.1 HG.out.rise HX2.out HI.out.2.1 HE.out hS
      · intro s v w1 c' hs hlf hfs hr1 hlt hg1 hsz hen
        obtain ⟨u, hu, rfl⟩ : ∃ u, fget S.fs s = some u ∧ v = .string u := by
          unfold fV at hfs
          cases hg : fget S.fs s with
          | none => rw [hg] at hfs; cases hfs
          | some u => rw [hg] at hfs; exact ⟨u, rfl, (Option.some.inj hfs).symm⟩
        have hB1 := HI.out.1
        have hrl := HR.out.lt
        have hBw1 : Below w.heap.size w w1 := pw_below_grown hB1 _ hB1.size hg1 (fun k hk => by injection hk with hk; omega)
        have hX1 : Kd.R Kd.string 9 w1 (w.heap.size + 1) (fun _ => True) (.slice A5 xs.length c5) xs := by
          exact Kd.R_mono (Kd.R_grown (Kd.R_bound HX.out) hg1 (fun k hk e => by have := hk.2.1; injection e with e; omega)) (fun _ _ => trivial)
        have hpx := Try.strings_HasPrefix s pre w1
        rw [prefix_starts] at hpx
        have hlen := HI.out.2.2.2
        have hlf1 : ∀ t, ((lf t && !decide (t = s)) = false) ↔ (lf t = false ∨ t = s) := fun t => by cases lf t <;> simp
        cases hsb : startsB s pre with
        | false =>
          rw [hsb] at hpx
          have HF := Aside0.mk (show (xs.Nodup ∧ (∀ t, t ∈ xs ↔ ((fget S.fs t).isSome = true ∧ (lf t && !decide (t = s)) = false ∧ startsB t pre = true)) ∧ xs.length + c' ≤ 256) from by
            refine ⟨HI.out.2.1, fun t => ?_, by omega⟩
            rw [HI.out.2.2.1 t, hlf1 t]
            constructor
            · exact fun h => ⟨h.1, .inl h.2.1, h.2.2⟩
            · rintro ⟨h1, h2 | h2, h3⟩
              · exact ⟨h1, h2, h3⟩
              · rw [h2, hsb] at h3; cases h3)
          have HR1 := Aside0.mk hr1
          have HX1 := Aside0.mk hX1
          have HN := Aside0.mk (And.intro hn.out hlt)
          clear hs hlf hr1 hlt hg1 hsz hu hrl hX1 hlen hlf1 hsb
          go_wp2_with fail
          refine hpx.mono ?_
          rintro e w2 ⟨rfl, rfl⟩
          clear hpx
          go_wp2_with fail
          go_roundg (c' + 1)
          case measure => have := HN.out; omega
          case rel => exact ⟨xs, _, c', ⟨rfl⟩, HR1, HX1, ⟨hBw1, HF.out⟩⟩
        | true =>
          rw [hsb] at hpx
          have HF := Aside0.mk (show ((xs ++ [s]).Nodup ∧ (∀ t, t ∈ xs ++ [s] ↔ ((fget S.fs t).isSome = true ∧ (lf t && !decide (t = s)) = false ∧ startsB t pre = true)) ∧ (xs ++ [s]).length + c' ≤ 256) from by
            have hsx : s ∉ xs := fun h => by rw [(HI.out.2.2.1 s).1 h |>.2.1] at hlf; cases hlf
            refine ⟨?_, fun t => ?_, by simp; omega⟩
            · rw [List.nodup_append]
              exact ⟨HI.out.2.1, by simp, fun a ha b hb e => by rw [List.mem_singleton.1 hb] at e; exact hsx (e ▸ ha)⟩
            · rw [List.mem_append, HI.out.2.2.1 t, hlf1 t, List.mem_singleton]
              constructor
              · rintro (h | h)
                · exact ⟨h.1, .inl h.2.1, h.2.2⟩
                · subst h; exact ⟨by rw [hu]; rfl, .inr rfl, hsb⟩
              · rintro ⟨h1, h2 | h2, h3⟩
                · exact .inl ⟨h1, h2, h3⟩
                · exact .inr h2)
          have hbase : w.heap.size + 1 ≤ w1.heap.size := by omega
          have HR1 := Aside0.mk hr1
          have HN := Aside0.mk (And.intro hn.out hlt)
          have HB1 := Aside0.mk hBw1
          clear hs hlf hr1 hlt hg1 hu hlf1 hsb hB1 hBw1 hsz
          go_wp2_with fail
          refine hpx.mono ?_
          rintro e w2 ⟨rfl, rfl⟩
          clear hpx
          go_wp2_with (first | (at_builtin; refine txt_push (base := w.heap.size + 1) rfl rfl rfl rfl rfl hX1 hbase (by omega) ?_; intro v2 w3 hR2 hg2))
          have hown := fun k hk => ((Kd.R_bound hX1).1 k hk).2.1
          have hB3 := pw_below_grown HB1.out _ (by omega) hg2 (fun k hk => by have := hown k hk; omega)
          have hr3 := HR1.out.kept hg2 (fun e => by have h1 := hown b e.symm; have h2 := HO.out; omega) (fun e => by have := hown _ e.symm; omega)
          have hR3 := Kd.R_mono hR2 (fun _ _ => (trivial : True))
          clear hR2 hg2 hX1 hown
          go_wp2_with fail
          go_roundg (c' + 1)
          case measure => have := HN.out; omega
          case rel => exact ⟨xs ++ [s], _, c', ⟨rfl⟩, ⟨hr3⟩, ⟨hR3⟩, ⟨hB3, HF.out⟩⟩
end Go.Proofs.Ytkldaghhfnpcjaa.P
