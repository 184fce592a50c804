/- What a target hangs on by two lists of rules, plainly. -/
import Derived.Test.YtahdgaaedilcmaaPlDeps
namespace Go.Proofs.Ytahdgaaedilcmaa.Pl
open Go.RowKit Go.Proofs.Ytahdgaaedilcmaa.P Go.Proofs.YtahdgaaedilcmaaW.PrintWords Go.Proofs.YtahdgaaedilcmaaW.PrintLast Go.Proofs.YtahdgaaedilcmaaW.PrintMore
set_option linter.unusedVariables false
def selB (a : ByteArray) (r : S32) : Bool := decide ((nm r.f0).2 = 0 ∧ (nm r.f0).1 = a)
def rawD (a : ByteArray) (l : List S32) : List ByteArray := (l.filter (selB a)).flatMap (·.f1)
def good (a : ByteArray) (l : List S32) : Prop := ∀ d ∈ rawD a l, (nm d).2 = 0
def one (x : ByteArray) : ByteArray := (nm x).1
theorem nm_code {x : ByteArray} (h : (nm x).2 ≠ 0) : (nm x).2 = 2 ∨ (nm x).2 = 3 := (nm_size x).2.resolve_left h
theorem dT_good : ∀ (l acc : List ByteArray), (∀ d ∈ l, (nm d).2 = 0) → dT acc l = (acc ++ l.map one, 0)
  | [], acc, _ => by rw [dT_nil]; simp
  | x :: t, acc, h => by
    rw [dT_cons, if_pos (h x List.mem_cons_self), dT_good t _ (fun d hd => h d (List.mem_cons_of_mem _ hd)), List.append_assoc]; rfl
theorem dT_bad : ∀ (l acc : List ByteArray), ¬ (∀ d ∈ l, (nm d).2 = 0) → ∃ e, (e = 2 ∨ e = 3) ∧ dT acc l = ([], e)
  | [], acc, h => absurd (fun d hd => by cases hd) h
  | x :: t, acc, h => by
    rw [dT_cons]
    by_cases hx : (nm x).2 = 0
    · rw [if_pos hx]
      exact dT_bad t _ (fun h2 => h (fun d hd => by
        rcases List.mem_cons.1 hd with rfl | hd
        · exact hx
        · exact h2 d hd))
    · rw [if_neg hx]
      exact ⟨_, nm_code hx, rfl⟩
theorem rawD_cons (a : ByteArray) (r : S32) (l : List S32) : rawD a (r :: l) = if selB a r = true then r.f1 ++ rawD a l else rawD a l := by
  unfold rawD
  rw [List.filter_cons]
  split
  · rw [List.flatMap_cons]
  · rfl
theorem rawD_app (a : ByteArray) (l m : List S32) : rawD a (l ++ m) = rawD a l ++ rawD a m := by
  unfold rawD; rw [List.filter_append, List.flatMap_append]
theorem dG_good (a : ByteArray) : ∀ (l : List S32) (acc : List ByteArray) (there : Bool), good a l →
    dG a acc there l = if (there || l.any (selB a)) = true then (onceGo [] (acc ++ (rawD a l).map one), 0) else ([], 4)
  | [], acc, there, _ => by rw [dG_nil]; simp [rawD]
  | r :: l, acc, there, h => by
    rw [dG_cons]
    have hr := rawD_cons a r l
    unfold good at h
    by_cases hs : (nm r.f0).2 = 0 ∧ (nm r.f0).1 = a
    · have hb : selB a r = true := decide_eq_true hs
      rw [if_pos hb] at hr
      rw [hr] at h
      have h1 := dT_good r.f1 acc (fun d hd => h d (List.mem_append_left _ hd))
      rw [if_pos hs, h1, if_pos rfl, dG_good a l _ true (fun d hd => h d (List.mem_append_right _ hd)), hr, List.any_cons, hb]
      simp
    · have hb : selB a r = false := decide_eq_false hs
      rw [if_neg (by rw [hb]; decide)] at hr
      rw [hr] at h
      rw [if_neg hs, dG_good a l acc there h, hr, List.any_cons, hb, Bool.false_or]
theorem dG_bad (a : ByteArray) : ∀ (l : List S32) (acc : List ByteArray) (there : Bool), ¬ good a l → ∃ e, (e = 2 ∨ e = 3) ∧ dG a acc there l = ([], e)
  | [], acc, there, h => absurd (fun d hd => by simp [rawD] at hd) h
  | r :: l, acc, there, h => by
    rw [dG_cons]
    have hr := rawD_cons a r l
    unfold good at h
    by_cases hs : (nm r.f0).2 = 0 ∧ (nm r.f0).1 = a
    · have hb : selB a r = true := decide_eq_true hs
      rw [if_pos hb] at hr
      rw [hr] at h
      rw [if_pos hs]
      by_cases h1 : ∀ d ∈ r.f1, (nm d).2 = 0
      · rw [dT_good r.f1 acc h1, if_pos rfl]
        exact dG_bad a l _ true (fun h2 => h (fun d hd => (List.mem_append.1 hd).elim (h1 d) (h2 d)))
      · obtain ⟨e, he, hd⟩ := dT_bad r.f1 acc h1
        rw [hd, if_neg (by rcases he with rfl | rfl <;> decide)]
        exact ⟨e, he, rfl⟩
    · have hb : selB a r = false := decide_eq_false hs
      rw [if_neg (by rw [hb]; decide)] at hr
      rw [hr] at h
      rw [if_neg hs]
      exact dG_bad a l acc there h
theorem depsL_good {a : ByteArray} (ha : isL (L a) = true) {l : List S32} (h : good a l) : depsL a l = (onceGo [] ((rawD a l).map one), if l.any (selB a) = true then 0 else 4) := by
  unfold depsL
  rw [if_pos ha, dG_good a l [] false h, Bool.false_or, List.nil_append]
  by_cases hn : l.any (selB a) = true
  · rw [if_pos hn, if_pos hn]
  · rw [if_neg hn, if_neg hn]
    have : rawD a l = [] := by
      unfold rawD
      have : l.filter (selB a) = [] := by
        rw [List.filter_eq_nil_iff]
        intro r hr hs
        exact hn (List.any_eq_true.2 ⟨r, hr, hs⟩)
      rw [this]; rfl
    rw [this]; rfl
theorem depsL_bad {a : ByteArray} (ha : isL (L a) = true) {l : List S32} (h : ¬ good a l) : ∃ e, (e = 2 ∨ e = 3) ∧ depsL a l = ([], e) := by
  unfold depsL
  rw [if_pos ha]
  exact dG_bad a l [] false h
theorem selB_name {a : ByteArray} {r q : S32} (h : r.f0 = q.f0) : selB a r = selB a q := by unfold selB; rw [h]
theorem mem_mergeL {l : List S32} {r : S32} : r ∈ mergeL l ↔ (∃ q ∈ l, q.f0 = r.f0) ∧ r.f1 = onceGo [] (depsOf l r.f0) := by
  unfold mergeL
  rw [List.mem_map]
  constructor
  · rintro ⟨n, hn, rfl⟩
    rcases onceGo_mem _ _ _ hn with h | h
    · cases h
    · obtain ⟨q, hq, rfl⟩ := List.mem_map.1 h
      exact ⟨⟨q, hq, rfl⟩, rfl⟩
  · rintro ⟨⟨q, hq, he⟩, h1⟩
    exact ⟨r.f0, mem_onceGo _ _ _ (he ▸ List.mem_map_of_mem hq), by rw [← h1]⟩
theorem any_merge (a : ByteArray) (l : List S32) : (mergeL l).any (selB a) = l.any (selB a) := by
  rw [Bool.eq_iff_iff, List.any_eq_true, List.any_eq_true]
  constructor
  · rintro ⟨r, hr, hs⟩
    obtain ⟨⟨q, hq, he⟩, _⟩ := mem_mergeL.1 hr
    exact ⟨q, hq, by rw [selB_name he]; exact hs⟩
  · rintro ⟨q, hq, hs⟩
    exact ⟨⟨q.f0, onceGo [] (depsOf l q.f0)⟩, mem_mergeL.2 ⟨⟨q, hq, rfl⟩, rfl⟩, hs⟩
theorem mem_rawD {a d : ByteArray} {l : List S32} : d ∈ rawD a l ↔ ∃ r ∈ l, selB a r = true ∧ d ∈ r.f1 := by
  unfold rawD
  rw [List.mem_flatMap]
  constructor
  · rintro ⟨r, hr, hd⟩
    rw [List.mem_filter] at hr
    exact ⟨r, hr.1, hr.2, hd⟩
  · rintro ⟨r, hr, hs, hd⟩
    exact ⟨r, List.mem_filter.2 ⟨hr, hs⟩, hd⟩
theorem mem_depsOf {d n : ByteArray} {l : List S32} : d ∈ depsOf l n ↔ ∃ r ∈ l, r.f0 = n ∧ d ∈ r.f1 := by
  unfold depsOf
  rw [List.mem_flatMap]
  constructor
  · rintro ⟨r, hr, hd⟩
    split at hd
    · rename_i h; exact ⟨r, hr, h, hd⟩
    · cases hd
  · rintro ⟨r, hr, hs, hd⟩
    exact ⟨r, hr, by rw [if_pos hs]; exact hd⟩
theorem rawD_merge (a : ByteArray) (l : List S32) (d : ByteArray) : d ∈ rawD a (mergeL l) ↔ d ∈ rawD a l := by
  rw [mem_rawD, mem_rawD]
  constructor
  · rintro ⟨r, hr, hs, hd⟩
    obtain ⟨_, h1⟩ := mem_mergeL.1 hr
    rw [h1] at hd
    rcases onceGo_mem _ _ _ hd with h | h
    · cases h
    · obtain ⟨q, hq, he, hdq⟩ := mem_depsOf.1 h
      exact ⟨q, hq, by rw [selB_name he]; exact hs, hdq⟩
  · rintro ⟨q, hq, hs, hd⟩
    exact ⟨⟨q.f0, onceGo [] (depsOf l q.f0)⟩, mem_mergeL.2 ⟨⟨q, hq, rfl⟩, rfl⟩, hs, mem_onceGo _ _ _ (mem_depsOf.2 ⟨q, hq, rfl, hd⟩)⟩
theorem good_merge (a : ByteArray) (l : List S32) : good a (mergeL l) ↔ good a l := ⟨fun h d hd => h d ((rawD_merge a l d).2 hd), fun h d hd => h d ((rawD_merge a l d).1 hd)⟩
theorem once_nodup : ∀ (l acc : List ByteArray), (acc ++ l).Nodup → onceGo acc l = acc ++ l
  | [], acc, _ => by rw [List.append_nil]; rfl
  | x :: l, acc, h => by
    have hx : ¬ inS acc x = true := fun hi => by
      have := List.nodup_append.1 h
      exact this.2.2 x ((inS_iff _ _).1 hi) x List.mem_cons_self rfl
    rw [onceGo, if_neg hx, once_nodup l (acc ++ [x]) (by simpa using h), List.append_assoc]; rfl
theorem once_once (l : List ByteArray) : onceGo [] (onceGo [] l) = onceGo [] l := by
  have := once_nodup (onceGo [] l) [] (by rw [List.nil_append]; exact nodup_onceGo l [] List.nodup_nil)
  rwa [List.nil_append] at this
theorem depsOf_map (F : ByteArray → List ByteArray) : ∀ (ns : List ByteArray), ns.Nodup → ∀ x ∈ ns, depsOf (ns.map fun n => ⟨n, F n⟩) x = F x
  | [], _, x, h => by cases h
  | n :: ns, hnd, x, h => by
    rw [List.nodup_cons] at hnd
    have e : depsOf ((n :: ns).map fun n => (⟨n, F n⟩ : S32)) x = (if n = x then F n else []) ++ depsOf (ns.map fun n => ⟨n, F n⟩) x := rfl
    rw [e]
    rcases List.mem_cons.1 h with rfl | h
    · rw [if_pos rfl]
      have : depsOf (ns.map fun n => (⟨n, F n⟩ : S32)) x = [] := by
        unfold depsOf
        rw [List.flatMap_eq_nil_iff]
        intro q hq
        obtain ⟨m, hm, rfl⟩ := List.mem_map.1 hq
        exact if_neg (fun (e : m = x) => hnd.1 (e ▸ hm))
      rw [this, List.append_nil]
    · rw [if_neg (fun (e : n = x) => hnd.1 (e ▸ h)), List.nil_append, depsOf_map F ns hnd.2 x h]
theorem merge_merge (l : List S32) : mergeL (mergeL l) = mergeL l := by
  have hn : (mergeL l).map (·.f0) = onceGo [] (l.map (·.f0)) := by
    unfold mergeL
    rw [List.map_map]
    exact List.map_id _
  have hnd := nodup_onceGo (l.map (·.f0)) [] List.nodup_nil
  have e : mergeL (mergeL l) = (onceGo [] ((mergeL l).map (·.f0))).map fun n => ⟨n, onceGo [] (depsOf (mergeL l) n)⟩ := rfl
  rw [e, hn, once_once]
  have e2 : mergeL l = (onceGo [] (l.map (·.f0))).map fun n => ⟨n, onceGo [] (depsOf l n)⟩ := rfl
  rw [e2]
  refine List.map_congr_left (fun n hm => ?_)
  rw [depsOf_map (fun n => onceGo [] (depsOf l n)) _ hnd n hm, once_once]
theorem once_split (l : List ByteArray) : ∀ acc : List ByteArray, onceGo acc l = acc ++ (onceGo [] l).filter (fun x => !inS acc x) := by
  have h : ∀ (n : Nat) (l : List ByteArray), l.length = n → ∀ acc : List ByteArray, onceGo acc l = acc ++ (onceGo [] l).filter (fun x => !inS acc x) := by
    intro n
    induction n with
    | zero =>
      intro l hl acc
      rw [List.length_eq_zero_iff.1 hl]
      simp [onceGo]
    | succ n ih =>
      intro l hl acc
      rcases List.eq_nil_or_concat l with rfl | ⟨l', x, rfl⟩
      · cases hl
      have hl' : l'.length = n := by simp at hl; exact hl
      rw [List.concat_eq_append, onceGo_snoc, onceGo_snoc, ih l' hl' acc]
      have key : inS (acc ++ (onceGo [] l').filter (fun x => !inS acc x)) x = (inS acc x || inS (onceGo [] l') x) := by
        rw [Bool.eq_iff_iff, inS_iff, Bool.or_eq_true, inS_iff, inS_iff, List.mem_append, List.mem_filter]
        constructor
        · rintro (h | h)
          · exact .inl h
          · exact .inr h.1
        · rintro (h | h)
          · exact .inl h
          · by_cases hx : x ∈ acc
            · exact .inl hx
            · exact .inr ⟨h, by rw [Bool.not_eq_true', ← Bool.not_eq_true]; exact fun e => hx ((inS_iff _ _).1 e)⟩
      rw [key]
      by_cases h1 : inS acc x = true
      · rw [h1, Bool.true_or, if_pos rfl]
        by_cases h2 : inS (onceGo [] l') x = true
        · rw [if_pos h2]
        · rw [if_neg h2, List.filter_append]
          simp [h1]
      · have h1' : inS acc x = false := by simpa using h1
        rw [h1', Bool.false_or]
        by_cases h2 : inS (onceGo [] l') x = true
        · rw [if_pos h2, if_pos h2]
        · rw [if_neg h2, if_neg h2, List.filter_append]
          simp [h1']
  exact h l.length l rfl
def badE (e : Int) : Prop := e ≠ 0 ∧ e ≠ 4
/-- what the statement asks of both lists -/
theorem union_facts {a : ByteArray} (ha : isL (L a) = true) (l m : List S32) :
    (((depsL a (l ++ m)).2 = 0 ↔ (depsL a (mergeL (l ++ m))).2 = 0) ∧ (depsL a (mergeL (l ++ m))).1.length = (depsL a (l ++ m)).1.length ∧ ∀ s ∈ (depsL a (mergeL (l ++ m))).1, s ∈ (depsL a (l ++ m)).1) ∧
    ((badE (depsL a l).2 ∨ badE (depsL a m).2) → badE (depsL a (l ++ m)).2 ∧ (depsL a (l ++ m)).1 = []) ∧
    (¬ badE (depsL a l).2 → ¬ badE (depsL a m).2 → ((depsL a (l ++ m)).2 = 0 ↔ (depsL a l).2 = 0 ∨ (depsL a m).2 = 0) ∧ (depsL a (l ++ m)).1 = (depsL a l).1 ++ (depsL a m).1.filter (fun x => !inS (depsL a l).1 x)) := by
  have bad_of : ∀ {l : List S32}, ¬ good a l → badE (depsL a l).2 ∧ (depsL a l).1 = [] := fun h => by
    obtain ⟨e, he, hd⟩ := depsL_bad ha h
    rw [hd]
    exact ⟨by rcases he with rfl | rfl <;> exact ⟨by decide, by decide⟩, rfl⟩
  have notbad : ∀ {l : List S32}, good a l → ¬ badE (depsL a l).2 := fun h hb => by
    rw [depsL_good ha h] at hb
    dsimp only at hb
    split at hb
    · exact hb.1 rfl
    · exact hb.2 rfl
  have gapp : good a (l ++ m) ↔ good a l ∧ good a m := by
    unfold good
    rw [rawD_app]
    exact ⟨fun h => ⟨fun d hd => h d (List.mem_append_left _ hd), fun d hd => h d (List.mem_append_right _ hd)⟩, fun h d hd => (List.mem_append.1 hd).elim (h.1 d) (h.2 d)⟩
  refine ⟨?_, ?_, ?_⟩
  · by_cases hg : good a (l ++ m)
    · have hg2 := (good_merge a (l ++ m)).2 hg
      rw [depsL_good ha hg, depsL_good ha hg2, any_merge]
      have hmem : ∀ x, x ∈ onceGo [] ((rawD a (mergeL (l ++ m))).map one) ↔ x ∈ onceGo [] ((rawD a (l ++ m)).map one) := by
        have h1 : ∀ (y : List ByteArray) (x : ByteArray), x ∈ onceGo [] y ↔ x ∈ y := fun y x => ⟨fun h => (onceGo_mem _ _ _ h).elim (fun h => by cases h) id, mem_onceGo _ _ _⟩
        intro x
        rw [h1, h1, List.mem_map, List.mem_map]
        exact ⟨fun ⟨d, hd, e⟩ => ⟨d, (rawD_merge _ _ _).1 hd, e⟩, fun ⟨d, hd, e⟩ => ⟨d, (rawD_merge _ _ _).2 hd, e⟩⟩
      refine ⟨Iff.rfl, ?_, fun s hs => (hmem s).1 hs⟩
      exact ((List.perm_ext_iff_of_nodup (nodup_onceGo _ [] List.nodup_nil) (nodup_onceGo _ [] List.nodup_nil)).2 hmem).length_eq
    · have hg2 : ¬ good a (mergeL (l ++ m)) := fun h => hg ((good_merge a (l ++ m)).1 h)
      have h1 := bad_of hg
      have h2 := bad_of hg2
      refine ⟨⟨fun h => absurd h h1.1.1, fun h => absurd h h2.1.1⟩, by rw [h1.2, h2.2], fun s hs => by rw [h2.2] at hs; cases hs⟩
  · rintro (hb | hb)
    · exact bad_of (fun h => notbad (gapp.1 h).1 hb)
    · exact bad_of (fun h => notbad (gapp.1 h).2 hb)
  · intro h1 h2
    have g1 : good a l := Classical.byContradiction (fun h => h1 (bad_of h).1)
    have g2 : good a m := Classical.byContradiction (fun h => h2 (bad_of h).1)
    rw [depsL_good ha (gapp.2 ⟨g1, g2⟩), depsL_good ha g1, depsL_good ha g2, rawD_app, List.map_append, onceGo_app, List.any_append]
    refine ⟨?_, once_split _ _⟩
    cases l.any (selB a) <;> cases m.any (selB a) <;> simp
end Go.Proofs.Ytahdgaaedilcmaa.Pl
