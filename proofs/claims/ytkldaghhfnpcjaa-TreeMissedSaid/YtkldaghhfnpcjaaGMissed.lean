/- A tree, and a map beside it that keeps files. -/
import Derived.Test.YtkldaghhfnpcjaaGTwin
namespace Go.Proofs.Ytkldaghhfnpcjaa.P
open Go.RowKit Go.Maps Go.Proofs.YtkldaghhfnpcjaaW.PrintWords Go.Proofs.YtkldaghhfnpcjaaW.PrintLast Go.Proofs.YtkldaghhfnpcjaaW.PrintMore Go.Proofs.Ytkldaghhfnpcjaa.Pl
set_option linter.unusedVariables false
set_option linter.unusedSimpArgs false
structure MOne (w : World) (K n : Nat) (f : ByteArray → Option Value) (b0 p : Nat) (S : TS) : Prop where
  t : TOne (· = K) w w b0 p S
  m : MapV w K n f
  ge : b0 ≤ K
section
variable {w w' : World} {K n b0 p : Nat} {f : ByteArray → Option Value} {S : TS}
theorem TOne.reset {fr : Nat → Prop} {w0 : World} (h : TOne fr w0 w b0 p S) : TOne fr w w b0 p S := by
  obtain ⟨ok, h1, h2⟩ := h.t
  exact ⟨ok, h1, fun k hk => ⟨(h2 k hk).1, (h2 k hk).2.1, rfl⟩⟩
theorem MOne.below (h : MOne w K n f b0 p S) (hb : Below w.heap.size w w') : MOne w' K n f b0 p S :=
  ⟨(h.t.below hb).reset, h.m.below hb h.m.lt, h.ge⟩
theorem MOne.of (h : MOne w K n f b0 p S) {S' : TS} (ht : TOne (· = K) w w' b0 p S') : MOne w' K n f b0 p S' := ⟨ht.reset, h.m.step (ht.kept K rfl), h.ge⟩
theorem MOne.write (h : MOne w K n f b0 p S) (a s : ByteArray) (ha : a.size ≤ maxLen) (hc : S.cs.length < 1000000) :
    Calls Try.prog 13 #[.pointer (some ⟨p, 0, none⟩), .string a, .string s] w fun e w' => e = .returned (.int .i64 (writeT S a s).2) ∧ MOne w' K n f b0 p (writeT S a s).1 ∧ Below b0 w w' :=
  (h.t.write a s ha hc).mono fun e w' ⟨he, ht, hb⟩ => ⟨he, h.of ht, hb⟩
theorem MOne.remove (h : MOne w K n f b0 p S) (a : ByteArray) (ha : a.size ≤ maxLen) (hc : S.cs.length < 1000000) :
    Calls Try.prog 17 #[.pointer (some ⟨p, 0, none⟩), .string a] w fun e w' => e = .returned (.int .i64 (removeT S a).2) ∧ MOne w' K n f b0 p (removeT S a).1 ∧ Below b0 w w' :=
  (h.t.remove a ha hc).mono fun e w' ⟨he, ht, hb⟩ => ⟨he, h.of ht, hb⟩
theorem MOne.grown (h : MOne w K n f b0 p S) {n' : Nat} {f' : ByteArray → Option Value} (hg : w.grownBy w' (some K)) (hm : MapV w' K n' f') : MOne w' K n' f' b0 p S ∧ Below b0 w w' := by
  obtain ⟨ok, h1, h2⟩ := h.t.t
  have ht : Turn (· = K) w w' := Turn.grown hg (fun k e => by injection e with e; exact e.symm)
  refine ⟨⟨⟨ok, h1.keep ht (fun k hk e => (h2 K rfl).1 (e ▸ hk)), fun k hk => ⟨(h2 k hk).1, Nat.lt_of_lt_of_le (h2 k hk).2.1 ht.size, rfl⟩⟩, hm, h.ge⟩, ht.below (fun k hk => by rw [hk]; exact h.ge) ?_⟩
  have := h1.bound p h1.own
  omega
theorem MOne.put (h : MOne w K n f b0 p S) (hn : n < 100000000) (a : ByteArray) (ha : a.size ≤ maxLen) (v : Value) :
    ∃ w', (Instr.mapUpdate 48 (.map (some K)) (.string a) v).run Try.prog w = .ok () w' ∧ MOne w' K (n + 1) (upd f a (some v)) b0 p S ∧ Below b0 w w' ∧ w.grownBy w' (some K) := by
  obtain ⟨w', hr, hm, hg, _⟩ := h.m.put Try.underlying48 (by unfold maxLen; omega) ha v
  exact ⟨w', hr, (h.grown hg hm).1, (h.grown hg hm).2, hg⟩
theorem MOne.del (h : MOne w K n f b0 p S) (a : ByteArray) (ha : a.size ≤ maxLen) (ty : TypeId) :
    ∃ w', (Builtin.delete_ #[48, 9] ty #[.map (some K), .string a]).run Try.prog w = .ok (.tuple #[]) w' ∧ MOne w' K n (upd f a none) b0 p S ∧ Below b0 w w' ∧ w.grownBy w' (some K) := by
  obtain ⟨w', hr, hm, hg, _⟩ := h.m.del Try.underlying48 ha ty
  exact ⟨w', hr, (h.grown hg hm).1, (h.grown hg hm).2, hg⟩
theorem row_grown {base : Nat} {v : Value} {l : List ByteArray} (hR : Kd.R Kd.string 9 w base (fun _ => True) v l) (hg : w.grownBy w' (some K)) (hb : K < base) : Kd.R Kd.string 9 w' base (fun _ => True) v l :=
  row_kept hR fun k hk => hg.block k ((Kd.R_bound hR).1 k hk).2.2.1 (fun e => by injection e with e; have := ((Kd.R_bound hR).1 k hk).2.1; omega)
theorem fV_snoc {l : Fs} {q u : ByteArray} (h : ∀ x ∈ l, x.1 ≠ q) : fV (l ++ [(q, u)]) = upd (fV l) q (some (.string u)) := by
  funext r
  unfold fV upd
  induction l with
  | nil =>
    show ((if q = r then some u else none).map Value.string) = if r = q then _ else (none : Option ByteArray).map Value.string
    by_cases e : q = r
    · rw [if_pos e, if_pos e.symm]; rfl
    · rw [if_neg e, if_neg (fun e' => e e'.symm)]
  | cons x t ih =>
    have ih := ih (fun y hy => h y (List.mem_cons_of_mem _ hy))
    show ((if x.1 = r then some x.2 else fget (t ++ [(q, u)]) r).map Value.string) = if r = q then _ else ((if x.1 = r then some x.2 else fget t r).map Value.string)
    by_cases e : x.1 = r
    · rw [if_pos e, if_pos e, if_neg (fun e' => h x List.mem_cons_self (by rw [e, e']))]
    · rw [if_neg e, if_neg e]; exact ih
/-- what is kept since a mark -/
def Kept (S : TS) (m : Nat) (f : ByteArray → Option Value) : Prop :=
  ∃ (F : Fs) (C D : List ByteArray), S.cs = C ++ D ∧ m = C.length ∧ f = fV F ∧ ∀ p, p ∉ D → fget S.fs p = fget F p
theorem Kept.now (S : TS) : Kept S S.cs.length (fV S.fs) := ⟨S.fs, S.cs, [], by simp, rfl, rfl, fun _ _ => rfl⟩
theorem Kept.write {m : Nat} (h : Kept S m f) (hS : TOk S) (a s : ByteArray) : Kept (writeT S a s).1 m f := by
  obtain ⟨F, C, D, h1, h2, h3, h4⟩ := h
  unfold writeT
  repeat' split
  all_goals first
    | exact ⟨F, C, D, h1, h2, h3, h4⟩
    | refine ⟨F, C, D ++ [a], by simp [h1], h2, h3, fun p hp => ?_⟩
      simp only [List.mem_append, List.mem_singleton, not_or] at hp
      show fget (fput S.fs a s) p = _
      rw [fget_put hS.rise, if_neg hp.2, h4 p hp.1]
theorem Kept.remove {m : Nat} (h : Kept S m f) (hS : TOk S) (a : ByteArray) : Kept (removeT S a).1 m f := by
  obtain ⟨F, C, D, h1, h2, h3, h4⟩ := h
  unfold removeT
  split
  · refine ⟨F, C, D ++ [a], by simp [h1], h2, h3, fun p hp => ?_⟩
    simp only [List.mem_append, List.mem_singleton, not_or] at hp
    show fget (fdel S.fs a) p = _
    rw [fget_del hS.rise, if_neg hp.2, h4 p hp.1]
  · exact ⟨F, C, D, h1, h2, h3, h4⟩
/-- ahead of the cut nothing is kept; behind it what was there then -/
def AtCut (k i m q : Nat) (f : ByteArray → Option Value) (S : TS) : Prop := (i ≤ k ∧ m = 0 ∧ q = 0 ∧ f = fun _ => none) ∨ (k < i ∧ Kept S m f)
theorem AtCut.next {k i m q : Nat} {S' : TS} (h : AtCut k i m q f S) (hne : i ≠ k) (hk : ∀ m f, Kept S m f → Kept S' m f) : AtCut k (i + 1) m q f S' := by
  rcases h with ⟨h1, h2⟩ | ⟨h1, h2⟩
  · exact .inl ⟨by omega, h2⟩
  · exact .inr ⟨by omega, hk _ _ h2⟩
open Classical in
/-- what is told of what is kept: behind j of the paths told -/
noncomputable def Seen (S : TS) (f : ByteArray → Option Value) (l : List ByteArray) : ByteArray → Option Value := fun q => if q ∈ l then fV S.fs q else f q
open Classical in
theorem seen_snoc (S : TS) (f : ByteArray → Option Value) (l : List ByteArray) (a : ByteArray) : Seen S f (l ++ [a]) = upd (Seen S f l) a (fV S.fs a) := by
  funext q
  unfold Seen upd
  show (if q ∈ l ++ [a] then fV S.fs q else f q) = if q = a then fV S.fs a else (if q ∈ l then fV S.fs q else f q)
  by_cases e : q = a
  · rw [if_pos e, if_pos (by simp [e]), e]
  · rw [if_neg e]
    by_cases hq : q ∈ l
    · rw [if_pos hq, if_pos (List.mem_append_left _ hq)]
    · rw [if_neg hq, if_neg (by simp [hq, e])]
theorem seen_all {m : Nat} (h : Kept S m f) : Seen S f (srt (S.cs.drop m)) = fV S.fs := by
  obtain ⟨F, C, D, h1, h2, h3, h4⟩ := h
  have hd : S.cs.drop m = D := by rw [h1, h2, List.drop_left]
  funext q
  unfold Seen
  rw [hd]
  by_cases hq : q ∈ srt D
  · rw [if_pos hq]
  · rw [if_neg hq, h3]
    unfold fV
    rw [h4 q (fun hq' => hq ((mem_srt _ _).2 hq'))]
theorem Kept.le {m : Nat} (h : Kept S m f) : m ≤ S.cs.length := by
  obtain ⟨F, C, D, h1, h2, h3, h4⟩ := h
  rw [h1, h2]; simp
end
end Go.Proofs.Ytkldaghhfnpcjaa.P
