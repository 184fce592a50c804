/- A map of slices of texts: one row of texts for each name, no two in one row. -/
import Derived.Test.YtahdgaaedilcmaaGOnce
import Derived.Maps.GroupsBeside
import Derived.Deep.AppendLies
namespace Go.Proofs.Ytahdgaaedilcmaa.P
open Go.RowKit Go.Maps Go.WideElems Go.MapKept Go.Proofs.YtahdgaaedilcmaaW.PrintWords Go.Proofs.YtahdgaaedilcmaaW.PrintLast Go.Proofs.YtahdgaaedilcmaaW.PrintMore
open Go.ChangeMaps
set_option linter.unusedVariables false
set_option linter.unusedSimpArgs false
def RN : Value → Option (DataW Unit × List MemPlace) := fun _ => some (.nil, [])
def Grp (w : World) (b base : Nat) (ok : ByteArray → Nat → Prop) (g : ByteArray → List ByteArray) (n : Nat) : Prop :=
  ∃ es clock, w.heap[b]? = some (.map es clock) ∧ Fit Try.prog 9 RN es clock ∧ es.size ≤ n ∧
    (∀ x ∈ es.toList, ∃ s, x.key = .string s ∧ Kd.R Kd.string 9 w base (ok s) x.val (g s)) ∧ ∀ s, (∀ x ∈ es.toList, x.key ≠ .string s) → g s = []
theorem Grp.made (w : World) (base : Nat) (ok : ByteArray → Nat → Prop) : Grp (w.alloc (.map #[] 0)) w.heap.size base ok (fun _ => []) 0 :=
  ⟨#[], 0, (MapKept.heap_alloc w _).1, ⟨by simp, stamped_empty 0, by simp⟩, Nat.le_refl _, fun x hx => by simp at hx, fun _ _ => rfl⟩
/-- is there an entry of this key? -/
theorem fit_has {w : World} {b : Nat} {es : Array MapEntry} {clock : Nat} (hb : w.heap[b]? = some (.map es clock)) (F : Fit Try.prog 9 RN es clock) {key : Value} {kl : Lit} (hkey : keyOf Try.prog 9 key = some kl) :
    ((∀ x ∈ es.toList, x.key ≠ key) ∧ (DataW.map ((es.toList.map (rg Try.prog 9 RN)).foldr DataW.insert [])).atKey kl (.lit (.bool true)) = .lit (.bool true)) ∨
    ∃ e0, e0 ∈ es.toList ∧ e0.key = key ∧ (DataW.map ((es.toList.map (rg Try.prog 9 RN)).foldr DataW.insert [])).atKey kl (.lit (.bool true)) = .nil := by
  rcases Maps.fit_look false (string_keyed Try.underlying9) Try.underlying64 (z := .slice none 0 0) (w := w) (by first | exact Try.zeroValue30 _ | rfl) hb F hkey with ⟨_, hno, hat⟩ | ⟨e0, y, hm, hk, _, hy, hat, _⟩
  · exact .inl ⟨hno, hat _⟩
  · refine .inr ⟨e0, hm, hk, ?_⟩
    rw [hat]
    have := Option.some.inj hy
    rw [← this]
section
variable {w w1 : World} {b base n : Nat} {ok : ByteArray → Nat → Prop} {g : ByteArray → List ByteArray}
theorem Grp.step (h : Grp w b base ok g n) (hb : w1.heap[b]? = w.heap[b]?) (hm : ∀ s k, ok s k → k < w.heap.size → w1.heap[k]? = w.heap[k]?) : Grp w1 b base ok g n := by
  obtain ⟨es, clock, h1, F, h2, h3, h4⟩ := h
  exact ⟨es, clock, hb.trans h1, F, h2, fun x hx => by
    obtain ⟨s, e, hr⟩ := h3 x hx
    exact ⟨s, e, Kd.R_step hr (hm s)⟩, h4⟩
theorem Grp.lt (h : Grp w b base ok g n) : b < w.heap.size := by
  obtain ⟨es, clock, h1, _⟩ := h
  exact (Array.getElem?_eq_some_iff.1 h1).1
theorem Grp.below (h : Grp w b base ok g n) (hb : Below w.heap.size w w1) : Grp w1 b base ok g n := h.step (hb.block b h.lt) (fun _ k _ hk => hb.block k hk)
theorem Grp.kept {row : Option Nat} (h : Grp w b base ok g n) (hg : w.grownBy w1 row) (hb : some b ≠ row) (hk : ∀ s k, ok s k → some k ≠ row) : Grp w1 b base ok g n :=
  h.step (hg.block b h.lt hb) (fun s k h1 h2 => hg.block k h2 (hk s k h1))
theorem Grp.more (h : Grp w b base ok g n) {m : Nat} (hm : n ≤ m) : Grp w b base ok g m := by
  obtain ⟨es, clock, h1, F, h2, h3⟩ := h
  exact ⟨es, clock, h1, F, Nat.le_trans h2 hm, h3⟩
/-- m[s] -/
theorem Grp.look (h : Grp w b base ok g n) (s : ByteArray) (hs : s.size ≤ maxLen) : ∃ v, (Instr.lookup 64 (.map (some b)) (.string s) false).run Try.prog w = .ok v w ∧ Kd.R Kd.string 9 w base (ok s) v (g s) := by
  obtain ⟨es, clock, h1, F, h2, h3, h4⟩ := h
  rcases Maps.fit_look false (string_keyed Try.underlying9) Try.underlying64 (z := .slice none 0 0) (w := w) (by first | exact Try.zeroValue30 _ | rfl) h1 F (WideMaps.keyOf_string_mk Try.underlying9 hs) with ⟨hrun, hno, _⟩ | ⟨e0, y, hm, hk, hrun, _⟩
  · exact ⟨_, hrun, by rw [h4 s hno]; exact Kd.R_nil _ _ _ _ _⟩
  · obtain ⟨t, e, hr⟩ := h3 e0 hm
    rw [hk] at e
    injection e with e
    subst e
    exact ⟨_, hrun, hr⟩
/-- m[s] = v, the other rows being what they were -/
theorem Grp.put (h : Grp w b base ok g n) {s : ByteArray} {v : Value} {oks : Nat → Prop} {gs : List ByteArray} (hs : s.size ≤ maxLen) (hn : n < maxLen) (hbb : b < base) (hb : w1.heap[b]? = w.heap[b]?)
    (hm : ∀ t, t ≠ s → ∀ k, ok t k → k < w.heap.size → w1.heap[k]? = w.heap[k]?) (hv : Kd.R Kd.string 9 w1 base oks v gs) :
    ∃ w2, (Instr.mapUpdate 64 (.map (some b)) (.string s) v).run Try.prog w1 = .ok () w2 ∧ Grp w2 b base (fun t k => if t = s then oks k else ok t k) (fun t => if t = s then gs else g t) (n + 1) ∧ w1.grownBy w2 (some b) := by
  obtain ⟨es, clock, h1, F, h2, h3, h4⟩ := h
  have hb1 := hb.trans h1
  have hkey := WideMaps.keyOf_string_mk Try.underlying9 hs
  obtain ⟨es', clock', hrun, F', hput, _, _, hwho⟩ := Maps.fit_store (R' := RN) (val := v) (string_keyed Try.underlying9) Try.underlying64 hb1 F (Nat.lt_of_le_of_lt h2 hn) (fun _ _ _ _ hz => hz) hkey rfl
  have hg : w1.grownBy (setBlock w1 b (.map es' clock')) (some b) := ⟨rfl, rfl, rfl, by simp [setBlock], fun i _ hi => heap_setBlock_other hb1 _ (fun e => hi (by rw [e]))⟩
  have hR : ∀ {okx : Nat → Prop} {u : Value} {gx : List ByteArray}, Kd.R Kd.string 9 w1 base okx u gx → Kd.R Kd.string 9 (setBlock w1 b (.map es' clock')) base okx u gx := fun hx =>
    Kd.R_mono (Kd.R_grown (Kd.R_bound hx) hg (fun k hk he => by have := hk.2.1; injection he with he; omega)) (fun k hk => hk.1)
  have hsz : es'.size ≤ n + 1 := by
    have e1 : es'.size = ((es'.toList.map (rg Try.prog 9 RN)).foldr DataW.insert []).length := by rw [length_sorted]; simp
    rw [e1, hput]
    unfold putKey
    rw [length_insert]
    have e2 := List.length_filter_le (notKey (.string s.data.toList)) ((es.toList.map (rg Try.prog 9 RN)).foldr DataW.insert [])
    rw [length_sorted] at e2
    simp at e2
    omega
  have hput2 : (DataW.map ((es.toList.map (rg Try.prog 9 RN)).foldr DataW.insert [])).put (.string s.data.toList) .nil = DataW.map ((es'.toList.map (rg Try.prog 9 RN)).foldr DataW.insert []) := by rw [DataW.put_eq, hput]
  refine ⟨_, hrun, ⟨es', clock', heap_setBlock_same hb1 _, F', hsz, fun x hx => ?_, fun t ht => ?_⟩, hg⟩
  · rcases hwho x hx with ⟨hx0, hne⟩ | ⟨hk, hval⟩
    · obtain ⟨t, e, hr⟩ := h3 x hx0
      have hts : t ≠ s := fun he => hne (by rw [e, he])
      refine ⟨t, e, ?_⟩
      have e1 : (fun k => if t = s then oks k else ok t k) = ok t := by funext k; rw [if_neg hts]
      show Kd.R Kd.string 9 _ base (fun k => if t = s then oks k else ok t k) x.val (if t = s then gs else g t)
      rw [e1, if_neg hts]
      exact hR (Kd.R_step hr (hm t hts))
    · refine ⟨s, hk, ?_⟩
      have e1 : (fun k => if s = s then oks k else ok s k) = oks := by funext k; rw [if_pos rfl]
      show Kd.R Kd.string 9 _ base (fun k => if s = s then oks k else ok s k) x.val (if s = s then gs else g s)
      rw [e1, if_pos rfl, hval]
      exact hR hv
  · by_cases hts : t = s
    · exfalso
      subst hts
      rcases fit_has (heap_setBlock_same hb1 _) F' hkey with ⟨_, hat⟩ | ⟨e0, hm0, hk, _⟩
      · rw [← hput2, atKey_put_same ⟨_, rfl⟩ (by trivial)] at hat
        exact absurd hat (by simp)
      · exact ht e0 hm0 hk
    · show (if t = s then gs else g t) = []
      rw [if_neg hts]
      refine h4 t (fun x hx hk => ?_)
      obtain ⟨l, hl⟩ := F.keys x hx
      rw [hk] at hl
      have hls : l ≠ .string s.data.toList := fun e => hts (by have := (string_keyed Try.underlying9).inj (e ▸ hl) hkey; injection this)
      rcases fit_has (heap_setBlock_same hb1 (.map es' clock')) F' hl with ⟨_, hat⟩ | ⟨e0, hm0, hk0, _⟩
      · rw [← hput2, atKey_put_other hls] at hat
        rcases fit_has hb1 F hl with ⟨hno, _⟩ | ⟨_, _, _, hat2⟩
        · exact hno x hx hk
        · rw [hat2] at hat
          exact absurd hat (by simp)
      · exact ht e0 hm0 hk0
end
end Go.Proofs.Ytahdgaaedilcmaa.P
