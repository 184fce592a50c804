/- A map with texts as keys: what it holds, as a function. -/
import Derived.Test.YtkldaghhfnpcjaaGW
import Derived.Test.YtkldaghhfnpcjaaProg
import Derived.Maps.Own
import Derived.Maps.OwnSet
import Derived.Maps.RangeWalk
import Derived.Maps.Views
import Derived.Sort.KeysCollected
import Derived.StringKeys
import Derived.Carry
namespace Go.Proofs.Ytkldaghhfnpcjaa.P
open Go.RowKit Go.Maps Go.MapKept Go.ChangeMaps
set_option linter.unusedVariables false

/-- an element, read as it is -/
def RH : Value → Option (DataW Value × List MemPlace) := fun v => some (.held v, [])
theorem RH_inv {v : Value} {z : DataW Value × List MemPlace} (h : RH v = some z) : z = (.held v, []) := (Option.some.inj h).symm
def KB (s : ByteArray) : Lit := .string s.data.toList
theorem KB_inj {s t : ByteArray} (h : KB s = KB t) : s = t := by
  injection h with h
  exact ByteArray.ext (Array.ext' h)
def atV (o : Option Value) (z : DataW Value) : DataW Value := match o with | some v => .held v | none => z
theorem atV_inv {o : Option Value} {z v : Value} {ps : List MemPlace} (h : (atV o (.held z), ps) = (DataW.held v, [])) : v = o.getD z := by
  have h2 := congrArg Prod.fst h
  cases o with
  | none => exact (DataW.held.inj h2).symm
  | some u => exact (DataW.held.inj h2).symm
/-- the map at block b, of at most n entries, holds f -/
def MapV (w : World) (b n : Nat) (f : ByteArray → Option Value) : Prop :=
  ∃ D : DataW Value, w.ownsMap Try.prog 9 RH b n D ∧ ∀ (s : ByteArray) (z : DataW Value), D.atKey (KB s) z = atV (f s) z
def upd (f : ByteArray → Option Value) (s : ByteArray) (o : Option Value) : ByteArray → Option Value := fun t => if t = s then o else f t
theorem upd_same (f : ByteArray → Option Value) (s : ByteArray) (o : Option Value) : upd f s o s = o := if_pos rfl
theorem upd_other (f : ByteArray → Option Value) {s t : ByteArray} (h : t ≠ s) (o : Option Value) : upd f s o t = f t := if_neg h
theorem key9 : Keyed Try.prog 9 := string_keyed Try.underlying9
theorem keyKB {s : ByteArray} (hs : s.size ≤ maxLen) : keyOf Try.prog 9 (.string s) = some (KB s) := WideMaps.keyOf_string_mk Try.underlying9 hs
theorem keyKB_inv {key : Value} {kl : Lit} (h : keyOf Try.prog 9 key = some kl) : ∃ s : ByteArray, key = .string s ∧ kl = KB s ∧ s.size ≤ maxLen := by
  cases key <;> simp [keyOf, Try.underlying9, mapKey] at h
  obtain ⟨hs, rfl⟩ := h
  exact ⟨_, rfl, rfl, hs⟩
theorem MapV.made (w : World) : MapV (w.alloc (.map #[] 0)) w.heap.size 0 (fun _ => none) := ⟨.map [], World.ownsMap_made w _ _ _, fun _ _ => rfl⟩
section
variable {w w' : World} {b n : Nat} {f : ByteArray → Option Value}
theorem MapV.lt (h : MapV w b n f) : b < w.heap.size := by obtain ⟨D, hD, _⟩ := h; exact hD.lt
theorem MapV.more (h : MapV w b n f) {m : Nat} (hm : n ≤ m) : MapV w b m f := by obtain ⟨D, hD, ha⟩ := h; exact ⟨D, hD.mono hm, ha⟩
theorem MapV.kept {row : Option Nat} (h : MapV w b n f) (hg : w.grownBy w' row) (hne : some b ≠ row) : MapV w' b n f := by obtain ⟨D, hD, ha⟩ := h; exact ⟨D, hD.kept hg hne, ha⟩
theorem MapV.step (h : MapV w b n f) (hb : w'.heap[b]? = w.heap[b]?) : MapV w' b n f := by
  obtain ⟨D, ⟨es, clock, h1, h2⟩, ha⟩ := h
  exact ⟨D, ⟨es, clock, hb.trans h1, h2⟩, ha⟩
theorem MapV.below (h : MapV w b n f) {B : Nat} (hb : Below B w w') (hB : b < B) : MapV w' b n f := h.step (hb.block b hB)
theorem MapV.has (h : MapV w b n f) : ∃ D : DataW Value, w.ownsMap Try.prog 9 RH b n D ∧ (∀ (s : ByteArray) (z : DataW Value), D.atKey (KB s) z = atV (f s) z) ∧ ∀ s : ByteArray, Maps.has D (KB s) = (f s).isSome := by
  obtain ⟨D, hD, ha⟩ := h
  refine ⟨D, hD, ha, fun s => ?_⟩
  cases hf : f s with
  | none => exact Maps.has_false_of_atKey (fun z => by rw [ha s z, hf]; rfl)
  | some v => exact Maps.has_true_of_atKey (y := .held v) (fun z => by rw [ha s z, hf]; rfl)
/-- m[s] -/
theorem MapV.look (h : MapV w b n f) {T e : TypeId} (ht : Try.prog.underlying T = some (.map 9 e)) {z : Value} (hz : (zeroValue e).run Try.prog w = .ok z w) {s : ByteArray} (hs : s.size ≤ maxLen) :
    (Instr.lookup T (.map (some b)) (.string s) false).run Try.prog w = .ok ((f s).getD z) w := by
  obtain ⟨D, hD, ha⟩ := h
  obtain ⟨v, ps, hrun, hv⟩ := hD.lookup key9 ht hz (zd := .held z) (zp := []) rfl (keyKB hs)
  rw [ha s] at hv
  rw [hrun, atV_inv (RH_inv hv)]
/-- v, ok := m[s] -/
theorem MapV.look_ok (h : MapV w b n f) {T e : TypeId} (ht : Try.prog.underlying T = some (.map 9 e)) {z : Value} (hz : (zeroValue e).run Try.prog w = .ok z w) {s : ByteArray} (hs : s.size ≤ maxLen) :
    (Instr.lookup T (.map (some b)) (.string s) true).run Try.prog w = .ok (.tuple #[(f s).getD z, .bool (f s).isSome]) w := by
  obtain ⟨D, hD, ha, hh⟩ := h.has
  obtain ⟨v, ps, hrun, hv⟩ := hD.look_ok key9 ht hz (zd := .held z) (zp := []) rfl (keyKB hs)
  rw [ha s] at hv
  rw [hrun, hh s, atV_inv (RH_inv hv)]
/-- m[s] = v -/
theorem MapV.put (h : MapV w b n f) {T e : TypeId} (ht : Try.prog.underlying T = some (.map 9 e)) (hn : n < maxLen) {s : ByteArray} (hs : s.size ≤ maxLen) (v : Value) :
    ∃ w', (Instr.mapUpdate T (.map (some b)) (.string s) v).run Try.prog w = .ok () w' ∧ MapV w' b (n + 1) (upd f s (some v)) ∧ w.grownBy w' (some b) ∧ w'.heap.size = w.heap.size := by
  obtain ⟨D, hD, ha⟩ := h
  obtain ⟨w', hrun, h1, h2⟩ := hD.store key9 ht hn (keyKB hs) (d := .held v) (ps := []) rfl
  refine ⟨w', hrun, ⟨_, h1, fun t z => ?_⟩, h2.grown, ?_⟩
  · by_cases hts : t = s
    · subst hts
      rw [upd_same, Maps.atKey_put_same hD.isMap (by trivial)]
      rfl
    · rw [upd_other f hts, Maps.atKey_put_other (fun e => hts (KB_inj e)), ha t z]
  · obtain ⟨es, clock, es', clock', _, rfl⟩ := h2
    simp [setBlock]
/-- delete(m, s) -/
theorem MapV.del (h : MapV w b n f) {T e : TypeId} (ht : Try.prog.underlying T = some (.map 9 e)) {s : ByteArray} (hs : s.size ≤ maxLen) (ty : TypeId) :
    ∃ w', (Builtin.delete_ #[T, 9] ty #[.map (some b), .string s]).run Try.prog w = .ok (.tuple #[]) w' ∧ MapV w' b n (upd f s none) ∧ w.grownBy w' (some b) ∧ w'.heap.size = w.heap.size := by
  obtain ⟨D, hD, ha⟩ := h
  obtain ⟨w', hrun, h1, h2⟩ := hD.drop key9 ht (keyKB hs) ty
  refine ⟨w', hrun, ⟨_, h1, fun t z => ?_⟩, h2.grown, ?_⟩
  · by_cases hts : t = s
    · subst hts
      rw [upd_same, Maps.atKey_del_same]
      rfl
    · rw [upd_other f hts, Maps.atKey_del_other (fun e => hts (KB_inj e)), ha t z]
  · obtain ⟨es, clock, es', clock', _, rfl⟩ := h2
    simp [setBlock]
/-- the keys, somehow ordered -/
theorem MapV.keys (h : MapV w b n f) : ∃ D : DataW Value, w.ownsMap Try.prog 9 RH b n D ∧ (strKeys D).Nodup ∧ (∀ s : ByteArray, s.data.toList ∈ strKeys D ↔ (f s).isSome = true) ∧ (strKeys D).length = Maps.size D ∧ Maps.size D ≤ n ∧ (∀ x ∈ strKeys D, x.length ≤ maxLen) := by
  obtain ⟨D, hD, ha, hh⟩ := h.has
  have hle := strKeys_le hD Try.underlying9
  obtain ⟨es, hDe, hpw, _⟩ := hD.entries key9
  obtain ⟨es', hDe', hko⟩ := hD.keysOf
  obtain rfl : es = es' := by rw [hDe] at hDe'; injection hDe'
  have hsz := hD.size_le
  subst hDe
  have hk : ∀ p ∈ es, ∃ x, p.1 = .string x := fun p hp => by
    obtain ⟨v, hv⟩ := hko p hp
    obtain ⟨s, _, hs, _⟩ := keyKB_inv hv
    exact ⟨_, hs⟩
  refine ⟨_, hD, ?_, fun s => ?_, by simp [strKeys, Maps.size], hsz, hle⟩
  · refine List.pairwise_map.2 (hpw.imp_of_mem fun {p q} hp hq hne e => hne ?_)
    obtain ⟨a, ha⟩ := hk p hp
    obtain ⟨c, hc⟩ := hk q hq
    rw [ha, hc] at e ⊢
    exact congrArg Lit.string e
  · rw [← hh s]
    constructor
    · intro hm
      obtain ⟨p, hp, he⟩ := List.mem_map.1 hm
      obtain ⟨x, hx⟩ := hk p hp
      have hx2 : x = s.data.toList := by rw [hx] at he; exact he
      exact List.any_eq_true.2 ⟨p, hp, by rw [hx, hx2]; exact WideAt.sameKey_self (by trivial)⟩
    · intro hm
      obtain ⟨p, hp, he⟩ := List.any_eq_true.1 hm
      exact List.mem_map.2 ⟨p, hp, by rw [WideAt.sameKey_eq he]; rfl⟩
/-- no more entries than keys -/
theorem MapV.tight (h : MapV w b n f) (keys : List ByteArray) (hnd : keys.Nodup) (hm : ∀ s, s ∈ keys ↔ (f s).isSome = true) : MapV w b keys.length f := by
  obtain ⟨D, hD, h1, h2, h3, _⟩ := h.keys
  obtain ⟨D', hD', ha⟩ := h
  have hDD : D = D' := by
    obtain ⟨es, c, e1, _, _, e2⟩ := hD
    obtain ⟨es', c', e1', _, _, e2'⟩ := hD'
    rw [e1] at e1'
    injection e1' with e1'
    injection e1' with e1' _
    rw [e2, e2', e1']
  subst hDD
  have hp : (keys.map fun s => s.data.toList).Perm (strKeys D) := by
    refine (List.perm_ext_iff_of_nodup (List.pairwise_map.2 (hnd.imp fun {a b} hne e => hne (ByteArray.ext (Array.ext' e)))) h1).2 fun x => ?_
    constructor
    · intro hx
      obtain ⟨s, hs, rfl⟩ := List.mem_map.1 hx
      exact (h2 s).2 ((hm s).1 hs)
    · intro hx
      refine List.mem_map.2 ⟨⟨x.toArray⟩, (hm _).2 ((h2 ⟨x.toArray⟩).1 hx), rfl⟩
  have hl := hp.length_eq
  rw [List.length_map, h3] at hl
  obtain ⟨es, c, e1, F, hs, e2⟩ := hD
  refine ⟨D, ⟨es, c, e1, F, ?_, e2⟩, ha⟩
  rw [hl, e2]
  simp [Maps.size, length_sorted]
/-- len(m) -/
theorem MapV.len (h : MapV w b n f) {T e : TypeId} (ht : Try.prog.underlying T = some (.map 9 e)) (ty : TypeId) (keys : List ByteArray) (hnd : keys.Nodup) (hm : ∀ s, s ∈ keys ↔ (f s).isSome = true) :
    (Builtin.len_ #[T] ty #[.map (some b)]).run Try.prog w = .ok (.int .i64 keys.length) w := by
  obtain ⟨D, hD, h1, h2, h3, _⟩ := h.keys
  rw [hD.len ht ty]
  have hp : (keys.map fun s => s.data.toList).Perm (strKeys D) := by
    refine (List.perm_ext_iff_of_nodup (List.pairwise_map.2 (hnd.imp fun {a b} hne e => hne (ByteArray.ext (Array.ext' e)))) h1).2 fun x => ?_
    constructor
    · intro hx
      obtain ⟨s, hs, rfl⟩ := List.mem_map.1 hx
      exact (h2 s).2 ((hm s).1 hs)
    · intro hx
      refine List.mem_map.2 ⟨⟨x.toArray⟩, (hm _).2 ((h2 ⟨x.toArray⟩).1 hx), rfl⟩
  have := hp.length_eq
  rw [List.length_map, h3] at this
  rw [this]
end
/-- a range over the map at block b, its place at block r: what is to come yet -/
def RangeV (w : World) (b r n : Nat) (f : ByteArray → Option Value) (lf : ByteArray → Bool) (cnt : Nat) : Prop :=
  ∃ (D : DataW Value) (left : Lit → Bool), w.ranges Try.prog 9 RH b r n D left cnt ∧ (∀ (s : ByteArray) (z : DataW Value), D.atKey (KB s) z = atV (f s) z) ∧ ∀ s, left (KB s) = lf s
section
variable {w w' : World} {b r n cnt : Nat} {f : ByteArray → Option Value} {lf : ByteArray → Bool}
theorem RangeV.kept {row : Option Nat} (h : RangeV w b r n f lf cnt) (hg : w.grownBy w' row) (hb : some b ≠ row) (hr : some r ≠ row) : RangeV w' b r n f lf cnt := by
  obtain ⟨D, left, h1, h2⟩ := h
  exact ⟨D, left, h1.kept hg hb hr, h2⟩
theorem RangeV.step (h : RangeV w b r n f lf cnt) (hb : w'.heap[b]? = w.heap[b]?) (hr : w'.heap[r]? = w.heap[r]?) : RangeV w' b r n f lf cnt := by
  obtain ⟨D, left, ⟨es, clock, since, seen, c0, h1, h2, h3, h4, h5, h6⟩, h7⟩ := h
  exact ⟨D, left, ⟨es, clock, since, seen, c0, hb.trans h1, h2, h3, h4, hr.trans h5, h6⟩, h7⟩
theorem RangeV.lt (h : RangeV w b r n f lf cnt) : r < w.heap.size ∧ b < w.heap.size ∧ r ≠ b := by
  obtain ⟨D, left, h1, h2⟩ := h
  exact ⟨h1.lt, h1.owns.lt, h1.ne⟩
theorem RangeV.map (h : RangeV w b r n f lf cnt) : MapV w b n f := by
  obtain ⟨D, left, h1, h2, _⟩ := h
  exact ⟨D, h1.owns, h2⟩
theorem RangeV.left (h : RangeV w b r n f lf cnt) : w.rangeLeft b r = cnt := by
  obtain ⟨D, left, h1, h2, _⟩ := h
  exact h1.left_eq
end
section
variable {ops : Array Oper} {rest : List Oper} {o : Oper} {a : Act} {Q : Exit → Act → World → Prop}
/-- range m -/
theorem range_event {w : World} {b n : Nat} {f : ByteArray → Option Value} (hg : o.guard = none) {m : Operand} {T e : TypeId} (ho : o.op = .range T m) (ht : Try.prog.underlying T = some (.map 9 e)) (hm : a.eval m = .map (some b)) (hM : MapV w b n f)
    (h : ∀ w' cnt, RangeV w' b w.heap.size n f (fun s => (f s).isSome) cnt → w.grownBy w' none → w'.heap.size = w.heap.size + 1 → cnt ≤ n → wpList Try.prog ops Q rest (a.put o.dst (.pointer (some ⟨w.heap.size, 0, none⟩))) w') : wpList Try.prog ops Q (o :: rest) a w := by
  obtain ⟨D, hD, ha, hh⟩ := hM.has
  exact wpList_range_own w hg m T ho 9 e key9 ht RH b n D hm hD (fun w' hr hg hs => h w' _ ⟨D, _, hr, ha, hh⟩ hg hs hD.size_le)
/-- the next entry, or none -/
theorem next_event {w : World} {b r n cnt : Nat} {f : ByteArray → Option Value} {lf : ByteArray → Bool} (hg : o.guard = none) {it : Operand} (ho : o.op = .next it false) (hit : a.eval it = .pointer (some ⟨r, 0, none⟩)) (hR : RangeV w b r n f lf cnt)
    (hDone : (∀ s, s.size ≤ maxLen → lf s = false) → wpList Try.prog ops Q rest (a.put o.dst (.tuple #[.bool false])) w)
    (hMore : ∀ (s : ByteArray) (v : Value) (w' : World) (cnt' : Nat), s.size ≤ maxLen → lf s = true → f s = some v → RangeV w' b r n f (fun t => lf t && !decide (t = s)) cnt' → cnt' < cnt → w.grownBy w' (some r) → w'.heap.size = w.heap.size →
      (Instr.entry (.pointer (some ⟨r, 0, none⟩))).run Try.prog w' = .ok (.tuple #[.string s, v]) w' → wpList Try.prog ops Q rest (a.put o.dst (.tuple #[.bool true, .string s, v])) w') : wpList Try.prog ops Q (o :: rest) a w := by
  obtain ⟨D, left, hr, ha, hl⟩ := hR
  refine wpList_next_ranges w hg it ho 9 key9 RH Value.string id (fun key kl hk => by obtain ⟨s, rfl, _⟩ := keyKB_inv hk; exact ⟨s, rfl⟩) (fun v y _ => ⟨v, rfl⟩) b r n D left cnt hit hr (fun _ h0 => hDone (fun s _ => by rw [← hl s]; exact h0 _)) ?_
  intro s v kl y w' cnt' hk hlk hv hat hr' hlt hgr hsz hen
  obtain ⟨s', e1, rfl, hs⟩ := keyKB_inv hk
  injection e1 with e1
  subst e1
  have hy := RH_inv hv
  subst hy
  have hfs : f s = some v := by
    have h1 := hat (.lit (.bool true))
    have h2 := hat (.lit (.bool false))
    rw [ha s] at h1 h2
    cases hf : f s with
    | none => rw [hf] at h1; cases h1
    | some u => rw [hf] at h1; rw [DataW.held.inj h1]; rfl
  refine hMore s v w' cnt' hs (by rw [← hl s]; exact hlk) hfs ⟨D, _, hr', ha, fun t => ?_⟩ hlt hgr hsz hen
  rw [hl t]
  by_cases hts : t = s
  · subst hts; rw [WideAt.sameKey_self (by trivial)]; simp
  · have : (KB t).sameKey (KB s) = false := by
      cases h : (KB t).sameKey (KB s) with
      | false => rfl
      | true => exact absurd (KB_inj (WideAt.sameKey_eq h)) hts
    rw [this]; simp [hts]
end
end Go.Proofs.Ytkldaghhfnpcjaa.P
