/- Folded: GMap, GSort, GSorted, GEntry, GGraph. -/
import Derived.Test.YtmhbdgnajlnhnaaGW
import Derived.Test.YtmhbdgnajlnhnaaProg
import Derived.Maps.Own
import Derived.Maps.OwnSet
import Derived.Maps.RangeWalk
import Derived.Maps.Views
import Derived.Sort.KeysCollected
import Derived.StringKeys
import Derived.Carry
import Derived.Test.YtmhbdgnajlnhnaaShelf
import Derived.Test.YtmhbdgnajlnhnaaPlGraph
import Derived.Sort.OwnSorted
import Derived.Lib.OwnBridge
import Derived.Test.YtmhbdgnajlnhnaaIter
import Derived.WideKeyEntry
import Derived.WalkSpells
/- A map with texts as keys: what it holds, as a function. -/
namespace Go.Proofs.Ytmhbdgnajlnhnaa.P
open Go.RowKit Go.Maps Go.MapKept Go.ChangeMaps
set_option linter.unusedVariables false

/-- an element, read as it is -/
def RH : Value → Option (DataW Value × List MemPlace) := fun v => some (.held v, [])
theorem RH_inv {v : Value} {z : DataW Value × List MemPlace} (h : RH v = some z) : z = (.held v, []) := (Option.some.inj h).symm
def KB (s : ByteArray) : Lit := .string s.data.toList
theorem KB_inj {s t : ByteArray} (h : KB s = KB t) : s = t := by
  injection h with h
  exact ByteArray.ext (Array.ext' h)
def atV (o : Option Value) (z : DataW Value) : DataW Value := match o with | some v => .held v | none => z
theorem atV_inv {o : Option Value} {z v : Value} {ps : List MemPlace} (h : (atV o (.held z), ps) = (DataW.held v, [])) : v = o.getD z := by
  have h2 := congrArg Prod.fst h
  cases o with
  | none => exact (DataW.held.inj h2).symm
  | some u => exact (DataW.held.inj h2).symm
/-- the map at block b, of at most n entries, holds f -/
def MapV (w : World) (b n : Nat) (f : ByteArray → Option Value) : Prop :=
  ∃ D : DataW Value, w.ownsMap Try.prog 9 RH b n D ∧ ∀ (s : ByteArray) (z : DataW Value), D.atKey (KB s) z = atV (f s) z
def upd (f : ByteArray → Option Value) (s : ByteArray) (o : Option Value) : ByteArray → Option Value := fun t => if t = s then o else f t
theorem upd_same (f : ByteArray → Option Value) (s : ByteArray) (o : Option Value) : upd f s o s = o := if_pos rfl
theorem upd_other (f : ByteArray → Option Value) {s t : ByteArray} (h : t ≠ s) (o : Option Value) : upd f s o t = f t := if_neg h
theorem key9 : Keyed Try.prog 9 := string_keyed Try.underlying9
theorem keyKB {s : ByteArray} (hs : s.size ≤ maxLen) : keyOf Try.prog 9 (.string s) = some (KB s) := WideMaps.keyOf_string_mk Try.underlying9 hs
theorem keyKB_inv {key : Value} {kl : Lit} (h : keyOf Try.prog 9 key = some kl) : ∃ s : ByteArray, key = .string s ∧ kl = KB s ∧ s.size ≤ maxLen := by
  cases key <;> simp [keyOf, Try.underlying9, mapKey] at h
  obtain ⟨hs, rfl⟩ := h
  exact ⟨_, rfl, rfl, hs⟩
theorem MapV.made (w : World) : MapV (w.alloc (.map #[] 0)) w.heap.size 0 (fun _ => none) := ⟨.map [], World.ownsMap_made w _ _ _, fun _ _ => rfl⟩
section
variable {w w' : World} {b n : Nat} {f : ByteArray → Option Value}
theorem MapV.lt (h : MapV w b n f) : b < w.heap.size := by obtain ⟨D, hD, _⟩ := h; exact hD.lt
theorem MapV.more (h : MapV w b n f) {m : Nat} (hm : n ≤ m) : MapV w b m f := by obtain ⟨D, hD, ha⟩ := h; exact ⟨D, hD.mono hm, ha⟩
theorem MapV.kept {row : Option Nat} (h : MapV w b n f) (hg : w.grownBy w' row) (hne : some b ≠ row) : MapV w' b n f := by obtain ⟨D, hD, ha⟩ := h; exact ⟨D, hD.kept hg hne, ha⟩
theorem MapV.step (h : MapV w b n f) (hb : w'.heap[b]? = w.heap[b]?) : MapV w' b n f := by
  obtain ⟨D, ⟨es, clock, h1, h2⟩, ha⟩ := h
  exact ⟨D, ⟨es, clock, hb.trans h1, h2⟩, ha⟩
theorem MapV.below (h : MapV w b n f) {B : Nat} (hb : Below B w w') (hB : b < B) : MapV w' b n f := h.step (hb.block b hB)
theorem MapV.has (h : MapV w b n f) : ∃ D : DataW Value, w.ownsMap Try.prog 9 RH b n D ∧ (∀ (s : ByteArray) (z : DataW Value), D.atKey (KB s) z = atV (f s) z) ∧ ∀ s : ByteArray, Maps.has D (KB s) = (f s).isSome := by
  obtain ⟨D, hD, ha⟩ := h
  refine ⟨D, hD, ha, fun s => ?_⟩
  cases hf : f s with
  | none => exact Maps.has_false_of_atKey (fun z => by rw [ha s z, hf]; rfl)
  | some v => exact Maps.has_true_of_atKey (y := .held v) (fun z => by rw [ha s z, hf]; rfl)
/-- m[s] -/
theorem MapV.look (h : MapV w b n f) {T e : TypeId} (ht : Try.prog.underlying T = some (.map 9 e)) {z : Value} (hz : (zeroValue e).run Try.prog w = .ok z w) {s : ByteArray} (hs : s.size ≤ maxLen) :
    (Instr.lookup T (.map (some b)) (.string s) false).run Try.prog w = .ok ((f s).getD z) w := by
  obtain ⟨D, hD, ha⟩ := h
  obtain ⟨v, ps, hrun, hv⟩ := hD.lookup key9 ht hz (zd := .held z) (zp := []) rfl (keyKB hs)
  rw [ha s] at hv
  rw [hrun, atV_inv (RH_inv hv)]
/-- v, ok := m[s] -/
theorem MapV.look_ok (h : MapV w b n f) {T e : TypeId} (ht : Try.prog.underlying T = some (.map 9 e)) {z : Value} (hz : (zeroValue e).run Try.prog w = .ok z w) {s : ByteArray} (hs : s.size ≤ maxLen) :
    (Instr.lookup T (.map (some b)) (.string s) true).run Try.prog w = .ok (.tuple #[(f s).getD z, .bool (f s).isSome]) w := by
  obtain ⟨D, hD, ha, hh⟩ := h.has
  obtain ⟨v, ps, hrun, hv⟩ := hD.look_ok key9 ht hz (zd := .held z) (zp := []) rfl (keyKB hs)
  rw [ha s] at hv
  rw [hrun, hh s, atV_inv (RH_inv hv)]
/-- m[s] = v -/
theorem MapV.put (h : MapV w b n f) {T e : TypeId} (ht : Try.prog.underlying T = some (.map 9 e)) (hn : n < maxLen) {s : ByteArray} (hs : s.size ≤ maxLen) (v : Value) :
    ∃ w', (Instr.mapUpdate T (.map (some b)) (.string s) v).run Try.prog w = .ok () w' ∧ MapV w' b (n + 1) (upd f s (some v)) ∧ w.grownBy w' (some b) ∧ w'.heap.size = w.heap.size := by
  obtain ⟨D, hD, ha⟩ := h
  obtain ⟨w', hrun, h1, h2⟩ := hD.store key9 ht hn (keyKB hs) (d := .held v) (ps := []) rfl
  refine ⟨w', hrun, ⟨_, h1, fun t z => ?_⟩, h2.grown, ?_⟩
  · by_cases hts : t = s
    · subst hts
      rw [upd_same, Maps.atKey_put_same hD.isMap (by trivial)]
      rfl
    · rw [upd_other f hts, Maps.atKey_put_other (fun e => hts (KB_inj e)), ha t z]
  · obtain ⟨es, clock, es', clock', _, rfl⟩ := h2
    simp [setBlock]
/-- delete(m, s) -/
theorem MapV.del (h : MapV w b n f) {T e : TypeId} (ht : Try.prog.underlying T = some (.map 9 e)) {s : ByteArray} (hs : s.size ≤ maxLen) (ty : TypeId) :
    ∃ w', (Builtin.delete_ #[T, 9] ty #[.map (some b), .string s]).run Try.prog w = .ok (.tuple #[]) w' ∧ MapV w' b n (upd f s none) ∧ w.grownBy w' (some b) ∧ w'.heap.size = w.heap.size := by
  obtain ⟨D, hD, ha⟩ := h
  obtain ⟨w', hrun, h1, h2⟩ := hD.drop key9 ht (keyKB hs) ty
  refine ⟨w', hrun, ⟨_, h1, fun t z => ?_⟩, h2.grown, ?_⟩
  · by_cases hts : t = s
    · subst hts
      rw [upd_same, Maps.atKey_del_same]
      rfl
    · rw [upd_other f hts, Maps.atKey_del_other (fun e => hts (KB_inj e)), ha t z]
  · obtain ⟨es, clock, es', clock', _, rfl⟩ := h2
    simp [setBlock]
/-- the keys, somehow ordered -/
theorem MapV.keys (h : MapV w b n f) : ∃ D : DataW Value, w.ownsMap Try.prog 9 RH b n D ∧ (strKeys D).Nodup ∧ (∀ s : ByteArray, s.data.toList ∈ strKeys D ↔ (f s).isSome = true) ∧ (strKeys D).length = Maps.size D ∧ Maps.size D ≤ n ∧ (∀ x ∈ strKeys D, x.length ≤ maxLen) := by
  obtain ⟨D, hD, ha, hh⟩ := h.has
  have hle := strKeys_le hD Try.underlying9
  obtain ⟨es, hDe, hpw, _⟩ := hD.entries key9
  obtain ⟨es', hDe', hko⟩ := hD.keysOf
  obtain rfl : es = es' := by rw [hDe] at hDe'; injection hDe'
  have hsz := hD.size_le
  subst hDe
  have hk : ∀ p ∈ es, ∃ x, p.1 = .string x := fun p hp => by
    obtain ⟨v, hv⟩ := hko p hp
    obtain ⟨s, _, hs, _⟩ := keyKB_inv hv
    exact ⟨_, hs⟩
  refine ⟨_, hD, ?_, fun s => ?_, by simp [strKeys, Maps.size], hsz, hle⟩
  · refine List.pairwise_map.2 (hpw.imp_of_mem fun {p q} hp hq hne e => hne ?_)
    obtain ⟨a, ha⟩ := hk p hp
    obtain ⟨c, hc⟩ := hk q hq
    rw [ha, hc] at e ⊢
    exact congrArg Lit.string e
  · rw [← hh s]
    constructor
    · intro hm
      obtain ⟨p, hp, he⟩ := List.mem_map.1 hm
      obtain ⟨x, hx⟩ := hk p hp
      have hx2 : x = s.data.toList := by rw [hx] at he; exact he
      exact List.any_eq_true.2 ⟨p, hp, by rw [hx, hx2]; exact WideAt.sameKey_self (by trivial)⟩
    · intro hm
      obtain ⟨p, hp, he⟩ := List.any_eq_true.1 hm
      exact List.mem_map.2 ⟨p, hp, by rw [WideAt.sameKey_eq he]; rfl⟩
/-- no more entries than keys -/
theorem MapV.tight (h : MapV w b n f) (keys : List ByteArray) (hnd : keys.Nodup) (hm : ∀ s, s ∈ keys ↔ (f s).isSome = true) : MapV w b keys.length f := by
  obtain ⟨D, hD, h1, h2, h3, _⟩ := h.keys
  obtain ⟨D', hD', ha⟩ := h
  have hDD : D = D' := by
    obtain ⟨es, c, e1, _, _, e2⟩ := hD
    obtain ⟨es', c', e1', _, _, e2'⟩ := hD'
    rw [e1] at e1'
    injection e1' with e1'
    injection e1' with e1' _
    rw [e2, e2', e1']
  subst hDD
  have hp : (keys.map fun s => s.data.toList).Perm (strKeys D) := by
    refine (List.perm_ext_iff_of_nodup (List.pairwise_map.2 (hnd.imp fun {a b} hne e => hne (ByteArray.ext (Array.ext' e)))) h1).2 fun x => ?_
    constructor
    · intro hx
      obtain ⟨s, hs, rfl⟩ := List.mem_map.1 hx
      exact (h2 s).2 ((hm s).1 hs)
    · intro hx
      refine List.mem_map.2 ⟨⟨x.toArray⟩, (hm _).2 ((h2 ⟨x.toArray⟩).1 hx), rfl⟩
  have hl := hp.length_eq
  rw [List.length_map, h3] at hl
  obtain ⟨es, c, e1, F, hs, e2⟩ := hD
  refine ⟨D, ⟨es, c, e1, F, ?_, e2⟩, ha⟩
  rw [hl, e2]
  simp [Maps.size, length_sorted]
/-- len(m) -/
theorem MapV.len (h : MapV w b n f) {T e : TypeId} (ht : Try.prog.underlying T = some (.map 9 e)) (ty : TypeId) (keys : List ByteArray) (hnd : keys.Nodup) (hm : ∀ s, s ∈ keys ↔ (f s).isSome = true) :
    (Builtin.len_ #[T] ty #[.map (some b)]).run Try.prog w = .ok (.int .i64 keys.length) w := by
  obtain ⟨D, hD, h1, h2, h3, _⟩ := h.keys
  rw [hD.len ht ty]
  have hp : (keys.map fun s => s.data.toList).Perm (strKeys D) := by
    refine (List.perm_ext_iff_of_nodup (List.pairwise_map.2 (hnd.imp fun {a b} hne e => hne (ByteArray.ext (Array.ext' e)))) h1).2 fun x => ?_
    constructor
    · intro hx
      obtain ⟨s, hs, rfl⟩ := List.mem_map.1 hx
      exact (h2 s).2 ((hm s).1 hs)
    · intro hx
      refine List.mem_map.2 ⟨⟨x.toArray⟩, (hm _).2 ((h2 ⟨x.toArray⟩).1 hx), rfl⟩
  have := hp.length_eq
  rw [List.length_map, h3] at this
  rw [this]
end
/-- a range over the map at block b, its place at block r: what is to come yet -/
def RangeV (w : World) (b r n : Nat) (f : ByteArray → Option Value) (lf : ByteArray → Bool) (cnt : Nat) : Prop :=
  ∃ (D : DataW Value) (left : Lit → Bool), w.ranges Try.prog 9 RH b r n D left cnt ∧ (∀ (s : ByteArray) (z : DataW Value), D.atKey (KB s) z = atV (f s) z) ∧ ∀ s, left (KB s) = lf s
section
variable {w w' : World} {b r n cnt : Nat} {f : ByteArray → Option Value} {lf : ByteArray → Bool}
theorem RangeV.kept {row : Option Nat} (h : RangeV w b r n f lf cnt) (hg : w.grownBy w' row) (hb : some b ≠ row) (hr : some r ≠ row) : RangeV w' b r n f lf cnt := by
  obtain ⟨D, left, h1, h2⟩ := h
  exact ⟨D, left, h1.kept hg hb hr, h2⟩
theorem RangeV.step (h : RangeV w b r n f lf cnt) (hb : w'.heap[b]? = w.heap[b]?) (hr : w'.heap[r]? = w.heap[r]?) : RangeV w' b r n f lf cnt := by
  obtain ⟨D, left, ⟨es, clock, since, seen, c0, h1, h2, h3, h4, h5, h6⟩, h7⟩ := h
  exact ⟨D, left, ⟨es, clock, since, seen, c0, hb.trans h1, h2, h3, h4, hr.trans h5, h6⟩, h7⟩
theorem RangeV.lt (h : RangeV w b r n f lf cnt) : r < w.heap.size ∧ b < w.heap.size ∧ r ≠ b := by
  obtain ⟨D, left, h1, h2⟩ := h
  exact ⟨h1.lt, h1.owns.lt, h1.ne⟩
theorem RangeV.map (h : RangeV w b r n f lf cnt) : MapV w b n f := by
  obtain ⟨D, left, h1, h2, _⟩ := h
  exact ⟨D, h1.owns, h2⟩
theorem RangeV.left (h : RangeV w b r n f lf cnt) : w.rangeLeft b r = cnt := by
  obtain ⟨D, left, h1, h2, _⟩ := h
  exact h1.left_eq
end
section
variable {ops : Array Oper} {rest : List Oper} {o : Oper} {a : Act} {Q : Exit → Act → World → Prop}
/-- range m -/
theorem range_event {w : World} {b n : Nat} {f : ByteArray → Option Value} (hg : o.guard = none) {m : Operand} {T e : TypeId} (ho : o.op = .range T m) (ht : Try.prog.underlying T = some (.map 9 e)) (hm : a.eval m = .map (some b)) (hM : MapV w b n f)
    (h : ∀ w' cnt, RangeV w' b w.heap.size n f (fun s => (f s).isSome) cnt → w.grownBy w' none → w'.heap.size = w.heap.size + 1 → cnt ≤ n → wpList Try.prog ops Q rest (a.put o.dst (.pointer (some ⟨w.heap.size, 0, none⟩))) w') : wpList Try.prog ops Q (o :: rest) a w := by
  obtain ⟨D, hD, ha, hh⟩ := hM.has
  exact wpList_range_own w hg m T ho 9 e key9 ht RH b n D hm hD (fun w' hr hg hs => h w' _ ⟨D, _, hr, ha, hh⟩ hg hs hD.size_le)
/-- the next entry, or none -/
theorem next_event {w : World} {b r n cnt : Nat} {f : ByteArray → Option Value} {lf : ByteArray → Bool} (hg : o.guard = none) {it : Operand} (ho : o.op = .next it false) (hit : a.eval it = .pointer (some ⟨r, 0, none⟩)) (hR : RangeV w b r n f lf cnt)
    (hDone : (∀ s, s.size ≤ maxLen → lf s = false) → wpList Try.prog ops Q rest (a.put o.dst (.tuple #[.bool false])) w)
    (hMore : ∀ (s : ByteArray) (v : Value) (w' : World) (cnt' : Nat), s.size ≤ maxLen → lf s = true → f s = some v → RangeV w' b r n f (fun t => lf t && !decide (t = s)) cnt' → cnt' < cnt → w.grownBy w' (some r) → w'.heap.size = w.heap.size →
      (Instr.entry (.pointer (some ⟨r, 0, none⟩))).run Try.prog w' = .ok (.tuple #[.string s, v]) w' → wpList Try.prog ops Q rest (a.put o.dst (.tuple #[.bool true, .string s, v])) w') : wpList Try.prog ops Q (o :: rest) a w := by
  obtain ⟨D, left, hr, ha, hl⟩ := hR
  refine wpList_next_ranges w hg it ho 9 key9 RH Value.string id (fun key kl hk => by obtain ⟨s, rfl, _⟩ := keyKB_inv hk; exact ⟨s, rfl⟩) (fun v y _ => ⟨v, rfl⟩) b r n D left cnt hit hr (fun _ h0 => hDone (fun s _ => by rw [← hl s]; exact h0 _)) ?_
  intro s v kl y w' cnt' hk hlk hv hat hr' hlt hgr hsz hen
  obtain ⟨s', e1, rfl, hs⟩ := keyKB_inv hk
  injection e1 with e1
  subst e1
  have hy := RH_inv hv
  subst hy
  have hfs : f s = some v := by
    have h1 := hat (.lit (.bool true))
    have h2 := hat (.lit (.bool false))
    rw [ha s] at h1 h2
    cases hf : f s with
    | none => rw [hf] at h1; cases h1
    | some u => rw [hf] at h1; rw [DataW.held.inj h1]; rfl
  refine hMore s v w' cnt' hs (by rw [← hl s]; exact hlk) hfs ⟨D, _, hr', ha, fun t => ?_⟩ hlt hgr hsz hen
  rw [hl t]
  by_cases hts : t = s
  · subst hts; rw [WideAt.sameKey_self (by trivial)]; simp
  · have : (KB t).sameKey (KB s) = false := by
      cases h : (KB t).sameKey (KB s) with
      | false => rfl
      | true => exact absurd (KB_inj (WideAt.sameKey_eq h)) hts
    rw [this]; simp [hts]
end
end Go.Proofs.Ytmhbdgnajlnhnaa.P
/- slices.Sort, slices.Compact at rows of texts of the call's own. -/
namespace Go.Proofs.Ytmhbdgnajlnhnaa.P
open Go.RowKit Go.Proofs.YtmhbdgnajlnhnaaW.PrintWords Go.Proofs.YtmhbdgnajlnhnaaW.PrintLast Go.Proofs.YtmhbdgnajlnhnaaW.PrintMore Go.Proofs.Ytmhbdgnajlnhnaa.Pl
set_option linter.unusedVariables false
theorem encs_str (l : List ByteArray) : encs Value.string l = (l.map L).map Go.Proofs.encStr := by
  unfold encs
  rw [List.map_map]
  exact List.map_congr_left (fun s _ => by show Value.string s = Value.string ⟨(L s).toArray⟩; rw [show (⟨(L s).toArray⟩ : ByteArray) = s from B_L s])
/-- the row is sorted -/
def Sorted (w : World) (base : Nat) (ok : Nat → Prop) (v : Value) (l : List ByteArray) (w' : World) : Prop := Kd.R Kd.string 9 w' base ok v l ∧ w.grownBy w' v.ownBlock
theorem grown_refl (w : World) (row : Option Nat) : w.grownBy w row := ⟨rfl, rfl, rfl, Nat.le_refl _, fun _ _ _ => rfl⟩
theorem sort_calls {w : World} {base : Nat} {ok : Nat → Prop} {v : Value} {l : List ByteArray} (h : Kd.R Kd.string 9 w base ok v l) (hl : l.length < 1000000000) :
    Calls Try.prog 36 #[v] w fun e w' => e = .returned (.tuple #[]) ∧ Sorted w base ok v (msrt l) w' := by
  have ho := Kd.own_of_R h
  rw [encs_str] at ho
  rcases ho.2 with ⟨rfl, h0⟩ | ⟨g, cap, cur, rfl, hbase, hb, h1, h2, h3, h4⟩
  · have hnil := List.eq_nil_of_length_eq_zero h0
    subst hnil
    refine (Try.slices_Sort_string_none none 0 w).mono ?_
    rintro e w' ⟨rfl, rfl⟩
    exact ⟨rfl, by rw [show msrt [] = [] by simp [msrt]]; exact h, grown_refl _ _⟩
  · have hH := holds_of_block (ss := l.map L) hb (by rw [List.length_map]; rw [Nat.mul_one] at h4; exact h4)
    have hc := Try.slices_Sort_string g 0 cap (l.map L) w hH (Array.getElem?_eq_some_iff.1 hb).1 (by rw [List.length_map]; omega)
    rw [List.length_map] at hc
    refine hc.mono ?_
    rintro e w' ⟨rfl, n, os, rfl⟩
    refine ⟨rfl, ?_, grownBy_sorted _⟩
    have hl2 : ((l.map L).mergeSort leL).length = (l.map L).length := List.length_mergeSort _
    have ho2 := ownsRow_sorted (n := n) (os := os) (ss := l.map L) (ts := (l.map L).mergeSort leL) hl2 hbase hb (by rw [List.length_map]; exact h1) h2 h3
    have hr : List.map Go.Proofs.encStr ((l.map L).mergeSort leL) = encs Value.string (msrt l) := by rw [encs_str, msrt_L]
    rw [hr, List.length_map] at ho2
    exact Kd.R_of_own (by rw [msrt_len]; exact ho2) (fun k hk => h.1 k (by first | (rw [← hk]; done) | (rw [← hk]; rfl)))
/-- twins struck out of what was sorted -/
def Compacted (w : World) (base : Nat) (ok : Nat → Prop) (v : Value) (l : List ByteArray) (e : Ending) (w' : World) : Prop := ∃ v', e = .returned v' ∧ Kd.R Kd.string 9 w' base ok v' l ∧ w.grownBy w' v.ownBlock
theorem compact_calls {w : World} {base : Nat} {ok : Nat → Prop} {v : Value} {l : List ByteArray} (h : Kd.R Kd.string 9 w base ok v (msrt l)) (hl : l.length < 1000000000) :
    Calls Try.prog 57 #[v] w (Compacted w base ok v (srt l)) := by
  have ho := Kd.own_of_R h
  rw [encs_str, msrt_L] at ho
  rcases ho.2 with ⟨rfl, h0⟩ | ⟨g, cap, cur, rfl, hbase, hb, h1, h2, h3, h4⟩
  · rw [msrt_len] at h0
    have hnil := List.eq_nil_of_length_eq_zero h0
    subst hnil
    refine (Try.slices_Compact_string_empty none 0 w).mono ?_
    rintro e w' ⟨rfl, rfl⟩
    exact ⟨_, rfl, Kd.R_nil _ _ _ _ _, grown_refl _ _⟩
  · obtain ⟨zs, hzs⟩ : ∃ zs, (l.map L).mergeSort leL = zs := ⟨_, rfl⟩
    have hzl : zs.length = (msrt l).length := by rw [← hzs, List.length_mergeSort, List.length_map, msrt_len]
    rw [hzs] at ho h4
    have hH := holds_of_block (ss := zs) hb (by rw [Nat.mul_one] at h4; rw [hzl]; exact h4)
    have hm := msrt_len l
    have hc := Try.slices_Compact_string g 0 cap zs w hH (by omega) (by omega)
    rw [hzl] at hc
    refine hc.mono ?_
    rintro e w' ⟨rfl, q, rfl⟩
    have hcs := compact_srt l
    rw [hzs] at hcs
    have hcl : (Lib.compact zs).length = (srt l).length := by rw [← hcs, List.length_map]
    have hle := srt_len l
    have ho2 := Lib.ownsRow_putRow (q := q) (k := (Lib.compact zs).length) (ys := Lib.compact zs ++ List.replicate (zs.length - (Lib.compact zs).length) []) ho (by rw [List.length_append, List.length_replicate]; omega) (by omega)
    rw [List.take_left] at ho2
    have hr : List.map Go.Proofs.encStr (Lib.compact zs) = encs Value.string (srt l) := by
      rw [encs_str, ← hcs]
      congr 1
      rw [List.map_map, show L ∘ B = id by funext x; exact L_B x, List.map_id]
    rw [hr, hcl] at ho2
    rw [hcl]
    rw [hzl] at ho2
    refine ⟨_, rfl, Kd.R_of_own ho2 (fun k hk => h.1 k (by first | (rw [← hk]; done) | (rw [← hk]; rfl))), ⟨rfl, rfl, rfl, by simp [Go.Sort.putRow, Go.Sort.mapBlock, Go.Sort.ahead], fun k hk hne => ?_⟩⟩
    have : g ≠ k := fun e => hne (by rw [e]; rfl)
    simp [Go.Sort.putRow, Go.Sort.mapBlock, Go.Sort.ahead, Array.getElem?_modify, this]
end Go.Proofs.Ytmhbdgnajlnhnaa.P
/- slices.Sorted(maps.Keys(m)): a map's keys, rising. -/
namespace Go.Proofs.Ytmhbdgnajlnhnaa.P
open Go.RowKit Go.Maps Go.Proofs.YtmhbdgnajlnhnaaW.PrintWords Go.Proofs.YtmhbdgnajlnhnaaW.PrintLast Go.Proofs.YtmhbdgnajlnhnaaW.PrintMore Go.Proofs.Ytmhbdgnajlnhnaa.Pl
set_option linter.unusedVariables false
set_option linter.unusedSimpArgs false
/-- texts in a new row; nil where there is none -/
def Rose (w : World) (l : List ByteArray) (e : Ending) (w' : World) : Prop := ∃ v, e = .returned v ∧ Kd.R Kd.string 9 w' w.heap.size (fun _ => True) v l ∧ (v = .slice none 0 0 ↔ l = []) ∧ Below w.heap.size w w'
theorem rose_of {w w' : World} {o : Obj} {f : ByteArray → Option Value} {l : List ByteArray} {v : Value} {ss ks : List (List UInt8)} (hl : SS l) (hm : ∀ s, s ∈ l ↔ (f s).isSome = true) (h1 : ks.Nodup) (h2 : ∀ s : ByteArray, s.data.toList ∈ ks ↔ (f s).isSome = true)
    (hS : ss.Perm ks) (hrow : w'.ownsRow (w.alloc o).heap.size 9 1 v ss.length ((ss.mergeSort (fun x y => decide (x ≤ y))).map encStr)) (hnil : v = .slice none 0 0 ↔ ss = []) (hb : Below (w.alloc o).heap.size (w.alloc o) w') : Rose w l (.returned v) w' := by
  have hxs : ss = (ss.map B).map L := by rw [List.map_map, show L ∘ B = id by funext x; exact L_B x, List.map_id]
  have hnd : (ss.map B).Nodup := List.pairwise_map.2 (((hS.nodup_iff).2 h1).imp (fun {a b} hne e => hne (by have := congrArg L e; rwa [L_B, L_B] at this)))
  have hml : msrt (ss.map B) = l := by
    rw [msrt_srt hnd]
    refine ss_uniq _ _ (ss_srt _) hl (fun z => ?_)
    rw [mem_srt, hm, ← h2, ← hS.mem_iff]
    constructor
    · intro hz
      obtain ⟨x, hx, rfl⟩ := List.mem_map.1 hz
      have : (B x).data.toList = x := L_B x
      rw [this]; exact hx
    · intro hz
      exact List.mem_map.2 ⟨_, hz, B_L z⟩
  have hr : List.map Go.Proofs.encStr (ss.mergeSort (fun x y => decide (x ≤ y))) = encs Value.string l := by
    rw [← hml, encs_str, msrt_L, ← hxs]
    rfl
  have hlen : ss.length = l.length := by rw [← hml, msrt_len, List.length_map]
  rw [hr, hlen] at hrow
  refine ⟨v, rfl, Kd.R_lower (Kd.R_of_own hrow (fun _ _ => trivial)) (by simp), hnil.trans ?_, ((Below.refl _ w).alloc (Nat.le_refl _) o).trans (hb.mono (by simp))⟩
  rw [← List.length_eq_zero_iff, ← List.length_eq_zero_iff, hlen]
set_option maxRecDepth 100000 in
set_option maxHeartbeats 1000000 in
theorem sortedG_calls {w : World} {b n : Nat} {f : ByteArray → Option Value} (hM : MapV w b n f) (hn : n ≤ 1000000) {l : List ByteArray} (hl : SS l) (hm : ∀ s, s ∈ l ↔ (f s).isSome = true) :
    Calls Try.prog 48 #[.map (some b)] w (Rose w l) := by
  obtain ⟨D, hD, h1, h2, h3, h4, h5⟩ := hM.keys
  refine (callsIn_wide (n := 6)).1 ?_
  have hfK : Fence.wide.fn 60 := trivial
  have hfS : Fence.wide.fn 59 := trivial
  refine callsIn_of_wp Try.func48 rfl trivial ?_ rfl
  simp only [Try.ntmps48, List.size_toArray, List.length_cons, List.length_nil, Nat.reduceAdd, Nat.reduceSub, Array.replicate_succ, Array.replicate_zero, List.push_toArray, List.append_toArray, List.nil_append, List.cons_append]
  gi_wp2_with (first
    | (gi_at_call 60; refine (Try.maps_Keys_60 _ _).mono ?_; rintro e w' ⟨rfl, rfl⟩)
    | (gi_at_call 59; refine (Try.slices_Sorted_keys_59_60 b n D RH w hD (by unfold maxLen; omega) (by omega)).mono ?_; rintro e w' ⟨v, ss, rfl, hS, hrow, hnil, hb⟩))
  go_ret
  exact rose_of hl hm h1 h2 hS hrow hnil hb
theorem sortedG_nil_calls (w : World) : Calls Try.prog 48 #[.map none] w (Rose w []) := by
  refine (callsIn_wide (n := 6)).1 ?_
  have hfK : Fence.wide.fn 60 := trivial
  have hfS : Fence.wide.fn 59 := trivial
  refine callsIn_of_wp Try.func48 rfl trivial ?_ rfl
  simp only [Try.ntmps48, List.size_toArray, List.length_cons, List.length_nil, Nat.reduceAdd, Nat.reduceSub, Array.replicate_succ, Array.replicate_zero, List.push_toArray, List.append_toArray, List.nil_append, List.cons_append]
  gi_wp2_with (first
    | (gi_at_call 60; refine (Try.maps_Keys_60 _ _).mono ?_; rintro e w' ⟨rfl, rfl⟩)
    | (gi_at_call 59; refine (Try.slices_Sorted_keys_nil_59_60 w).mono ?_; rintro e w' ⟨v, ss, rfl, rfl, hrow, hnil, hb⟩))
  go_ret
  exact rose_of (f := fun _ => none) (ks := []) List.Pairwise.nil (fun s => by simp) List.nodup_nil (fun s => by simp) (List.Perm.refl _) hrow ⟨fun _ => rfl, fun _ => by first | exact hnil.2 trivial | exact hnil.2 rfl⟩ hb
set_option maxRecDepth 100000 in
set_option maxHeartbeats 1000000 in
theorem sortedB_calls {w : World} {b n : Nat} {f : ByteArray → Option Value} (hM : MapV w b n f) (hn : n ≤ 1000000) {l : List ByteArray} (hl : SS l) (hm : ∀ s, s ∈ l ↔ (f s).isSome = true) :
    Calls Try.prog 50 #[.map (some b)] w (Rose w l) := by
  obtain ⟨D, hD, h1, h2, h3, h4, h5⟩ := hM.keys
  refine (callsIn_wide (n := 6)).1 ?_
  have hfK : Fence.wide.fn 61 := trivial
  have hfS : Fence.wide.fn 59 := trivial
  refine callsIn_of_wp Try.func50 rfl trivial ?_ rfl
  simp only [Try.ntmps50, List.size_toArray, List.length_cons, List.length_nil, Nat.reduceAdd, Nat.reduceSub, Array.replicate_succ, Array.replicate_zero, List.push_toArray, List.append_toArray, List.nil_append, List.cons_append]
  gi_wp2_with (first
    | (gi_at_call 61; refine (Try.maps_Keys_61 _ _).mono ?_; rintro e w' ⟨rfl, rfl⟩)
    | (gi_at_call 59; refine (Try.slices_Sorted_keys_59_61 b n D RH w hD (by unfold maxLen; omega) (by omega)).mono ?_; rintro e w' ⟨v, ss, rfl, hS, hrow, hnil, hb⟩))
  go_ret
  exact rose_of hl hm h1 h2 hS hrow hnil hb
theorem sortedB_nil_calls (w : World) : Calls Try.prog 50 #[.map none] w (Rose w []) := by
  refine (callsIn_wide (n := 6)).1 ?_
  have hfK : Fence.wide.fn 61 := trivial
  have hfS : Fence.wide.fn 59 := trivial
  refine callsIn_of_wp Try.func50 rfl trivial ?_ rfl
  simp only [Try.ntmps50, List.size_toArray, List.length_cons, List.length_nil, Nat.reduceAdd, Nat.reduceSub, Array.replicate_succ, Array.replicate_zero, List.push_toArray, List.append_toArray, List.nil_append, List.cons_append]
  gi_wp2_with (first
    | (gi_at_call 61; refine (Try.maps_Keys_61 _ _).mono ?_; rintro e w' ⟨rfl, rfl⟩)
    | (gi_at_call 59; refine (Try.slices_Sorted_keys_nil_59_61 w).mono ?_; rintro e w' ⟨v, ss, rfl, rfl, hrow, hnil, hb⟩))
  go_ret
  exact rose_of (f := fun _ => none) (ks := []) List.Pairwise.nil (fun s => by simp) List.nodup_nil (fun s => by simp) (List.Perm.refl _) hrow ⟨fun _ => rfl, fun _ => by first | exact hnil.2 trivial | exact hnil.2 rfl⟩ hb
set_option maxRecDepth 100000 in
set_option maxHeartbeats 1000000 in
theorem sortedI_calls {w : World} {b n : Nat} {f : ByteArray → Option Value} (hM : MapV w b n f) (hn : n ≤ 1000000) {l : List ByteArray} (hl : SS l) (hm : ∀ s, s ∈ l ↔ (f s).isSome = true) :
    Calls Try.prog 51 #[.map (some b)] w (Rose w l) := by
  obtain ⟨D, hD, h1, h2, h3, h4, h5⟩ := hM.keys
  refine (callsIn_wide (n := 6)).1 ?_
  have hfK : Fence.wide.fn 62 := trivial
  have hfS : Fence.wide.fn 59 := trivial
  refine callsIn_of_wp Try.func51 rfl trivial ?_ rfl
  simp only [Try.ntmps51, List.size_toArray, List.length_cons, List.length_nil, Nat.reduceAdd, Nat.reduceSub, Array.replicate_succ, Array.replicate_zero, List.push_toArray, List.append_toArray, List.nil_append, List.cons_append]
  gi_wp2_with (first
    | (gi_at_call 62; refine (Try.maps_Keys_62 _ _).mono ?_; rintro e w' ⟨rfl, rfl⟩)
    | (gi_at_call 59; refine (Try.slices_Sorted_keys_59_62 b n D RH w hD (by unfold maxLen; omega) (by omega)).mono ?_; rintro e w' ⟨v, ss, rfl, hS, hrow, hnil, hb⟩))
  go_ret
  exact rose_of hl hm h1 h2 hS hrow hnil hb
theorem sortedI_nil_calls (w : World) : Calls Try.prog 51 #[.map none] w (Rose w []) := by
  refine (callsIn_wide (n := 6)).1 ?_
  have hfK : Fence.wide.fn 62 := trivial
  have hfS : Fence.wide.fn 59 := trivial
  refine callsIn_of_wp Try.func51 rfl trivial ?_ rfl
  simp only [Try.ntmps51, List.size_toArray, List.length_cons, List.length_nil, Nat.reduceAdd, Nat.reduceSub, Array.replicate_succ, Array.replicate_zero, List.push_toArray, List.append_toArray, List.nil_append, List.cons_append]
  gi_wp2_with (first
    | (gi_at_call 62; refine (Try.maps_Keys_62 _ _).mono ?_; rintro e w' ⟨rfl, rfl⟩)
    | (gi_at_call 59; refine (Try.slices_Sorted_keys_nil_59_62 w).mono ?_; rintro e w' ⟨v, ss, rfl, rfl, hrow, hnil, hb⟩))
  go_ret
  exact rose_of (f := fun _ => none) (ks := []) List.Pairwise.nil (fun s => by simp) List.nodup_nil (fun s => by simp) (List.Perm.refl _) hrow ⟨fun _ => rfl, fun _ => by first | exact hnil.2 trivial | exact hnil.2 rfl⟩ hb
end Go.Proofs.Ytmhbdgnajlnhnaa.P
/- m[s] = v in two steps, at a key that is not there: the entry is made, and filled. -/
namespace Go.Proofs.Ytmhbdgnajlnhnaa.P
open Go.RowKit Go.Maps Go.MapKept Go.ChangeMaps Go.WideElems
set_option linter.unusedVariables false
set_option linter.unusedSimpArgs false
theorem fresh_keys {w : World} {b : Nat} {D : DataW Value} {es : Array MapEntry} {clock : Nat} (hb : w.heap[b]? = some (.map es clock)) (F : Fit Try.prog 9 RH es clock) (hD : D = .map ((es.toList.map (Go.WideElems.rg Try.prog 9 RH)).foldr DataW.insert []))
    {s : ByteArray} (hs : s.size ≤ maxLen) (hh : Maps.has D (KB s) = false) : ∀ x ∈ es.toList, x.key ≠ .string s := by
  intro x hx e
  obtain ⟨y, hy⟩ := F.reads x hx
  have h1 := Go.WideElems.rd_key hy
  rw [e, keyKB hs] at h1
  injection h1 with h1
  have h2 : (Go.WideElems.rg Try.prog 9 RH x).1 = KB s := Eq.trans (congrArg Prod.fst (Go.WideElems.rg_of hy)) h1.symm
  have h3 : Go.WideElems.rg Try.prog 9 RH x ∈ (es.toList.map (Go.WideElems.rg Try.prog 9 RH)).foldr DataW.insert [] := (Go.WideShapes.sorted_perm _).mem_iff.2 (List.mem_map.2 ⟨x, hx, rfl⟩)
  have h4 : Maps.has D (KB s) = true := by
    rw [hD]
    exact List.any_eq_true.2 ⟨_, h3, by rw [h2]; exact WideAt.sameKey_self (by trivial)⟩
  rw [hh] at h4
  cases h4
/-- a map's block as it is, with an entry made, with the entry filled -/
structure Entry (w : World) (b n : Nat) (f : ByteArray → Option Value) (T : TypeId) (s : ByteArray) (z : Value) (es : Array MapEntry) (clock : Nat) : Prop where
  is : w.heap[b]? = some (.map es clock)
  make : ∀ W : World, W.heap[b]? = some (.map es clock) → (Instr.mapEntry T (.map (some b)) (.string s)).run Try.prog W = .ok (.tuple #[z, goInt clock]) (setBlock W b (.map (es.push ⟨.string s, z, clock⟩) (clock + 1)))
  fill : ∀ (W : World) (val : Value), W.heap[b]? = some (.map (es.push ⟨.string s, z, clock⟩) (clock + 1)) → (Instr.entryStore T (.map (some b)) (goInt clock) val).run Try.prog W = .ok () (setBlock W b (.map (es.push ⟨.string s, val, clock⟩) (clock + 1)))
  done : ∀ (W : World) (val : Value), W.heap[b]? = some (.map (es.push ⟨.string s, val, clock⟩) (clock + 1)) → MapV W b (n + 1) (upd f s (some val))
theorem setBlock_heap {w : World} {b : Nat} {o o' : Obj} (h : w.heap[b]? = some o') : (setBlock w b o).heap[b]? = some o := by
  obtain ⟨hlt, _⟩ := Array.getElem?_eq_some_iff.1 h
  show (w.heap.modify b (fun _ => o))[b]? = some o
  rw [Array.getElem?_eq_getElem (by rw [Array.size_modify]; exact hlt), Array.getElem_modify_self]
theorem MapV.entry {w : World} {b n : Nat} {f : ByteArray → Option Value} (h : MapV w b n f) {T e : TypeId} (ht : Try.prog.underlying T = some (.map 9 e)) (hn : n < maxLen) {s : ByteArray} (hs : s.size ≤ maxLen) (hf : f s = none) {z : Value} (hz : ∀ u : World, (zeroValue e).run Try.prog u = .ok z u) :
    ∃ es clock, Entry w b n f T s z es clock := by
  obtain ⟨D, hown, ha, hh⟩ := h.has
  obtain ⟨es, clock, hb, F, hsz, hD⟩ := hown
  have hfr := fresh_keys hb F hD hs (by rw [hh, hf]; rfl)
  have K := key9
  have hkey := keyKB hs
  have hk := fun (W : World) => (K.find W hkey es.toList (fun x hx => by obtain ⟨y, hy⟩ := F.reads x hx; exact ⟨_, Go.WideElems.rd_key hy⟩)).resolve_right (fun ⟨j, e0, _, h2, h3⟩ => hfr e0 (List.mem_of_getElem? h2) h3)
  obtain ⟨s1, s2, _⟩ := F.stamped
  refine ⟨es, clock, hb, fun W hW => ?_, fun W val hW => ?_, fun W val hW => ?_⟩
  · simp [Instr.mapEntry, run_underlying ht, MapKept.run_getObj_map hW, K.check W false hkey, (hk W).1, hz, MapKept.run_setObj_map _ hW, Result.andThen, setBlock]
  · have hidx : (es.push ⟨.string s, z, clock⟩).findIdx? (fun e => ((e.born : Nat) : Int) == ((clock : Nat) : Int)) = some es.size := by
      rw [findIdx_arr]
      have := findIdx_born (l := (es.push ⟨.string s, z, clock⟩).toList) (j := es.size) (e0 := ⟨.string s, z, clock⟩) (by
        simp only [Array.toList_push, List.map_append, List.map_cons, List.map_nil]
        refine List.nodup_append.2 ⟨s2, by simp, fun a ha c hc e1 => ?_⟩
        simp only [List.mem_singleton] at hc
        obtain ⟨x, hx, rfl⟩ := List.mem_map.1 ha
        have := s1 x hx
        omega) (by simp)
      exact this
    have hmod : (es.push ⟨.string s, z, clock⟩).modify es.size (fun e => { e with val := val }) = es.push ⟨.string s, val, clock⟩ := by
      apply Array.ext'
      rw [Array.toList_modify, Array.toList_push, Array.toList_push, ← Array.length_toList, modify_last]
    simp [Instr.entryStore, MapKept.run_getObj_map hW, asInt, asIntOf, goInt, hidx, hmod, MapKept.run_setObj_map _ hW, Result.andThen, setBlock]
  · obtain ⟨w', hr, hM, _, _⟩ := h.put ht hn hs val
    have hr2 : (Instr.mapUpdate T (.map (some b)) (.string s) val).run Try.prog w = .ok () (setBlock w b (.map (es.push ⟨.string s, val, clock⟩) (clock + 1))) := by
      simp [Instr.mapUpdate, run_underlying ht, MapKept.run_getObj_map hb, K.check w false hkey, (hk w).1, MapKept.run_setObj_map _ hb, Result.andThen, setBlock]
    rw [hr2] at hr
    injection hr with _ hr
    subst hr
    exact hM.step (hW.trans (setBlock_heap hb).symm)
end Go.Proofs.Ytmhbdgnajlnhnaa.P
/- A graph: what its memory holds; what only reads it. -/
namespace Go.Proofs.Ytmhbdgnajlnhnaa.P
open Go.RowKit Go.Maps Go.Proofs.YtmhbdgnajlnhnaaW.PrintWords Go.Proofs.YtmhbdgnajlnhnaaW.PrintLast Go.Proofs.YtmhbdgnajlnhnaaW.PrintMore Go.Proofs.Ytmhbdgnajlnhnaa.Pl
set_option linter.unusedVariables false
set_option linter.unusedSimpArgs false
/-- all but the blocks of ok is as it was -/
structure Turn (ok : Nat → Prop) (a b : World) : Prop where
  os : b.os = a.os
  tape : b.tape = a.tape
  output : b.output = a.output
  size : a.heap.size ≤ b.heap.size
  block : ∀ k, k < a.heap.size → ¬ ok k → b.heap[k]? = a.heap[k]?
theorem Turn.refl (ok : Nat → Prop) (a : World) : Turn ok a a := ⟨rfl, rfl, rfl, Nat.le_refl _, fun _ _ _ => rfl⟩
theorem Turn.trans {ok ok2 : Nat → Prop} {a b c : World} (h : Turn ok a b) (h2 : Turn ok2 b c) (hs : ∀ k, ok2 k → ok k ∨ a.heap.size ≤ k) : Turn ok a c :=
  ⟨h2.os.trans h.os, h2.tape.trans h.tape, h2.output.trans h.output, Nat.le_trans h.size h2.size, fun k hk hn => (h2.block k (by have := h.size; omega) (fun h' => by rcases hs k h' with h' | h'; exact hn h'; omega)).trans (h.block k hk hn)⟩
theorem Turn.more {ok ok2 : Nat → Prop} {a b : World} (h : Turn ok a b) (hs : ∀ k, ok k → ok2 k) : Turn ok2 a b := ⟨h.os, h.tape, h.output, h.size, fun k hk hn => h.block k hk (fun h' => hn (hs k h'))⟩
theorem Turn.of_below {ok : Nat → Prop} {a b : World} (h : Below a.heap.size a b) : Turn ok a b := ⟨h.os, h.tape, h.output, h.size, fun k hk _ => h.block k hk⟩
theorem Turn.below {ok : Nat → Prop} {a b : World} (h : Turn ok a b) {base : Nat} (hs : ∀ k, ok k → base ≤ k) (hb : base ≤ a.heap.size) : Below base a b :=
  ⟨h.os, h.tape, h.output, h.size, fun k hk => h.block k (by omega) (fun h' => by have := hs k h'; omega)⟩
theorem Turn.grown {ok : Nat → Prop} {a b : World} {row : Option Nat} (h : a.grownBy b row) (hs : ∀ k, row = some k → ok k) : Turn ok a b :=
  ⟨h.os, h.tape, h.output, h.size, fun k hk hn => h.block k hk (fun e => hn (hs k e.symm))⟩
theorem Turn.drewN {ok : Nat → Prop} {a b : World} (h : Turn ok a b) (n : Nat) : Turn ok a (b.drewN n) := ⟨h.os, h.tape, h.output, h.size, h.block⟩
theorem Turn.drew {ok : Nat → Prop} {a b : World} (h : Turn ok a b) : Turn ok a b.drew := ⟨h.os, h.tape, h.output, h.size, h.block⟩
theorem Turn.alloc {ok : Nat → Prop} {a b : World} (h : Turn ok a b) (o : Obj) : Turn ok a (b.alloc o) :=
  h.trans (ok2 := fun _ => False) (Turn.of_below ((Below.refl _ b).alloc (Nat.le_refl _) o)) (fun _ h => h.elim)
/-- what a block is to a graph -/
inductive Role where
  | none | self | outs | inns
  | o (s : ByteArray)
  | i (s : ByteArray)
/-- a map from names to sets of names -/
structure MM (w : World) (b : Nat) (ns : List ByteArray) (ob : ByteArray → Nat) (F : ByteArray → List ByteArray) : Prop where
  top : MapV w b ns.length (fun s => if hasB ns s = true then some (.map (some (ob s))) else none)
  sub : ∀ s, s ∈ ns → MapV w (ob s) (F s).length (fun t => if hasB (F s) t = true then some (.bool true) else none)
theorem MM.step {w w' : World} {b : Nat} {ns : List ByteArray} {ob : ByteArray → Nat} {F : ByteArray → List ByteArray} (h : MM w b ns ob F) (h1 : w'.heap[b]? = w.heap[b]?) (h2 : ∀ s, s ∈ ns → w'.heap[ob s]? = w.heap[ob s]?) : MM w' b ns ob F :=
  ⟨h.top.step h1, fun s hs => (h.sub s hs).step (h2 s hs)⟩
structure GMem (w : World) (base : Nat) (role : Nat → Role) (p : Nat) (G : GG) : Prop where
  blk : ∃ bo bi ob ib, w.heap[p]? = some (.cells #[.map (some bo), .map (some bi)] 70 (0, 0)) ∧ MM w bo G.ns ob G.out ∧ MM w bi G.ns ib G.inn ∧ role bo = .outs ∧ role bi = .inns ∧ ∀ s, s ∈ G.ns → role (ob s) = .o s ∧ role (ib s) = .i s
  self : role p = .self
  bound : ∀ k, role k ≠ .none → base ≤ k ∧ k < w.heap.size
  good : GOk G
  few : G.ns.length ≤ 100000
section
variable {w w' : World} {base p : Nat} {role : Nat → Role} {G : GG}
theorem GMem.keep (h : GMem w base role p G) (hk : ∀ k, role k ≠ .none → w'.heap[k]? = w.heap[k]?) (hs : w.heap.size ≤ w'.heap.size) : GMem w' base role p G := by
  obtain ⟨bo, bi, ob, ib, h1, h2, h3, h4, h5, h6⟩ := h.blk
  exact ⟨⟨bo, bi, ob, ib, (hk p (by rw [h.self]; simp)).trans h1, h2.step (hk bo (by rw [h4]; simp)) (fun s hs => hk _ (by rw [(h6 s hs).1]; simp)), h3.step (hk bi (by rw [h5]; simp)) (fun s hs => hk _ (by rw [(h6 s hs).2]; simp)), h4, h5, h6⟩,
    h.self, fun k hk' => ⟨(h.bound k hk').1, Nat.lt_of_lt_of_le (h.bound k hk').2 hs⟩, h.good, h.few⟩
theorem GMem.below (h : GMem w base role p G) (hb : Below w.heap.size w w') : GMem w' base role p G := h.keep (fun k hk => hb.block k (h.bound k hk).2) hb.size
theorem GMem.drewN (h : GMem w base role p G) (n : Nat) : GMem (w.drewN n) base role p G := h.below (pw_below_drewN (Below.refl _ _) n)
theorem blk_cell' {w : World} {g : Nat} {C : Array Value} {t : TypeId} (h : w.heap[g]? = some (.cells C t (0, 0))) (o : Nat) : w.cell? ⟨g, o, none⟩ = C[o]? := by simp [World.cell?, h]
/-- what the walks read of a graph's block -/
theorem GMem.cells (h : GMem w base role p G) : ∃ bo bi ob ib, w.cell? ⟨p, 0, none⟩ = some (.map (some bo)) ∧ w.cell? ⟨p, 1, none⟩ = some (.map (some bi)) ∧ MM w bo G.ns ob G.out ∧ MM w bi G.ns ib G.inn := by
  obtain ⟨bo, bi, ob, ib, h1, h2, h3, _⟩ := h.blk
  exact ⟨bo, bi, ob, ib, by rw [blk_cell' h1]; rfl, by rw [blk_cell' h1]; rfl, h2, h3⟩
theorem zero73 (w : World) : (zeroValue 73).run Try.prog w = .ok (.map none) w := by kernel_rfl
theorem zero4 (w : World) : (zeroValue 4).run Try.prog w = .ok (.bool false) w := by kernel_rfl
/-- m[s] of a map of sets -/
theorem MM.look {b : Nat} {ns : List ByteArray} {ob : ByteArray → Nat} {F : ByteArray → List ByteArray} (h : MM w b ns ob F) {s : ByteArray} (hs : s.size ≤ maxLen) :
    (Instr.lookup 68 (.map (some b)) (.string s) false).run Try.prog w = .ok (.map (if hasB ns s = true then some (ob s) else none)) w := by
  rw [h.top.look Try.underlying68 (zero73 w) hs]
  split <;> rfl
set_option maxRecDepth 100000 in
set_option maxHeartbeats 1000000 in
theorem has_calls (h : GMem w base role p G) (a : ByteArray) (ha : a.size ≤ maxLen) :
    Calls Try.prog 29 #[.pointer (some ⟨p, 0, none⟩), .string a] w fun e w' => e = .returned (.bool (hasB G.ns a)) ∧ w' = w := by
  obtain ⟨bo, bi, ob, ib, c0, c1, hO, hI⟩ := h.cells
  have hl := hO.look ha
  have hnil : ∀ (w : World) (r : Option Nat), (binOp .neq 73 (.map r) (.map none)).run Try.prog w = .ok (.bool (!r.isNone)) w := fun w r => run_neq_map_nil w _ _ _ r Try.underlying73
  cases hb : hasB G.ns a
  all_goals
    rw [hb] at hl
    clear hO hI h c1
    go_enter Try.func29, Try.ntmps29
    go_wp2_with fail
    go_ret
    exact ⟨rfl, rfl⟩
set_option maxRecDepth 100000 in
set_option maxHeartbeats 1000000 in
theorem names_calls (h : GMem w base role p G) : Calls Try.prog 22 #[.pointer (some ⟨p, 0, none⟩)] w (Rose w G.ns) := by
  obtain ⟨bo, bi, ob, ib, c0, c1, hO, hI⟩ := h.cells
  have hsr := sortedG_calls hO.top (by have := h.few; omega) h.good.rise (fun s => by rw [← hasB_iff]; cases hasB G.ns s <;> simp)
  clear hO hI h c1
  go_enter Try.func22, Try.ntmps22
  go_wp2_with fail
  refine hsr.mono ?_
  rintro e w1 ⟨v, rfl, h1, h2, h3⟩
  clear hsr
  have H := Aside0.mk (And.intro h1 (And.intro h2 h3))
  clear h1 h2 h3
  go_wp2_with fail
  go_ret
  exact ⟨v, rfl, H.out⟩
theorem out_len (h : GMem w base role p G) (s : ByteArray) : (G.out s).length ≤ 100000 := by
  have := List.Nodup.length_le_of_subset (ss_nodup (h.good.outs s)) (fun t ht => h.good.inside s t ht)
  have := h.few
  omega
theorem inn_len (h : GMem w base role p G) (s : ByteArray) : (G.inn s).length ≤ 100000 := by
  have : (G.inn s).length ≤ G.ns.length := List.length_filter_le _ _
  have := h.few
  omega
set_option maxRecDepth 100000 in
set_option maxHeartbeats 1000000 in
theorem out_calls (h : GMem w base role p G) (a : ByteArray) (ha : a.size ≤ maxLen) : Calls Try.prog 24 #[.pointer (some ⟨p, 0, none⟩), .string a] w (Rose w (G.out a)) := by
  obtain ⟨bo, bi, ob, ib, c0, c1, hO, hI⟩ := h.cells
  have hl := hO.look ha
  have hgo : ∀ {m : Option Nat}, (Instr.lookup 68 (.map (some bo)) (.string a) false).run Try.prog w = .ok (.map m) w → Calls Try.prog 50 #[.map m] w (Rose w (G.out a)) →
      Calls Try.prog 24 #[.pointer (some ⟨p, 0, none⟩), .string a] w (Rose w (G.out a)) := by
    intro m hl2 hsr
    clear hO hI h c1 hl
    go_enter Try.func24, Try.ntmps24
    go_wp2_with fail
    refine hsr.mono ?_
    rintro e w1 ⟨v, rfl, h1, h2, h3⟩
    clear hsr
    have H := Aside0.mk (And.intro h1 (And.intro h2 h3))
    clear h1 h2 h3
    go_wp2_with fail
    go_ret
    exact ⟨v, rfl, H.out⟩
  cases hb : hasB G.ns a with
  | true =>
    rw [hb] at hl
    exact hgo hl (sortedB_calls (hO.sub a (hasB_iff.1 hb)) (by have := out_len h a; omega) (h.good.outs a) (fun s => by rw [← hasB_iff]; cases hasB (G.out a) s <;> simp))
  | false =>
    rw [hb] at hl
    refine hgo hl ?_
    rw [h.good.none a (hasB_false.1 hb)]
    exact sortedB_nil_calls w
set_option maxRecDepth 100000 in
set_option maxHeartbeats 1000000 in
theorem in_calls (h : GMem w base role p G) (a : ByteArray) (ha : a.size ≤ maxLen) : Calls Try.prog 31 #[.pointer (some ⟨p, 0, none⟩), .string a] w (Rose w (G.inn a)) := by
  obtain ⟨bo, bi, ob, ib, c0, c1, hO, hI⟩ := h.cells
  have hl := hI.look ha
  have hgo : ∀ {m : Option Nat}, (Instr.lookup 68 (.map (some bi)) (.string a) false).run Try.prog w = .ok (.map m) w → Calls Try.prog 50 #[.map m] w (Rose w (G.inn a)) →
      Calls Try.prog 31 #[.pointer (some ⟨p, 0, none⟩), .string a] w (Rose w (G.inn a)) := by
    intro m hl2 hsr
    clear hO hI h c0 hl
    go_enter Try.func31, Try.ntmps31
    go_wp2_with fail
    refine hsr.mono ?_
    rintro e w1 ⟨v, rfl, h1, h2, h3⟩
    clear hsr
    have H := Aside0.mk (And.intro h1 (And.intro h2 h3))
    clear h1 h2 h3
    go_wp2_with fail
    go_ret
    exact ⟨v, rfl, H.out⟩
  cases hb : hasB G.ns a with
  | true =>
    rw [hb] at hl
    exact hgo hl (sortedB_calls (hI.sub a (hasB_iff.1 hb)) (by have := inn_len h a; omega) (GG.ss_inn h.good a) (fun s => by rw [← hasB_iff]; cases hasB (G.inn a) s <;> simp))
  | false =>
    rw [hb] at hl
    refine hgo hl ?_
    rw [GG.inn_none h.good (hasB_false.1 hb)]
    exact sortedB_nil_calls w
end
end Go.Proofs.Ytmhbdgnajlnhnaa.P
