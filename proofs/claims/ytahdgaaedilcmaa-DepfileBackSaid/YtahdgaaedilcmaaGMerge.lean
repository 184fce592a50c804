/- Folded: GOnce, GGrp, GMerge. -/
import Derived.Test.YtahdgaaedilcmaaGW
import Derived.Test.YtahdgaaedilcmaaPx0
import Derived.Test.YtahdgaaedilcmaaProg
import Derived.Maps.Own
import Derived.Maps.OwnSet
import Derived.Maps.Views
import Derived.StringKeys
import Derived.Carry
import Derived.BigQuiet
import Derived.Maps.GroupsBeside
import Derived.Deep.AppendLies
import Derived.Test.YtahdgaaedilcmaaGMem
/- once: what stands in a list, each thing once: a map of what was seen. -/
namespace Go.Proofs.Ytahdgaaedilcmaa.P
open Go.RowKit Go.Maps Go.Proofs.YtahdgaaedilcmaaW.PrintWords Go.Proofs.YtahdgaaedilcmaaW.PrintLast Go.Proofs.YtahdgaaedilcmaaW.PrintMore
set_option linter.unusedVariables false
set_option linter.unusedSimpArgs false

/-- does a text stand in a list? -/
def inS (S : List ByteArray) (x : ByteArray) : Bool := S.any fun y => y.data.toList == x.data.toList
theorem inS_snoc (S : List ByteArray) (x y : ByteArray) : inS (S ++ [x]) y = (inS S y || x.data.toList == y.data.toList) := by simp [inS]
/-- in the map at block b lie the texts of S -/
def Seen (w : World) (b : Nat) (S : List ByteArray) : Prop :=
  ∃ D : DataW Unit, w.ownsMap Try.prog 9 (plainElem Try.prog 4) b S.length D ∧ IsMap D ∧ ∀ x : ByteArray, D.atKey (.string x.data.toList) (.lit (.bool false)) = .lit (.bool (inS S x))
theorem Seen.made (w : World) : Seen (w.alloc (.map #[] 0)) w.heap.size [] :=
  ⟨.map [], World.ownsMap_made w _ _ _, isMap_empty, fun x => rfl⟩
theorem plain_bool_inv {P : Program} {e : TypeId} (he : P.underlying e = some .bool) {v : Value} {z : DataW Unit × List MemPlace} (h : plainElem P e v = some z) : ∃ x : Bool, v = .bool x ∧ z = (.lit (.bool x), []) := by
  unfold plainElem at h
  rw [he] at h
  cases v <;> simp at h
  exact ⟨_, rfl, h.symm⟩
theorem Seen.look {w : World} {b : Nat} {S : List ByteArray} (h : Seen w b S) (x : ByteArray) (hx : x.size ≤ maxLen) : (Instr.lookup 71 (.map (some b)) (.string x) false).run Try.prog w = .ok (.bool (inS S x)) w := by
  obtain ⟨D, hD, hm, hat⟩ := h
  obtain ⟨v, ps, hrun, hv⟩ := hD.lookup (t := 71) (string_keyed Try.underlying9) Try.underlying71 (z := .bool false) (by first | exact Try.zeroValue4 _ | rfl) (plainElem_bool Try.underlying4 false) (WideMaps.keyOf_string_mk Try.underlying9 hx)
  rw [hat x] at hv
  obtain ⟨y, rfl, hz⟩ := plain_bool_inv Try.underlying4 hv
  simp only [Prod.mk.injEq] at hz
  have hy : y = inS S x := (Lit.bool.inj (DataW.lit.inj hz.1)).symm
  rw [hy] at hrun
  exact hrun
theorem Seen.put {w w' : World} {b : Nat} {S : List ByteArray} {x : ByteArray} {D : DataW Unit} (hm : IsMap D) (hat : ∀ x : ByteArray, D.atKey (.string x.data.toList) (.lit (.bool false)) = .lit (.bool (inS S x)))
    (h : w'.ownsMap Try.prog 9 (plainElem Try.prog 4) b (S.length + 1) (D.put (.string x.data.toList) (.lit (.bool true)))) : Seen w' b (S ++ [x]) := by
  refine ⟨_, by rw [List.length_append, List.length_singleton]; exact h, hm.put _ _, fun y => ?_⟩
  rw [inS_snoc]
  by_cases hy : x.data.toList = y.data.toList
  · rw [← hy, atKey_put_same hm (by trivial)]
    simp
  · rw [atKey_put_other (fun e => hy (by injection e with e; exact e.symm)), hat y, show (x.data.toList == y.data.toList) = false from beq_eq_false_iff_ne.mpr hy, Bool.or_false]
theorem Seen.kept {w w' : World} {b : Nat} {S : List ByteArray} {row : Option Nat} (h : Seen w b S) (hg : w.grownBy w' row) (hne : some b ≠ row) : Seen w' b S := by
  obtain ⟨D, h1, h2, h3⟩ := h
  exact ⟨D, h1.kept hg hne, h2, h3⟩
def onceGo : List ByteArray → List ByteArray → List ByteArray
  | acc, [] => acc
  | acc, x :: t => if inS acc x = true then onceGo acc t else onceGo (acc ++ [x]) t
def depfile_once.f (l0 : List ByteArray) : Option (List ByteArray) := if l0.length ≤ 1000000 ∧ ∀ x ∈ l0, x.size ≤ 9223372036854775807 then some (onceGo [] l0) else none
/-- seen[x] = true -/
theorem put_event {w : World} {b : Nat} {S : List ByteArray} {x : ByteArray} {ops : Array Oper} {rest : List Oper} {o : Oper} {a : Act} {Q : Exit → Act → World → Prop} {m k v : Operand}
    (hgd : o.guard = none) (ho : o.op = .mapUpdate 71 m k v) (hm : a.eval m = .map (some b)) (hk : a.eval k = .string x) (hv : a.eval v = .bool true) (hS : Seen w b S) (hn : S.length < maxLen) (hx : x.size ≤ maxLen)
    (h : ∀ w', Seen w' b (S ++ [x]) → w.grownBy w' (some b) → wpList Try.prog ops Q rest (a.put o.dst undef) w') : wpList Try.prog ops Q (o :: rest) a w := by
  obtain ⟨D, hD, hmD, hat⟩ := hS
  exact wpList_mapUpdate_own (H := Unit) w hgd m k v 71 ho 9 4 (string_keyed Try.underlying9) Try.underlying71 (plainElem Try.prog 4) b S.length D hm hD hn (.string x) (.bool true) (.string x.data.toList) hk hv (WideMaps.keyOf_string_mk Try.underlying9 hx) (.lit (.bool true)) [] (plainElem_bool Try.underlying4 true)
    (fun w' h1 h2 => h w' (Seen.put (w := w) hmD hat h1) h2)
set_option maxHeartbeats 2000000 in
set_option maxRecDepth 1000000 in
theorem depfile_once.calls (A0 : Option Addr) (c0 : Nat) (l0 : List ByteArray) (r : List ByteArray) (w : World) (hr0 : Kd.C Kd.string w A0 l0.length l0) (hc0 : l0.length ≤ c0) (h : depfile_once.f l0 = some r) :
    Calls Try.prog 32 #[.slice A0 l0.length c0] w fun e w' => ∃ v0_ : Value, e = .returned v0_ ∧ Kd.R Kd.string 9 w' w.heap.size (fun _ => True) v0_ r ∧ Below w.heap.size w w' := by
  unfold depfile_once.f at h
  by_cases hb : l0.length ≤ 1000000 ∧ ∀ x ∈ l0, x.size ≤ 9223372036854775807
  case neg => rw [if_neg hb] at h; cases h
  rw [if_pos hb] at h
  have H := Aside0.mk (Option.some.inj h)
  have HZ := Aside0.mk hb.2
  have hlen := hb.1
  have HC := Aside0.mk hr0
  clear h hb hr0
  have hmm := fun (W : World) => @run_makeMap Try.prog 71 W
  go_enter Try.func32, Try.ntmps32
  go_wp2
  have hS0 := Seen.made w
  have hB0 : Below w.heap.size w (w.alloc (.map #[] 0)) := (Below.refl _ _).alloc (Nat.le_refl _) _
  go_loopg [3, 10] (l0.length + 1) (fun n v iv wr => ∃ (i : Nat) (out : List ByteArray), iv = .int .i64 (i : Int) ∧ Aside0 (i + n = l0.length + 1 ∧ out.length ≤ i) ∧ Aside0 (onceGo out (l0.drop i) = r) ∧ Aside0 (Below w.heap.size w wr ∧ w.heap.size < wr.heap.size) ∧ Aside0 (Seen wr w.heap.size out) ∧ Aside0 (Kd.R Kd.string 9 wr (w.heap.size + 1) (fun _ => True) v out))
  case atStart => exact ⟨0, [], rfl, ⟨by omega, Nat.le_refl _⟩, H, ⟨hB0, by simp⟩, ⟨hS0⟩, ⟨Kd.R_nil _ _ _ _ _⟩⟩
  case round =>
    obtain ⟨i, out, rfl, ⟨hn, ho⟩, HA, ⟨hB, hlt⟩, ⟨hS⟩, ⟨hR⟩⟩ := hrel
    clear hS0 hB0
    by_cases c1 : i < l0.length
    case neg =>
      have c1b : decide ((i : Int) < (l0.length : Int)) = false := decide_eq_false (by omega)
      have hfin : out = r := by rw [← HA.out, List.drop_of_length_le (by omega)]; rfl
      go_wp2
      go_ret
      exact ⟨_, rfl, hfin ▸ Kd.R_lower (Kd.R_mono hR (fun _ _ => trivial)) (Nat.le_succ _), hB⟩
    have c1b : decide ((i : Int) < (l0.length : Int)) = true := decide_eq_true (by omega)
    obtain ⟨ad, rfl, hcell⟩ := Kd.at_string (Kd.C_below HC.out hB) (i : Int) (Int.natCast_nonneg _) (by omega)
    rw [Int.toNat_natCast] at hcell
    have hx : rdOf ByteArray.empty l0 (i : Int) = l0[i] := by
      unfold rdOf; rw [Int.toNat_natCast, List.getD_eq_getElem?_getD, List.getElem?_eq_getElem c1]; rfl
    rw [hx] at hcell
    rw [List.drop_eq_getElem_cons c1] at HA
    have hxs : l0[i].size ≤ maxLen := HZ.out _ (List.getElem_mem c1)
    have hlook := hS.look l0[i] hxs
    by_cases c2 : inS out l0[i] = true
    case pos =>
      rw [c2] at hlook
      have hA : onceGo out (l0.drop (i + 1)) = r := by have h := HA.out; rw [onceGo, if_pos c2] at h; exact h
      go_wp2
      go_roundg (gk - 1)
      case measure => omega
      case rel => exact ⟨i + 1, out, by first | rfl | (rw [w64_ (by omega) (by omega)]; rfl) | simp, ⟨by omega, by omega⟩, ⟨hA⟩, ⟨hB, hlt⟩, ⟨hS⟩, ⟨hR⟩⟩
    case neg =>
      have c2 : inS out l0[i] = false := by simpa using c2
      rw [c2] at hlook
      have hA : onceGo (out ++ [l0[i]]) (l0.drop (i + 1)) = r := by have h := HA.out; rw [onceGo, if_neg (by rw [c2]; decide)] at h; exact h
      have hRb := Kd.R_bound hR
      have hne : ∀ k, u3.ownBlock = some k → w.heap.size + 1 ≤ k := fun k hk => (hRb.1 k hk).2.1
      have hbg : l0.length * 16 ≤ 16000000 := by omega
      have hRk : ∀ w1, wr.grownBy w1 (some w.heap.size) → Kd.R Kd.string 9 w1 (w.heap.size + 1) (fun _ => True) u3 out := fun w1 hg1 =>
        Kd.R_mono (Kd.R_grown hRb hg1 (fun k hk he => by have h1 := hk.2.1; injection he with he; omega)) (fun _ _ => trivial)
      have hlk : ∀ w1, wr.grownBy w1 (some w.heap.size) → w.heap.size + 1 ≤ w1.heap.size := fun w1 hg1 => Nat.le_trans hlt hg1.size
      go_wp2_with (first
        | (at_mapUpdate; refine put_event rfl rfl rfl rfl rfl hS (by unfold maxLen; omega) hxs ?_; intro w1 hS1 hg1)
        | ((with_reducible refine gate_builtin (b := .append) (xs := #[.tmp 20, .tmp 22]) rfl ?_); at_builtin; refine Kd.R_append Kd.string (w0 := w1) (W := w1) (w.heap.size + 1) rfl (.tmp 20) (.tmp 22) 30 9 (.string ⟨#[]⟩) 16 rfl Try.underlying30 info9 rfl (by decide) (by omega) u3 out l0[i] [.string l0[i]] (fun _ => True) (fun _ => False) rfl rfl rfl (fun _ hk => hk.elim) (fun _ _ => trivial) (hRk w1 hg1) (Below.refl _ _) (hlk w1 hg1) (by omega) ?_; intro v1 w2 h1 hbl hg hat))
      have hs1 := hg1.size
      have hB1 := pw_below_grown hB _ (Nat.le_of_lt hlt) hg1 (fun k hk => by injection hk with hk; omega)
      have hR2 := Kd.R_mono h1 (fun _ _ => (trivial : True))
      have hs2 := hg.size
      have hB2 := pw_below_grown hB1 _ (by omega) hg (fun k hk => by have := hne k hk; omega)
      have hS2 : Seen w2 w.heap.size (out ++ [l0[i]]) := hS1.kept hg (fun he => by have := hne _ he.symm; omega)
      go_wp2
      go_roundg (gk - 1)
      case measure => omega
      case rel => exact ⟨i + 1, out ++ [l0[i]], by first | rfl | (rw [w64_ (by omega) (by omega)]; rfl) | simp, ⟨by omega, by simp; omega⟩, ⟨hA⟩, ⟨hB2, by omega⟩, ⟨hS2⟩, ⟨hR2⟩⟩
end Go.Proofs.Ytahdgaaedilcmaa.P
/- A map of slices of texts: one row of texts for each name, no two in one row. -/
namespace Go.Proofs.Ytahdgaaedilcmaa.P
open Go.RowKit Go.Maps Go.WideElems Go.MapKept Go.Proofs.YtahdgaaedilcmaaW.PrintWords Go.Proofs.YtahdgaaedilcmaaW.PrintLast Go.Proofs.YtahdgaaedilcmaaW.PrintMore
open Go.ChangeMaps
set_option linter.unusedVariables false
set_option linter.unusedSimpArgs false
def RN : Value → Option (DataW Unit × List MemPlace) := fun _ => some (.nil, [])
def Grp (w : World) (b base : Nat) (ok : ByteArray → Nat → Prop) (g : ByteArray → List ByteArray) (n : Nat) : Prop :=
  ∃ es clock, w.heap[b]? = some (.map es clock) ∧ Fit Try.prog 9 RN es clock ∧ es.size ≤ n ∧
    (∀ x ∈ es.toList, ∃ s, x.key = .string s ∧ Kd.R Kd.string 9 w base (ok s) x.val (g s)) ∧ ∀ s, (∀ x ∈ es.toList, x.key ≠ .string s) → g s = []
theorem Grp.made (w : World) (base : Nat) (ok : ByteArray → Nat → Prop) : Grp (w.alloc (.map #[] 0)) w.heap.size base ok (fun _ => []) 0 :=
  ⟨#[], 0, (MapKept.heap_alloc w _).1, ⟨by simp, stamped_empty 0, by simp⟩, Nat.le_refl _, fun x hx => by simp at hx, fun _ _ => rfl⟩
/-- is there an entry of this key? -/
theorem fit_has {w : World} {b : Nat} {es : Array MapEntry} {clock : Nat} (hb : w.heap[b]? = some (.map es clock)) (F : Fit Try.prog 9 RN es clock) {key : Value} {kl : Lit} (hkey : keyOf Try.prog 9 key = some kl) :
    ((∀ x ∈ es.toList, x.key ≠ key) ∧ (DataW.map ((es.toList.map (rg Try.prog 9 RN)).foldr DataW.insert [])).atKey kl (.lit (.bool true)) = .lit (.bool true)) ∨
    ∃ e0, e0 ∈ es.toList ∧ e0.key = key ∧ (DataW.map ((es.toList.map (rg Try.prog 9 RN)).foldr DataW.insert [])).atKey kl (.lit (.bool true)) = .nil := by
  rcases Maps.fit_look false (string_keyed Try.underlying9) Try.underlying64 (z := .slice none 0 0) (w := w) (by first | exact Try.zeroValue30 _ | rfl) hb F hkey with ⟨_, hno, hat⟩ | ⟨e0, y, hm, hk, _, hy, hat, _⟩
  · exact .inl ⟨hno, hat _⟩
  · refine .inr ⟨e0, hm, hk, ?_⟩
    rw [hat]
    have := Option.some.inj hy
    rw [← this]
section
variable {w w1 : World} {b base n : Nat} {ok : ByteArray → Nat → Prop} {g : ByteArray → List ByteArray}
theorem Grp.step (h : Grp w b base ok g n) (hb : w1.heap[b]? = w.heap[b]?) (hm : ∀ s k, ok s k → k < w.heap.size → w1.heap[k]? = w.heap[k]?) : Grp w1 b base ok g n := by
  obtain ⟨es, clock, h1, F, h2, h3, h4⟩ := h
  exact ⟨es, clock, hb.trans h1, F, h2, fun x hx => by
    obtain ⟨s, e, hr⟩ := h3 x hx
    exact ⟨s, e, Kd.R_step hr (hm s)⟩, h4⟩
theorem Grp.lt (h : Grp w b base ok g n) : b < w.heap.size := by
  obtain ⟨es, clock, h1, _⟩ := h
  exact (Array.getElem?_eq_some_iff.1 h1).1
theorem Grp.below (h : Grp w b base ok g n) (hb : Below w.heap.size w w1) : Grp w1 b base ok g n := h.step (hb.block b h.lt) (fun _ k _ hk => hb.block k hk)
theorem Grp.kept {row : Option Nat} (h : Grp w b base ok g n) (hg : w.grownBy w1 row) (hb : some b ≠ row) (hk : ∀ s k, ok s k → some k ≠ row) : Grp w1 b base ok g n :=
  h.step (hg.block b h.lt hb) (fun s k h1 h2 => hg.block k h2 (hk s k h1))
theorem Grp.more (h : Grp w b base ok g n) {m : Nat} (hm : n ≤ m) : Grp w b base ok g m := by
  obtain ⟨es, clock, h1, F, h2, h3⟩ := h
  exact ⟨es, clock, h1, F, Nat.le_trans h2 hm, h3⟩
/-- m[s] -/
theorem Grp.look (h : Grp w b base ok g n) (s : ByteArray) (hs : s.size ≤ maxLen) : ∃ v, (Instr.lookup 64 (.map (some b)) (.string s) false).run Try.prog w = .ok v w ∧ Kd.R Kd.string 9 w base (ok s) v (g s) := by
  obtain ⟨es, clock, h1, F, h2, h3, h4⟩ := h
  rcases Maps.fit_look false (string_keyed Try.underlying9) Try.underlying64 (z := .slice none 0 0) (w := w) (by first | exact Try.zeroValue30 _ | rfl) h1 F (WideMaps.keyOf_string_mk Try.underlying9 hs) with ⟨hrun, hno, _⟩ | ⟨e0, y, hm, hk, hrun, _⟩
  · exact ⟨_, hrun, by rw [h4 s hno]; exact Kd.R_nil _ _ _ _ _⟩
  · obtain ⟨t, e, hr⟩ := h3 e0 hm
    rw [hk] at e
    injection e with e
    subst e
    exact ⟨_, hrun, hr⟩
/-- m[s] = v, the other rows being what they were -/
theorem Grp.put (h : Grp w b base ok g n) {s : ByteArray} {v : Value} {oks : Nat → Prop} {gs : List ByteArray} (hs : s.size ≤ maxLen) (hn : n < maxLen) (hbb : b < base) (hb : w1.heap[b]? = w.heap[b]?)
    (hm : ∀ t, t ≠ s → ∀ k, ok t k → k < w.heap.size → w1.heap[k]? = w.heap[k]?) (hv : Kd.R Kd.string 9 w1 base oks v gs) :
    ∃ w2, (Instr.mapUpdate 64 (.map (some b)) (.string s) v).run Try.prog w1 = .ok () w2 ∧ Grp w2 b base (fun t k => if t = s then oks k else ok t k) (fun t => if t = s then gs else g t) (n + 1) ∧ w1.grownBy w2 (some b) := by
  obtain ⟨es, clock, h1, F, h2, h3, h4⟩ := h
  have hb1 := hb.trans h1
  have hkey := WideMaps.keyOf_string_mk Try.underlying9 hs
  obtain ⟨es', clock', hrun, F', hput, _, _, hwho⟩ := Maps.fit_store (R' := RN) (val := v) (string_keyed Try.underlying9) Try.underlying64 hb1 F (Nat.lt_of_le_of_lt h2 hn) (fun _ _ _ _ hz => hz) hkey rfl
  have hg : w1.grownBy (setBlock w1 b (.map es' clock')) (some b) := ⟨rfl, rfl, rfl, by simp [setBlock], fun i _ hi => heap_setBlock_other hb1 _ (fun e => hi (by rw [e]))⟩
  have hR : ∀ {okx : Nat → Prop} {u : Value} {gx : List ByteArray}, Kd.R Kd.string 9 w1 base okx u gx → Kd.R Kd.string 9 (setBlock w1 b (.map es' clock')) base okx u gx := fun hx =>
    Kd.R_mono (Kd.R_grown (Kd.R_bound hx) hg (fun k hk he => by have := hk.2.1; injection he with he; omega)) (fun k hk => hk.1)
  have hsz : es'.size ≤ n + 1 := by
    have e1 : es'.size = ((es'.toList.map (rg Try.prog 9 RN)).foldr DataW.insert []).length := by rw [length_sorted]; simp
    rw [e1, hput]
    unfold putKey
    rw [length_insert]
    have e2 := List.length_filter_le (notKey (.string s.data.toList)) ((es.toList.map (rg Try.prog 9 RN)).foldr DataW.insert [])
    rw [length_sorted] at e2
    simp at e2
    omega
  have hput2 : (DataW.map ((es.toList.map (rg Try.prog 9 RN)).foldr DataW.insert [])).put (.string s.data.toList) .nil = DataW.map ((es'.toList.map (rg Try.prog 9 RN)).foldr DataW.insert []) := by rw [DataW.put_eq, hput]
  refine ⟨_, hrun, ⟨es', clock', heap_setBlock_same hb1 _, F', hsz, fun x hx => ?_, fun t ht => ?_⟩, hg⟩
  · rcases hwho x hx with ⟨hx0, hne⟩ | ⟨hk, hval⟩
    · obtain ⟨t, e, hr⟩ := h3 x hx0
      have hts : t ≠ s := fun he => hne (by rw [e, he])
      refine ⟨t, e, ?_⟩
      have e1 : (fun k => if t = s then oks k else ok t k) = ok t := by funext k; rw [if_neg hts]
      show Kd.R Kd.string 9 _ base (fun k => if t = s then oks k else ok t k) x.val (if t = s then gs else g t)
      rw [e1, if_neg hts]
      exact hR (Kd.R_step hr (hm t hts))
    · refine ⟨s, hk, ?_⟩
      have e1 : (fun k => if s = s then oks k else ok s k) = oks := by funext k; rw [if_pos rfl]
      show Kd.R Kd.string 9 _ base (fun k => if s = s then oks k else ok s k) x.val (if s = s then gs else g s)
      rw [e1, if_pos rfl, hval]
      exact hR hv
  · by_cases hts : t = s
    · exfalso
      subst hts
      rcases fit_has (heap_setBlock_same hb1 _) F' hkey with ⟨_, hat⟩ | ⟨e0, hm0, hk, _⟩
      · rw [← hput2, atKey_put_same ⟨_, rfl⟩ (by trivial)] at hat
        exact absurd hat (by simp)
      · exact ht e0 hm0 hk
    · show (if t = s then gs else g t) = []
      rw [if_neg hts]
      refine h4 t (fun x hx hk => ?_)
      obtain ⟨l, hl⟩ := F.keys x hx
      rw [hk] at hl
      have hls : l ≠ .string s.data.toList := fun e => hts (by have := (string_keyed Try.underlying9).inj (e ▸ hl) hkey; injection this)
      rcases fit_has (heap_setBlock_same hb1 (.map es' clock')) F' hl with ⟨_, hat⟩ | ⟨e0, hm0, hk0, _⟩
      · rw [← hput2, atKey_put_other hls] at hat
        rcases fit_has hb1 F hl with ⟨hno, _⟩ | ⟨_, _, _, hat2⟩
        · exact hno x hx hk
        · rw [hat2] at hat
          exact absurd hat (by simp)
      · exact ht e0 hm0 hk0
end
end Go.Proofs.Ytahdgaaedilcmaa.P
/- depfile.Merge: one rule for each target: the walk. -/
namespace Go.Proofs.Ytahdgaaedilcmaa.P
open Go.RowKit Go.Maps Go.Proofs.YtahdgaaedilcmaaW.PrintWords Go.Proofs.YtahdgaaedilcmaaW.PrintLast Go.Proofs.YtahdgaaedilcmaaW.PrintMore
set_option linter.unusedVariables false
set_option linter.unusedSimpArgs false
def depsOf (l : List S32) (s : ByteArray) : List ByteArray := l.flatMap fun r => if r.f0 = s then r.f1 else []
def mergeL (l : List S32) : List S32 := (onceGo [] (l.map (·.f0))).map fun n => ⟨n, onceGo [] (depsOf l n)⟩
/-- within what is played here -/
def Small (l : List S32) : Prop := l.length ≤ 1000000 ∧ (l.map (·.f1.length)).sum ≤ 1000000 ∧ ∀ r ∈ l, r.f0.size ≤ 9223372036854775807 ∧ ∀ d ∈ r.f1, d.size ≤ 9223372036854775807
theorem depsOf_snoc (l : List S32) (r : S32) (s : ByteArray) : depsOf (l ++ [r]) s = if r.f0 = s then depsOf l s ++ r.f1 else depsOf l s := by
  unfold depsOf
  rw [List.flatMap_append]
  by_cases h : r.f0 = s <;> simp [h]
theorem depsOf_len (l : List S32) (s : ByteArray) : (depsOf l s).length ≤ (l.map (·.f1.length)).sum := by
  induction l with
  | nil => simp [depsOf]
  | cons r l ih =>
    unfold depsOf at ih ⊢
    rw [List.flatMap_cons, List.length_append, List.map_cons, List.sum_cons]
    have : (if r.f0 = s then r.f1 else []).length ≤ r.f1.length := by split <;> simp
    omega
theorem sum_take (l : List S32) (i : Nat) : ((l.take i).map (·.f1.length)).sum ≤ (l.map (·.f1.length)).sum := by
  have h : l.map (·.f1.length) = (l.take i).map (·.f1.length) ++ (l.drop i).map (·.f1.length) := by rw [← List.map_append, List.take_append_drop]
  rw [h, List.sum_append]; omega
theorem depsOf_sizes {l : List S32} (h : ∀ r ∈ l, r.f0.size ≤ 9223372036854775807 ∧ ∀ d ∈ r.f1, d.size ≤ 9223372036854775807) (s : ByteArray) : ∀ d ∈ depsOf l s, d.size ≤ 9223372036854775807 := by
  intro d hd
  obtain ⟨r, hr, hd⟩ := List.mem_flatMap.1 hd
  split at hd
  · exact (h r hr).2 d hd
  · cases hd
theorem onceGo_len (l : List ByteArray) : ∀ acc, (onceGo acc l).length ≤ acc.length + l.length := by
  induction l with
  | nil => intro acc; simp [onceGo]
  | cons x l ih =>
    intro acc
    rw [onceGo]
    split
    · have := ih acc; simp; omega
    · have := ih (acc ++ [x]); simp at this ⊢; omega
theorem onceGo_mem (l : List ByteArray) : ∀ acc x, x ∈ onceGo acc l → x ∈ acc ∨ x ∈ l := by
  induction l with
  | nil => intro acc x h; exact .inl h
  | cons y l ih =>
    intro acc x h
    rw [onceGo] at h
    split at h
    · rcases ih _ _ h with h | h
      · exact .inl h
      · exact .inr (List.mem_cons_of_mem _ h)
    · rcases ih _ _ h with h | h
      · rcases List.mem_append.1 h with h | h
        · exact .inl h
        · exact .inr (by simp at h; simp [h])
      · exact .inr (List.mem_cons_of_mem _ h)
/-- Behind the names' list a map of rows; names and rows lie apart. -/
def MMem (w : World) (i : Nat) (l : List S32) (vN : Value) (wr : World) : Prop :=
  Below w.heap.size w wr ∧ ∃ ok okN, Grp wr w.heap.size (w.heap.size + 1) ok (depsOf (l.take i)) i ∧ Kd.R Kd.string 9 wr (w.heap.size + 1) okN vN ((l.take i).map (·.f0)) ∧
    (∀ s k, ok s k → w.heap.size + 1 ≤ k ∧ k < wr.heap.size ∧ ¬ okN k) ∧ (∀ k, okN k → w.heap.size + 1 ≤ k ∧ k < wr.heap.size) ∧ ∀ s t k, ok s k → ok t k → s = t
theorem MMem.start (w : World) (l : List S32) : MMem w 0 l (.slice none 0 0) (w.alloc (.map #[] 0)) := by
  refine ⟨(Below.refl _ _).alloc (Nat.le_refl _) _, fun _ _ => False, fun _ => False, ?_, Kd.R_nil _ _ _ _ _, fun _ _ h => h.elim, fun _ h => h.elim, fun _ _ _ h => h.elim⟩
  have e : depsOf (l.take 0) = fun _ => [] := by funext s; simp [depsOf]
  rw [e]
  exact Grp.made w (w.heap.size + 1) (fun _ _ => False)
/-- append(l, x) of one text, the next block's number said otherwise -/
theorem texts_push {W : World} {n base : Nat} (hn : W.heap.size = n) {s y : Operand} {v : Value} {xs : List ByteArray} {x : ByteArray} {ok : Nat → Prop} {ops : Array Oper} {rest : List Oper} {o : Oper} {a : Act} {Q : Exit → Act → World → Prop}
    (hgd : o.guard = none) (ho : o.op = .call { callee := .builtin .append, args := #[s, y], argTypes := #[30, 30] }) (hs : a.eval s = v) (hy : a.eval y = .slice (some ⟨n, 0, none⟩) 1 1)
    (hR : Kd.R Kd.string 9 W base ok v xs) (hbase : base ≤ W.heap.size) (hl : (xs.length + 1) * 16 ≤ 140737488355328)
    (h : ∀ v1 w1, Kd.R Kd.string 9 w1 base (fun k => ok k ∨ W.heap.size ≤ k) v1 (xs ++ [x]) → W.grownBy w1 v.ownBlock → wpList Try.prog ops Q rest (a.put o.dst v1) w1) : wpList Try.prog ops Q (o :: rest) a (W.alloc (.cells #[.string x] 9)) := by
  subst hn
  exact Kd.R_append Kd.string (w0 := W) (W := W) base hgd s y 30 9 (.string ⟨#[]⟩) 16 ho Try.underlying30 info9 rfl (by decide) (by omega) v xs x [.string x] (fun k => ok k ∨ W.heap.size ≤ k) (fun _ => False) hs hy rfl (fun _ hk => hk.elim) (fun _ hk => .inr hk)
    (Kd.R_mono hR (fun _ hk => .inl hk)) (Below.refl _ _) hbase hl (fun v1 w1 h1 _ hg _ => h v1 w1 h1 hg)
/-- append(l, m...) of texts, in a region that draws -/
theorem mapp_event {W : World} {base m c : Nat} {A : Option Addr} {v : Value} {xs ys : List ByteArray} {ok : Nat → Prop} {ops : Array Oper} {o : Oper} {a : Act} {Q : Exit → Act → World → Prop} {Kc : Act → World → Prop} {E : Prop}
    (hgd : o.guard = none) (ho : o.op = .call { callee := .builtin .append, args := #[.tmp 28, .tmp 30], argTypes := #[30, 30] }) (hs : a.eval (.tmp 28) = v) (hx : a.eval (.tmp 30) = .slice A m c)
    (hR : Kd.R Kd.string 9 W base ok v xs) (hC : Kd.string.C W A m ys) (hbase : base ≤ W.heap.size) (hl : (xs.length + m) * 16 ≤ 140737488355328)
    (h : ∀ v1 w1, Kd.R Kd.string 9 w1 base (fun k => ok k ∨ W.heap.size ≤ k) v1 (xs ++ ys) → W.grownBy w1 v.ownBlock → Kc (a.put o.dst v1) w1) :
    if Region.wanted o (yielded ops a.tmps) = true then Oper.wp Try.prog o a W Kc Q else E := by
  have hw : Region.wanted o (yielded ops a.tmps) = true := by simp [Region.wanted, hgd]
  have key := Kd.R_append_rows_step (P := Try.prog) (ops := ops) (o := o) (a := a) (Q := Q) (Kc := Kc) Kd.string (Rr := Kd.string.K W) (w0 := W) (W := W) base hw (.tmp 28) (.tmp 30) 30 9 (.string ⟨#[]⟩) 16 ho Try.underlying30 info9 rfl (by decide) (by omega)
    v xs ys A m c (fun k => ok k ∨ W.heap.size ≤ k) (fun _ => False) hs hx (Kd.R_mono hR (fun _ hk => .inl hk)) hC (fun x cs hc => hc) (fun _ hk => hk.elim) (fun k hk => .inr hk) (Below.refl _ _) hbase hl
    (fun v1 w1 h1 hbl hg hat => h v1 w1 h1 hg)
  rw [if_pos hw] at key ⊢
  exact key
/-- m[k] = v, in a region that draws -/
theorem mput_event {W w2 : World} {b : Nat} {s : ByteArray} {v : Value} {ops : Array Oper} {o : Oper} {a : Act} {Q : Exit → Act → World → Prop} {Kc : Act → World → Prop} {E : Prop} {x y z : Operand}
    (hgd : o.guard = none) (ho : o.op = .mapUpdate 64 x y z) (hx : a.eval x = .map (some b)) (hy : a.eval y = .string s) (hz : a.eval z = v)
    (hrun : (Instr.mapUpdate 64 (.map (some b)) (.string s) v).run Try.prog W = .ok () w2) (h : Kc (a.put o.dst undef) w2) : if Region.wanted o (yielded ops a.tmps) = true then Oper.wp Try.prog o a W Kc Q else E := by
  have hw : Region.wanted o (yielded ops a.tmps) = true := by simp [Region.wanted, hgd]
  rw [if_pos hw]
  unfold Oper.wp
  simp [execOp, ho, hx, hy, hz, hrun, Result.andThen]
  exact h
theorem Grp.bound {w : World} {b base n : Nat} {ok : ByteArray → Nat → Prop} {g : ByteArray → List ByteArray} (h : Grp w b base ok g n) : Grp w b base (fun s k => ok s k ∧ base ≤ k ∧ k < w.heap.size) g n := by
  obtain ⟨es, clock, h1, F, h2, h3, h4⟩ := h
  exact ⟨es, clock, h1, F, h2, fun x hx => by
    obtain ⟨s, e, hr⟩ := h3 x hx
    exact ⟨s, e, Kd.R_mono (Kd.R_bound hr) (fun k hk => ⟨hk.1, hk.2.1, hk.2.2.1⟩)⟩, h4⟩
set_option maxHeartbeats 4000000 in
set_option maxRecDepth 1000000 in
theorem depfile_Merge.calls (A0 : Option Addr) (c0 : Nat) (l0 : List S32) (w : World) (hr0 : Kd.C k32 w A0 l0.length l0) (hc0 : l0.length ≤ c0) (h : Small l0) :
    Calls Try.prog 17 #[.slice A0 l0.length c0] w fun e w' => ∃ v0_ : Value, e = .returned v0_ ∧ Kd.S k32 32 w' w.heap.size (fun _ => True) v0_ (mergeL l0) ∧ Below w.heap.size w w' := by
  have HS := Aside0.mk h
  have HC := Aside0.mk hr0
  have hlen := h.1
  clear h hr0
  have hmm := fun (W : World) => @run_makeMap Try.prog 64 W
  go_enter Try.func17, Try.ntmps17
  go_wp2
  have hM0 := MMem.start w l0
  go_loopg [3, 13] (l0.length + 1) (fun n vN iv wr => ∃ i : Nat, iv = .int .i64 (i : Int) ∧ Aside0 (i + n = l0.length + 1) ∧ Aside0 (MMem w i l0 vN wr))
  case atStart => exact ⟨0, rfl, ⟨by omega⟩, ⟨hM0⟩⟩
  case round =>
    obtain ⟨i, rfl, ⟨hn⟩, ⟨hM⟩⟩ := hrel
    clear hM0
    by_cases c1 : i < l0.length
    case neg =>
      have c1b : decide ((i : Int) < (l0.length : Int)) = false := decide_eq_false (by omega)
      obtain ⟨hB, ok, okN, hG, hN, hk, hkN, hd⟩ := hM
      rw [List.take_of_length_le (by omega)] at hG hN
      obtain ⟨AN, cN, rfl, hcN, hCN⟩ := Kd.R_reads hN
      have hq : depfile_once.f (l0.map (·.f0)) = some (onceGo [] (l0.map (·.f0))) := by
        unfold depfile_once.f
        rw [if_pos ⟨by simpa using hlen, fun x hx => by obtain ⟨r, hr, rfl⟩ := List.mem_map.1 hx; exact (HS.out.2.2 r hr).1⟩]
      obtain ⟨Q, hQe⟩ : ∃ Q, onceGo [] (l0.map (·.f0)) = Q := ⟨_, rfl⟩
      have hQl : Q.length ≤ 1000000 := by have := onceGo_len (l0.map (·.f0)) []; rw [hQe] at this; simp at this; omega
      have hQs : ∀ x ∈ Q, x.size ≤ maxLen := fun x hx => by
        rw [← hQe] at hx
        rcases onceGo_mem _ _ _ hx with h | h
        · cases h
        · obtain ⟨r, hr, rfl⟩ := List.mem_map.1 h; exact (HS.out.2.2 r hr).1
      rw [hQe] at hq
      have HQ := Aside0.mk hQs
      have hml : mergeL l0 = Q.map fun n => ⟨n, onceGo [] (depsOf l0 n)⟩ := by rw [← hQe]; rfl
      obtain ⟨nm, hnm⟩ : ∃ nm, l0.map (·.f0) = nm := ⟨_, rfl⟩
      rw [hnm] at hCN hcN hq hN
      try rw [hnm]
      have HE := Aside0.mk hml
      clear hQs hQe hml hnm
      go_wp2_with fail
      refine (depfile_once.calls AN cN nm Q _ hCN hcN hq).mono ?_
      rintro e w1 ⟨vQ, rfl, hQ, hb1⟩
      have hG1 := Aside0.mk (hG.below hb1)
      have hs1 := hb1.size
      have hB1 := below_then hB hB.size hb1
      obtain ⟨AQ, cQ, rfl, hcQ, hCQ⟩ := Kd.R_reads hQ
      have HCQ := Aside0.mk hCQ
      clear hG hN hk hkN hd hCN hq hQ hCQ hB
      have hS0 : Kd.S k32 32 w1 w1.heap.size (fun _ => True) (.slice none 0 0) ((Q.take 0).map fun n => (⟨n, onceGo [] (depsOf l0 n)⟩ : S32)) := by rw [List.take_zero, List.map_nil]; exact Kd.S_nil _ _ _ _ _
      have hb0 := Below.refl w1.heap.size w1
      go_wp2_with fail
      go_loopg [7, 36] (Q.length + 1) (fun n vO iv wr2 => ∃ i : Nat, iv = .int .i64 (i : Int) ∧ Aside0 (i + n = Q.length + 1) ∧ Aside0 (Below w1.heap.size w1 wr2) ∧ Aside0 (Kd.S k32 32 wr2 w1.heap.size (fun _ => True) vO ((Q.take i).map fun n => ⟨n, onceGo [] (depsOf l0 n)⟩)))
      case atStart => exact ⟨0, rfl, ⟨Nat.zero_add _⟩, ⟨hb0⟩, ⟨hS0⟩⟩
      case round =>
        obtain ⟨i2, rfl, ⟨hn2⟩, ⟨hb2⟩, ⟨hS⟩⟩ := hrel
        clear hS0 hb0
        by_cases c2 : i2 < Q.length
        case neg =>
          have c2b : decide ((i2 : Int) < (Q.length : Int)) = false := decide_eq_false (by omega)
          rw [List.take_of_length_le (by omega), ← HE.out] at hS
          go_wp2
          go_ret
          exact ⟨_, rfl, Kd.S_lower hS hB1.size, below_then hB1 hB1.size hb2⟩
        have c2b : decide ((i2 : Int) < (Q.length : Int)) = true := decide_eq_true (by omega)
        obtain ⟨adQ, rfl, hcell⟩ := Kd.at_string (Kd.C_below HCQ.out hb2) (i2 : Int) (Int.natCast_nonneg _) (by omega)
        rw [Int.toNat_natCast] at hcell
        have hx : rdOf ByteArray.empty Q (i2 : Int) = Q[i2] := by
          unfold rdOf; rw [Int.toNat_natCast, List.getD_eq_getElem?_getD, List.getElem?_eq_getElem c2]; rfl
        rw [hx] at hcell
        have htk : (Q.take (i2 + 1)).map (fun n => (⟨n, onceGo [] (depsOf l0 n)⟩ : S32)) = (Q.take i2).map (fun n => ⟨n, onceGo [] (depsOf l0 n)⟩) ++ [⟨Q[i2], onceGo [] (depsOf l0 Q[i2])⟩] := by
          rw [List.take_succ_eq_append_getElem c2, List.map_append]; rfl
        have hol : ((Q.take i2).map (fun n => (⟨n, onceGo [] (depsOf l0 n)⟩ : S32))).length = i2 := by simp; omega
        obtain ⟨outs, hou⟩ : ∃ outs, (Q.take i2).map (fun n => (⟨n, onceGo [] (depsOf l0 n)⟩ : S32)) = outs := ⟨_, rfl⟩
        rw [hou] at hS htk hol
        have hqs := HQ.out Q[i2] (List.getElem_mem c2)
        obtain ⟨q, hqe⟩ : ∃ q, Q[i2] = q := ⟨_, rfl⟩
        rw [hqe] at hcell htk hqs
        clear hx hou hqe
        obtain ⟨vD, hlook, hRD⟩ := (hG1.out.below hb2).look q hqs
        obtain ⟨AD, cD, rfl, hcD, hCD⟩ := Kd.R_reads hRD
        have ho : depfile_once.f (depsOf l0 q) = some (onceGo [] (depsOf l0 q)) := by
          unfold depfile_once.f
          rw [if_pos ⟨Nat.le_trans (depsOf_len l0 q) HS.out.2.1, depsOf_sizes HS.out.2.2 q⟩]
        obtain ⟨D, hD⟩ : ∃ D, depsOf l0 q = D := ⟨_, rfl⟩
        rw [hD] at ho hlook hRD hcD hCD htk
        try rw [hD]
        obtain ⟨E, hE⟩ : ∃ E, onceGo [] D = E := ⟨_, rfl⟩
        rw [hE] at ho htk
        have HTK := Aside0.mk htk
        clear hRD hD hE htk
        have hSb := Kd.S_bound hS
        go_wp2_with fail
        refine (depfile_once.calls AD cD D E _ hCD hcD ho).mono ?_
        rintro e w3 ⟨v5, rfl, hR5, hb3⟩
        obtain ⟨A5, c5, rfl⟩ := Kd.R_slice hR5
        have hs3 := hb3.size
        have hs2 := hb2.size
        have hb23 := below_then hb2 hs2 hb3
        go_wp2_with (first | ((with_reducible refine gate_builtin (b := .append) (xs := #[.tmp 40, .tmp 47]) rfl ?_); at_builtin; refine Kd.S_append k32 (w0 := w1) (W := w3) w1.heap.size rfl (.tmp 40) (.tmp 47) 23 32 (.agg #[.string ⟨#[]⟩, .slice none 0 0]) 40 rfl Try.underlying23 info32 rfl (by decide) (by omega) u7 outs ⟨q, E⟩ [.string q, .slice A5 E.length c5] (fun _ => True) (fun k => wr.heap.size ≤ k) rfl rfl ?aP ?aN (fun _ _ => trivial) ?aO hb23 (Nat.le_trans hs2 hs3) (by omega) ?_; (case aP => exact k32_mkM _ _ _ ⟨q, E⟩ (Kd.R_lower (Kd.R_mono (Kd.R_bound hR5) (fun k hk => hk.2.1)) hs2)); (case aN => exact fun k hk => ⟨trivial, fun he => by have := ((Kd.S_R hSb).1 k he.symm).2.2.1; omega⟩); (case aO => exact Kd.S_mono (Kd.S_below hSb hb3) (fun k hk => ⟨trivial, by have := hk.2.2.1; omega⟩)); intro v6 w4 h4 hb4 hg4 hat4))
        go_wp2
        go_roundg (gk - 1)
        case measure => omega
        case rel => exact ⟨i2 + 1, by first | rfl | (rw [w64_ (by omega) (by omega)]; rfl) | simp, ⟨by omega⟩, ⟨hb4⟩, ⟨by rw [HTK.out]; exact h4⟩⟩
    have c1b : decide ((i : Int) < (l0.length : Int)) = true := decide_eq_true (by omega)
    obtain ⟨hB, ok, okN, hG, hN, hk, hkN, hd⟩ := hM
    obtain ⟨adr, A1, c1', rfl, hx0, hx1, hl1, hC1⟩ := at_T32 HC.out (i : Int) (Int.natCast_nonneg _) (by omega)
    have hrd : rd_T32 l0 (i : Int) = l0[i] := by
      unfold rd_T32; rw [Int.toNat_natCast, List.getD_eq_getElem?_getD, List.getElem?_eq_getElem c1]; rfl
    rw [hrd] at hx0 hx1 hl1 hC1
    rw [Int.toNat_natCast] at hx0 hx1
    have hrs := HS.out.2.2 _ (List.getElem_mem c1)
    have hdl : (depsOf (l0.take i) l0[i].f0).length + l0[i].f1.length ≤ 1000000 := by
      have h1 := depsOf_len (l0.take i) l0[i].f0
      have h2 := sum_take l0 (i + 1)
      rw [List.take_succ_eq_append_getElem c1, List.map_append, List.sum_append, List.map_singleton, List.sum_singleton] at h2
      have h3 := HS.out.2.1
      omega
    have hnl : ((l0.take i).map (·.f0)).length = i := by simp; omega
    have hnx : (l0.take (i + 1)).map (·.f0) = (l0.take i).map (·.f0) ++ [l0[i].f0] := by rw [List.take_succ_eq_append_getElem c1, List.map_append]; rfl
    have hdx : depsOf (l0.take (i + 1)) = fun t => if t = l0[i].f0 then depsOf (l0.take i) l0[i].f0 ++ l0[i].f1 else depsOf (l0.take i) t := by
      funext t
      rw [List.take_succ_eq_append_getElem c1, depsOf_snoc]
      by_cases h : l0[i].f0 = t
      · rw [if_pos h, if_pos h.symm, h]
      · rw [if_neg h, if_neg (fun e => h e.symm)]
    obtain ⟨r, hr⟩ : ∃ r, l0[i] = r := ⟨_, rfl⟩
    obtain ⟨nm, hnm⟩ : ∃ nm, (l0.take i).map (·.f0) = nm := ⟨_, rfl⟩
    obtain ⟨gi, hgi⟩ : ∃ gi, depsOf (l0.take i) = gi := ⟨_, rfl⟩
    rw [hr] at hx0 hx1 hl1 hC1 hrs hdl hnx hdx
    rw [hnm] at hN hnl hnx
    rw [hgi] at hG hdl hdx
    have HNX := Aside0.mk hnx
    have HDX := Aside0.mk hdx
    clear hrd hr hnm hgi hnx hdx
    have hy0 : wr.cell? (adr.add (i * 2)) = some (.string r.f0) := (hB.cell (World.block_lt_of_cell? _ _ hx0)).trans hx0
    have hy1 : wr.cell? ⟨(adr.add (i * 2)).block, (adr.add (i * 2)).off + 1, none⟩ = some (.slice A1 r.f1.length c1') := (hB.cell (World.block_lt_of_cell? _ _ hx1)).trans hx1
    obtain ⟨W1, hW1⟩ : ∃ W1, W1 = wr.alloc (.cells #[.string r.f0, .slice A1 r.f1.length c1'] 32) := ⟨_, rfl⟩
    have hs1 : W1.heap.size = wr.heap.size + 1 := by rw [hW1]; simp
    have hb1 : Below wr.heap.size wr W1 := by rw [hW1]; exact (Below.refl _ _).alloc (Nat.le_refl _) _
    have hz0 : W1.cell? ⟨wr.heap.size, 0, none⟩ = some (.string r.f0) := by rw [hW1]; exact blk_cell (blk_new wr _) 0
    have hz1 : W1.cell? ⟨wr.heap.size, 1, none⟩ = some (.slice A1 r.f1.length c1') := by rw [hW1]; exact blk_cell (blk_new wr _) 1
    have hsB := hB.size
    have hGb := hG.lt
    have hN1 := Kd.R_below hN hb1
    have hG1 := hG.below hb1
    have hB1 := below_then hB hsB hb1
    have hvN : ∀ k, u3.ownBlock = some k → okN k := hN.1
    have hput : ∀ (w2 : World) (v : Value), W1.grownBy w2 u3.ownBlock → Kd.R Kd.string 9 w2.drew (w.heap.size + 1) (ok r.f0) v (gi r.f0) → ∀ v3 w3, Kd.R Kd.string 9 w3 (w.heap.size + 1) (fun k => ok r.f0 k ∨ w2.drew.heap.size ≤ k) v3 (gi r.f0 ++ r.f1) → w2.drew.grownBy w3 v.ownBlock →
        (∃ w4, (Instr.mapUpdate 64 (.map (some w.heap.size)) (.string r.f0) v3).run Try.prog w3 = .ok () w4 ∧ (∀ v2, Kd.R Kd.string 9 w2 (w.heap.size + 1) (fun k => okN k ∨ W1.heap.size ≤ k) v2 (nm ++ [r.f0]) → MMem w (i + 1) l0 v2 w4) ∧
          w4.cell? ⟨wr.heap.size, 0, none⟩ = some (.string r.f0) ∧ w4.cell? ⟨wr.heap.size, 1, none⟩ = some (.slice A1 r.f1.length c1')) ∧
        w3.cell? ⟨wr.heap.size, 0, none⟩ = some (.string r.f0) ∧ w3.cell? ⟨wr.heap.size, 1, none⟩ = some (.slice A1 r.f1.length c1') := by
      intro w2 v hg hRv v3 w3 hR3 hg3
      have hs2 := hg.size
      have hs3 := hg3.size
      have hdr : w2.drew.heap.size = w2.heap.size := rfl
      rw [hdr] at hR3 hs3
      have hG2 := (hG1.kept hg (fun he => by have := hkN _ (hvN _ he.symm); omega) (fun s k hok he => (hk s k hok).2.2 (hvN _ he.symm))).below (below_drew (Below.refl _ _))
      have hvo : ∀ k, v.ownBlock = some k → ok r.f0 k := hRv.1
      have hzz : ∀ (j : Nat) (x : Value), W1.cell? ⟨wr.heap.size, j, none⟩ = some x → w3.cell? ⟨wr.heap.size, j, none⟩ = some x := fun j x hx => by
        have h1 : w2.cell? ⟨wr.heap.size, j, none⟩ = some x := (hg.cell_far ⟨wr.heap.size, j, none⟩ (World.block_lt_of_cell? _ _ hx) (fun he => by have := hkN _ (hvN _ he.symm); simp at this)).trans hx
        have h2 : w2.drew.cell? ⟨wr.heap.size, j, none⟩ = some x := h1
        exact (hg3.cell_far ⟨wr.heap.size, j, none⟩ (World.block_lt_of_cell? _ _ h2) (fun he => by have := hk _ _ (hvo _ he.symm); simp at this)).trans h2
      refine ⟨?_, hzz 0 _ hz0, hzz 1 _ hz1⟩
      obtain ⟨w4, hrun, hG4, hg4⟩ := hG2.put (w1 := w3) (s := r.f0) (v := v3) (oks := fun k => ok r.f0 k ∨ w2.heap.size ≤ k) (gs := gi r.f0 ++ r.f1) hrs.1 (by unfold maxLen; omega) (Nat.lt_succ_self _)
        (hg3.block _ hG2.lt (fun he => by have := hk _ _ (hvo _ he.symm); omega)) (fun t ht k hok hlt => hg3.block k hlt (fun he => ht (hd t r.f0 k hok (hvo _ he.symm)))) hR3
      have hs4 := hg4.size
      have hz4 : ∀ (j : Nat) (x : Value), W1.cell? ⟨wr.heap.size, j, none⟩ = some x → w4.cell? ⟨wr.heap.size, j, none⟩ = some x := fun j x hx =>
        (hg4.cell_far ⟨wr.heap.size, j, none⟩ (World.block_lt_of_cell? _ _ (hzz j x hx)) (fun he => by injection he with he; simp at he; omega)).trans (hzz j x hx)
      refine ⟨w4, hrun, fun v2 hN2 => ?_, hz4 0 _ hz0, hz4 1 _ hz1⟩
      have hN2b := Kd.R_mono (ok' := fun k => (okN k ∨ wr.heap.size + 1 ≤ k) ∧ w.heap.size + 1 ≤ k ∧ k < w2.heap.size) (Kd.R_bound hN2) (fun k hk => ⟨by rw [hs1] at hk; exact hk.1, hk.2.1, hk.2.2.1⟩)
      have hN3 := Kd.R_grown (Kd.R_drew hN2b) hg3 (fun k hk' he => by
        have h1 := hk _ _ (hvo _ he.symm)
        rcases hk'.1 with h2 | h2
        · exact h1.2.2 h2
        · omega)
      have hN4 := Kd.R_grown hN3 hg4 (fun k hk' he => by have h1 := hk'.2.1; injection he with he; omega)
      have hB2 := pw_below_grown hB1 _ (by omega) hg (fun k hk' => by have := hkN _ (hvN _ hk'); omega)
      have hB3 := pw_below_grown (below_drew hB2) _ (by rw [hdr]; omega) hg3 (fun k hk' => by have := hk _ _ (hvo _ hk'); omega)
      have hB4 := pw_below_grown hB3 _ (by omega) hg4 (fun k hk' => by injection hk' with hk'; omega)
      rw [← HDX.out] at hG4
      refine ⟨hB4, _, (fun k => (okN k ∨ wr.heap.size + 1 ≤ k) ∧ w.heap.size + 1 ≤ k ∧ k < w2.heap.size), hG4.bound, by rw [HNX.out]; exact hN4, fun s k hok => ⟨hok.2.1, hok.2.2, fun hn2 => ?_⟩, fun k hk' => ⟨hk'.2.1, by have := hk'.2.2; omega⟩, fun s t k h1 h2 => ?_⟩
      · have h1 := hok.1
        have h3 := hn2.1
        have h4 := hn2.2
        try dsimp only at h1
        split at h1
        · rcases h1 with h1 | h1
          · have h5 := hk _ _ h1
            rcases h3 with h3 | h3
            · exact h5.2.2 h3
            · omega
          · omega
        · have h5 := hk _ _ h1
          rcases h3 with h3 | h3
          · exact h5.2.2 h3
          · omega
      · have e1 := h1.1
        have e2 := h2.1
        try dsimp only at e1
        try dsimp only at e2
        split at e1 <;> split at e2
        · rename_i a b; rw [a, b]
        · rcases e1 with e1 | e1
          · rename_i a b; exact a.trans (hd _ _ _ e1 e2)
          · have := hk _ _ e2; omega
        · rcases e2 with e2 | e2
          · rename_i a b; exact (hd _ _ _ e1 e2).trans b.symm
          · have := hk _ _ e1; omega
        · exact hd _ _ _ e1 e2
    have hfst : ∀ w2 : World, W1.grownBy w2 u3.ownBlock → (∃ v, (Instr.lookup 64 (.map (some w.heap.size)) (.string r.f0) false).run Try.prog w2.drew = .ok v w2.drew ∧ Kd.R Kd.string 9 w2.drew (w.heap.size + 1) (ok r.f0) v (gi r.f0)) ∧ Kd.string.C w2.drew A1 r.f1.length r.f1 ∧ w.heap.size + 1 ≤ w2.drew.heap.size ∧
        w2.cell? ⟨wr.heap.size, 0, none⟩ = some (.string r.f0) ∧ w2.cell? ⟨wr.heap.size, 1, none⟩ = some (.slice A1 r.f1.length c1') := by
      intro w2 hg
      have hs2 := hg.size
      have hG2 := (hG1.kept hg (fun he => by have := hkN _ (hvN _ he.symm); omega) (fun s k hok he => (hk s k hok).2.2 (hvN _ he.symm))).below (below_drew (Below.refl _ _))
      have hB2 := below_drew (pw_below_grown hB1 _ (by omega) hg (fun k hk' => by have := hkN _ (hvN _ hk'); omega))
      have hzz : ∀ (j : Nat) (x : Value), W1.cell? ⟨wr.heap.size, j, none⟩ = some x → w2.cell? ⟨wr.heap.size, j, none⟩ = some x := fun j x hx =>
        (hg.cell_far ⟨wr.heap.size, j, none⟩ (World.block_lt_of_cell? _ _ hx) (fun he => by have := hkN _ (hvN _ he.symm); simp at this)).trans hx
      exact ⟨hG2.look r.f0 hrs.1, Kd.C_below hC1 hB2, by show w.heap.size + 1 ≤ w2.heap.size; omega, hzz 0 _ hz0, hzz 1 _ hz1⟩
    clear hG1 hG hGb hN hk hkN hd hB hC1 hx0 hx1 hB1 hb1 hz0 hz1 hvN
    go_wp2_with (first | ((with_reducible refine gate_builtin (b := .append) (xs := #[.tmp 17, .tmp 20]) rfl ?_); at_builtin; rw [← hW1]; refine texts_push hs1 rfl rfl rfl rfl hN1 (by omega) (by omega) ?_; intro v2 w2 hN2 hg2))
    obtain ⟨⟨v, hlook, hRv⟩, hCw, hsw, hc0_, hc1_⟩ := hfst w2 hg2
    have hpt := hput w2 v hg2 hRv
    go_region_held3 (fun w' => w'.cell? ⟨wr.heap.size, 0, none⟩ = some (.string r.f0) ∧ w'.cell? ⟨wr.heap.size, 1, none⟩ = some (.slice A1 r.f1.length c1')) (go_keep) ((first | (refine mapp_event (W := w2.drew) (by rfl) (by rfl) (by rfl) (by rfl) hRv hCw hsw (by omega) ?_; intro v3 w3 hR3 hg3; obtain ⟨⟨w4, hrun4, hM4, hc4, hd4⟩, hc3, hd3⟩ := hpt v3 w3 hR3 hg3) | (refine mput_event (by rfl) (by rfl) (by rfl) (by rfl) (by rfl) hrun4 ?_)))
    go_wp2
    go_roundg (gk - 1)
    case measure => omega
    case rel => exact ⟨i + 1, by first | rfl | (rw [w64_ (by omega) (by omega)]; rfl) | simp, ⟨by omega⟩, ⟨hM4 _ hN2⟩⟩
end Go.Proofs.Ytahdgaaedilcmaa.P
