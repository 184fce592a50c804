/- once: what stands in a list, each thing once: a map of what was seen. -/
import Derived.Test.YtahdgaaedilcmaaGW
import Derived.Test.YtahdgaaedilcmaaPx0
import Derived.Test.YtahdgaaedilcmaaProg
import Derived.Maps.Own
import Derived.Maps.OwnSet
import Derived.Maps.Views
import Derived.StringKeys
import Derived.Carry
import Derived.BigQuiet
namespace Go.Proofs.Ytahdgaaedilcmaa.P
open Go.RowKit Go.Maps Go.Proofs.YtahdgaaedilcmaaW.PrintWords Go.Proofs.YtahdgaaedilcmaaW.PrintLast Go.Proofs.YtahdgaaedilcmaaW.PrintMore
set_option linter.unusedVariables false
set_option linter.unusedSimpArgs false

/-- does a text stand in a list? -/
def inS (S : List ByteArray) (x : ByteArray) : Bool := S.any fun y => y.data.toList == x.data.toList
theorem inS_snoc (S : List ByteArray) (x y : ByteArray) : inS (S ++ [x]) y = (inS S y || x.data.toList == y.data.toList) := by simp [inS]
/-- in the map at block b lie the texts of S -/
def Seen (w : World) (b : Nat) (S : List ByteArray) : Prop :=
  ∃ D : DataW Unit, w.ownsMap Try.prog 9 (plainElem Try.prog 4) b S.length D ∧ IsMap D ∧ ∀ x : ByteArray, D.atKey (.string x.data.toList) (.lit (.bool false)) = .lit (.bool (inS S x))
theorem Seen.made (w : World) : Seen (w.alloc (.map #[] 0)) w.heap.size [] :=
  ⟨.map [], World.ownsMap_made w _ _ _, isMap_empty, fun x => rfl⟩
theorem plain_bool_inv {P : Program} {e : TypeId} (he : P.underlying e = some .bool) {v : Value} {z : DataW Unit × List MemPlace} (h : plainElem P e v = some z) : ∃ x : Bool, v = .bool x ∧ z = (.lit (.bool x), []) := by
  unfold plainElem at h
  rw [he] at h
  cases v <;> simp at h
  exact ⟨_, rfl, h.symm⟩
theorem Seen.look {w : World} {b : Nat} {S : List ByteArray} (h : Seen w b S) (x : ByteArray) (hx : x.size ≤ maxLen) : (Instr.lookup 71 (.map (some b)) (.string x) false).run Try.prog w = .ok (.bool (inS S x)) w := by
  obtain ⟨D, hD, hm, hat⟩ := h
  obtain ⟨v, ps, hrun, hv⟩ := hD.lookup (t := 71) (string_keyed Try.underlying9) Try.underlying71 (z := .bool false) (by first | exact Try.zeroValue4 _ | rfl) (plainElem_bool Try.underlying4 false) (WideMaps.keyOf_string_mk Try.underlying9 hx)
  rw [hat x] at hv
  obtain ⟨y, rfl, hz⟩ := plain_bool_inv Try.underlying4 hv
  simp only [Prod.mk.injEq] at hz
  have hy : y = inS S x := (Lit.bool.inj (DataW.lit.inj hz.1)).symm
  rw [hy] at hrun
  exact hrun
theorem Seen.put {w w' : World} {b : Nat} {S : List ByteArray} {x : ByteArray} {D : DataW Unit} (hm : IsMap D) (hat : ∀ x : ByteArray, D.atKey (.string x.data.toList) (.lit (.bool false)) = .lit (.bool (inS S x)))
    (h : w'.ownsMap Try.prog 9 (plainElem Try.prog 4) b (S.length + 1) (D.put (.string x.data.toList) (.lit (.bool true)))) : Seen w' b (S ++ [x]) := by
  refine ⟨_, by rw [List.length_append, List.length_singleton]; exact h, hm.put _ _, fun y => ?_⟩
  rw [inS_snoc]
  by_cases hy : x.data.toList = y.data.toList
  · rw [← hy, atKey_put_same hm (by trivial)]
    simp
  · rw [atKey_put_other (fun e => hy (by injection e with e; exact e.symm)), hat y, show (x.data.toList == y.data.toList) = false from beq_eq_false_iff_ne.mpr hy, Bool.or_false]
theorem Seen.kept {w w' : World} {b : Nat} {S : List ByteArray} {row : Option Nat} (h : Seen w b S) (hg : w.grownBy w' row) (hne : some b ≠ row) : Seen w' b S := by
  obtain ⟨D, h1, h2, h3⟩ := h
  exact ⟨D, h1.kept hg hne, h2, h3⟩
def onceGo : List ByteArray → List ByteArray → List ByteArray
  | acc, [] => acc
  | acc, x :: t => if inS acc x = true then onceGo acc t else onceGo (acc ++ [x]) t
def depfile_once.f (l0 : List ByteArray) : Option (List ByteArray) := if l0.length ≤ 1000000 ∧ ∀ x ∈ l0, x.size ≤ 9223372036854775807 then some (onceGo [] l0) else none
/-- seen[x] = true -/
theorem put_event {w : World} {b : Nat} {S : List ByteArray} {x : ByteArray} {ops : Array Oper} {rest : List Oper} {o : Oper} {a : Act} {Q : Exit → Act → World → Prop} {m k v : Operand}
    (hgd : o.guard = none) (ho : o.op = .mapUpdate 71 m k v) (hm : a.eval m = .map (some b)) (hk : a.eval k = .string x) (hv : a.eval v = .bool true) (hS : Seen w b S) (hn : S.length < maxLen) (hx : x.size ≤ maxLen)
    (h : ∀ w', Seen w' b (S ++ [x]) → w.grownBy w' (some b) → wpList Try.prog ops Q rest (a.put o.dst undef) w') : wpList Try.prog ops Q (o :: rest) a w := by
  obtain ⟨D, hD, hmD, hat⟩ := hS
  exact wpList_mapUpdate_own (H := Unit) w hgd m k v 71 ho 9 4 (string_keyed Try.underlying9) Try.underlying71 (plainElem Try.prog 4) b S.length D hm hD hn (.string x) (.bool true) (.string x.data.toList) hk hv (WideMaps.keyOf_string_mk Try.underlying9 hx) (.lit (.bool true)) [] (plainElem_bool Try.underlying4 true)
    (fun w' h1 h2 => h w' (Seen.put (w := w) hmD hat h1) h2)
set_option maxHeartbeats 2000000 in
set_option maxRecDepth 1000000 in
theorem depfile_once.calls (A0 : Option Addr) (c0 : Nat) (l0 : List ByteArray) (r : List ByteArray) (w : World) (hr0 : Kd.C Kd.string w A0 l0.length l0) (hc0 : l0.length ≤ c0) (h : depfile_once.f l0 = some r) :
    Calls Try.prog 32 #[.slice A0 l0.length c0] w fun e w' => ∃ v0_ : Value, e = .returned v0_ ∧ Kd.R Kd.string 9 w' w.heap.size (fun _ => True) v0_ r ∧ Below w.heap.size w w' := by
  unfold depfile_once.f at h
  by_cases hb : l0.length ≤ 1000000 ∧ ∀ x ∈ l0, x.size ≤ 9223372036854775807
  case neg => rw [if_neg hb] at h; cases h
  rw [if_pos hb] at h
  have H := Aside0.mk (Option.some.inj h)
  have HZ := Aside0.mk hb.2
  have hlen := hb.1
  have HC := Aside0.mk hr0
  clear h hb hr0
  have hmm := fun (W : World) => @run_makeMap Try.prog 71 W
  go_enter Try.func32, Try.ntmps32
  go_wp2
  have hS0 := Seen.made w
  have hB0 : Below w.heap.size w (w.alloc (.map #[] 0)) := (Below.refl _ _).alloc (Nat.le_refl _) _
  go_loopg [3, 10] (l0.length + 1) (fun n v iv wr => ∃ (i : Nat) (out : List ByteArray), iv = .int .i64 (i : Int) ∧ Aside0 (i + n = l0.length + 1 ∧ out.length ≤ i) ∧ Aside0 (onceGo out (l0.drop i) = r) ∧ Aside0 (Below w.heap.size w wr ∧ w.heap.size < wr.heap.size) ∧ Aside0 (Seen wr w.heap.size out) ∧ Aside0 (Kd.R Kd.string 9 wr (w.heap.size + 1) (fun _ => True) v out))
  case atStart => exact ⟨0, [], rfl, ⟨by omega, Nat.le_refl _⟩, H, ⟨hB0, by simp⟩, ⟨hS0⟩, ⟨Kd.R_nil _ _ _ _ _⟩⟩
  case round =>
    obtain ⟨i, out, rfl, ⟨hn, ho⟩, HA, ⟨hB, hlt⟩, ⟨hS⟩, ⟨hR⟩⟩ := hrel
    clear hS0 hB0
    by_cases c1 : i < l0.length
    case neg =>
      have c1b : decide ((i : Int) < (l0.length : Int)) = false := decide_eq_false (by omega)
      have hfin : out = r := by rw [← HA.out, List.drop_of_length_le (by omega)]; rfl
      go_wp2
      go_ret
      exact ⟨_, rfl, hfin ▸ Kd.R_lower (Kd.R_mono hR (fun _ _ => trivial)) (Nat.le_succ _), hB⟩
    have c1b : decide ((i : Int) < (l0.length : Int)) = true := decide_eq_true (by omega)
    obtain ⟨ad, rfl, hcell⟩ := Kd.at_string (Kd.C_below HC.out hB) (i : Int) (Int.natCast_nonneg _) (by omega)
    rw [Int.toNat_natCast] at hcell
    have hx : rdOf ByteArray.empty l0 (i : Int) = l0[i] := by
      unfold rdOf; rw [Int.toNat_natCast, List.getD_eq_getElem?_getD, List.getElem?_eq_getElem c1]; rfl
    rw [hx] at hcell
    rw [List.drop_eq_getElem_cons c1] at HA
    have hxs : l0[i].size ≤ maxLen := HZ.out _ (List.getElem_mem c1)
    have hlook := hS.look l0[i] hxs
    by_cases c2 : inS out l0[i] = true
    case pos =>
      rw [c2] at hlook
      have hA : onceGo out (l0.drop (i + 1)) = r := by have h := HA.out; rw [onceGo, if_pos c2] at h; exact h
      go_wp2
      go_roundg (gk - 1)
      case measure => omega
      case rel => exact ⟨i + 1, out, by first | rfl | (rw [w64_ (by omega) (by omega)]; rfl) | simp, ⟨by omega, by omega⟩, ⟨hA⟩, ⟨hB, hlt⟩, ⟨hS⟩, ⟨hR⟩⟩
    case neg =>
      have c2 : inS out l0[i] = false := by simpa using c2
      rw [c2] at hlook
      have hA : onceGo (out ++ [l0[i]]) (l0.drop (i + 1)) = r := by have h := HA.out; rw [onceGo, if_neg (by rw [c2]; decide)] at h; exact h
      have hRb := Kd.R_bound hR
      have hne : ∀ k, u3.ownBlock = some k → w.heap.size + 1 ≤ k := fun k hk => (hRb.1 k hk).2.1
      have hbg : l0.length * 16 ≤ 16000000 := by omega
      have hRk : ∀ w1, wr.grownBy w1 (some w.heap.size) → Kd.R Kd.string 9 w1 (w.heap.size + 1) (fun _ => True) u3 out := fun w1 hg1 =>
        Kd.R_mono (Kd.R_grown hRb hg1 (fun k hk he => by have h1 := hk.2.1; injection he with he; omega)) (fun _ _ => trivial)
      have hlk : ∀ w1, wr.grownBy w1 (some w.heap.size) → w.heap.size + 1 ≤ w1.heap.size := fun w1 hg1 => Nat.le_trans hlt hg1.size
      go_wp2_with (first
        | (at_mapUpdate; refine put_event rfl rfl rfl rfl rfl hS (by unfold maxLen; omega) hxs ?_; intro w1 hS1 hg1)
        | ((with_reducible refine gate_builtin (b := .append) (xs := #[.tmp 20, .tmp 22]) rfl ?_); at_builtin; refine Kd.R_append Kd.string (w0 := w1) (W := w1) (w.heap.size + 1) rfl (.tmp 20) (.tmp 22) 30 9 (.string ⟨#[]⟩) 16 rfl Try.underlying30 info9 rfl (by decide) (by omega) u3 out l0[i] [.string l0[i]] (fun _ => True) (fun _ => False) rfl rfl rfl (fun _ hk => hk.elim) (fun _ _ => trivial) (hRk w1 hg1) (Below.refl _ _) (hlk w1 hg1) (by omega) ?_; intro v1 w2 h1 hbl hg hat))
      have hs1 := hg1.size
      have hB1 := pw_below_grown hB _ (Nat.le_of_lt hlt) hg1 (fun k hk => by injection hk with hk; omega)
      have hR2 := Kd.R_mono h1 (fun _ _ => (trivial : True))
      have hs2 := hg.size
      have hB2 := pw_below_grown hB1 _ (by omega) hg (fun k hk => by have := hne k hk; omega)
      have hS2 : Seen w2 w.heap.size (out ++ [l0[i]]) := hS1.kept hg (fun he => by have := hne _ he.symm; omega)
      go_wp2
      go_roundg (gk - 1)
      case measure => omega
      case rel => exact ⟨i + 1, out ++ [l0[i]], by first | rfl | (rw [w64_ (by omega) (by omega)]; rfl) | simp, ⟨by omega, by simp; omega⟩, ⟨hA⟩, ⟨hB2, by omega⟩, ⟨hS2⟩, ⟨hR2⟩⟩
end Go.Proofs.Ytahdgaaedilcmaa.P
