/- GraphTells: what a graph's own changes leave as it was. -/
import Derived.Test.YtmhbdgnajlnhnaaGLawBase
import Derived.Test.YtmhbdgnajlnhnaaPlBel
import Derived.Test.YtmhbdgnajlnhnaaGHave
import Derived.Lib.SliceRun
namespace Go.Proofs.Ytmhbdgnajlnhnaa.P
open Go.RowKit Go.Maps Go.MapKept Go.ChangeMaps Go.Proofs.YtmhbdgnajlnhnaaW.PrintWords Go.Proofs.YtmhbdgnajlnhnaaW.PrintLast Go.Proofs.YtmhbdgnajlnhnaaW.PrintMore Go.Proofs.Ytmhbdgnajlnhnaa.Pl
set_option linter.unusedVariables false
set_option linter.unusedSimpArgs false
theorem linkG_same {G : GG} (hG : GOk G) {a b : ByteArray} (h : b ∈ G.out a) : linkG G a b = G := by
  have ha : a ∈ G.ns := by
    by_cases ha : a ∈ G.ns
    · exact ha
    · rw [hG.none a ha] at h; cases h
  have hb := hG.inside a b h
  have e1 : addAll G [a, b] = G := by
    show addG (addG G a) b = G
    have h1 : addG G a = G := by unfold addG; rw [ins_same hG.rise ha]
    rw [h1]
    unfold addG
    rw [ins_same hG.rise hb]
  rw [linkG_two, e1]
  unfold edgeG
  have : (fun s => if s = a then ins b (G.out a) else G.out s) = G.out := by
    funext s
    by_cases e : s = a
    · subst e
      rw [if_pos rfl, ins_same (hG.outs s) h]
    · rw [if_neg e]
  rw [this]
/-- an own row's reads, left alone by the graph -/
theorem own_left {α : Type} {d : Kd α} (hd : ∀ {W W' : World} {x : α} {cs : List Value}, d.K W x cs → d.K W' x cs) {e : TypeId} {w wb : World} {base : Nat} {okv S : Nat → Prop} {A : Option Addr} {n c : Nat} {xs : List α} (h : d.R e w base okv (.slice A n c) xs) (hb : Below w.heap.size w wb) (hS : ∀ k, S k → k < base) :
    ∀ W, Turn S wb W → d.C W A n xs := fun W hT => by
  obtain ⟨hn, _, hC⟩ := Kd.R_reads' h
  rw [← hn] at hC
  refine Kd.C_foot_neS hd (Kd.C_below hC hb) (fun ad hA hp hs => ?_) W (Turn.kept hT)
  subst hA
  have := ((Kd.R_bound h).1 ad.block (by simp [Value.ownBlock])).2.1
  have := hS _ hs
  omega
theorem turn_low {w wb W : World} {wp : Nat} {r3 : Nat → Role} (hB : Below w.heap.size w wb) (hwp : w.heap.size ≤ wp) (hle : wp ≤ wb.heap.size) (hbnd : ∀ k, r3 k ≠ .none → wp ≤ k) (hT : Turn (fun k => r3 k ≠ .none) wb W) : Below w.heap.size w W :=
  hB.trans ((hT.below hbnd hle).mono hwp)
theorem run_field29 (W : World) (A B : Option Addr) (n m c d : Nat) : (Instr.field 29 (.agg #[.slice A n c, .slice B m d]) 1).run Try.prog W = .ok (.slice B m d) W := by kernel_rfl
theorem below_cells {B : Nat} {a : World} (b : Nat) (hb : B ≤ b) : ∀ (vs : List Value) (o : Nat) {w : World}, Below B a w → Below B a (w.setCells b o vs)
  | [], _, _, h => h
  | v :: r, o, _, h => below_cells b hb r (o + 1) (h.setCell (p := ⟨b, o, none⟩) hb v)
theorem clear_own {w w0 : World} {base B : Nat} {ok : Nat → Prop} {A : Option Addr} {n c : Nat} {l : List ByteArray} (h : Kd.R Kd.string 9 w base ok (.slice A n c) l) (hnil : Value.slice A n c = .slice none 0 0 ↔ l = []) (hB : Below B w0 w) (hb : B ≤ base) :
    ∃ w8, (∀ ty, (Builtin.clear_ #[23] ty #[.slice A n c]).run Try.prog w = .ok (.tuple #[]) w8) ∧ Below B w0 w8 := by
  have ho := Kd.own_of_R h
  rw [encs_str] at ho
  rcases ho.2 with ⟨e, h0⟩ | ⟨g, cap, cur, e, hbase, hbk, h1, h2, h3, h4⟩
  · rw [e]
    exact ⟨w, fun ty => by kernel_rfl, hB⟩
  · have hlen : n = l.length := (Kd.R_reads' h).1
    have hpos : 0 < n := by
      cases l with
      | nil => rw [hnil.2 rfl] at e; cases e
      | cons x t => rw [hlen]; simp
    injection e with e1 e2 e3
    subst e1; subst e3
    have hH := holds_of_block (ss := l.map L) hbk (by rw [List.length_map]; rw [Nat.mul_one] at h4; exact h4)
    refine ⟨w.setCells g 0 (List.replicate n (.string ⟨#[]⟩)), fun ty => Go.Lib.run_clear_slice w 23 9 ty (.string ⟨#[]⟩) Try.underlying23 (fun W => by kernel_rfl) rfl rfl g 0 n _ hpos (fun j hj => ?_) (fun j hj => ?_), below_cells g (by omega) _ _ hB⟩
    · have := (hH j (by simp; omega)).1
      rw [Nat.zero_add] at this ⊢
      rw [this]; rfl
    · have := (hH j (by simp; omega)).2
      rw [Nat.zero_add] at this ⊢
      exact this
def TwoT (wb : World) (r : Nat → Role) (g : Nat) (G : GG) (B0 : Option Addr) (d0 : Nat) (B1 : Option Addr) (d1 : Nat) : Prop :=
  ∀ W, Turn (fun k => r k ≠ .none) wb W → (W.cell? ⟨g, 0, none⟩ = some (.slice B0 G.ns.length d0) ∧ W.cell? ⟨g, 1, none⟩ = some (.slice B1 (edgesOf G G.ns).length d1)) ∧ Kd.C Kd.string W B0 G.ns.length G.ns ∧ Kd.C k45 W B1 (edgesOf G G.ns).length (edgesOf G G.ns)
/-- Link of an edge that is there, after a row of its own is laid -/
theorem link_again {wb wr w1 w2 : World} {base q : Nat} {r3 : Nat → Role} {G : GG} {a b : ByteArray} (hG : GOk G) (h : b ∈ G.out a) (hg : GDid wb base r3 q G wr) (hb : Below wr.heap.size wr w1)
    (hl : ∀ role, GMem w1 base role q G → GDid w1 base role q (linkG G a b) w2) : GDid wb base r3 q G w2 := by
  obtain ⟨r', hM, hr, hT⟩ := hg
  have h1 := hl r' (hM.below hb)
  rw [linkG_same hG h] at h1
  exact GDid.trans hr ((hT.trans (Turn.of_below (ok := fun k => r3 k ≠ .none) hb) (fun k hk => .inl hk))) h1
end Go.Proofs.Ytmhbdgnajlnhnaa.P
