/- graph's closed, Below, Above. -/
import Derived.Test.YtmhbdgnajlnhnaaGFar
namespace Go.Proofs.Ytmhbdgnajlnhnaa.P
open Go.RowKit Go.Maps Go.MapKept Go.ChangeMaps Go.Proofs.YtmhbdgnajlnhnaaW.PrintWords Go.Proofs.YtmhbdgnajlnhnaaW.PrintLast Go.Proofs.YtmhbdgnajlnhnaaW.PrintMore Go.Proofs.Ytmhbdgnajlnhnaa.Pl
set_option linter.unusedVariables false
set_option linter.unusedSimpArgs false
section
variable {base p be h : Nat} {role : Nat → Role} {G : GG} {F : ByteArray → List ByteArray} {eb : ByteArray → Nat} {T : List ByteArray} {w w' : World}
/-- between the rounds of closed -/
structure CIn (base : Nat) (role : Nat → Role) (p : Nat) (G : GG) (F : ByteArray → List ByteArray) (be : Nat) (eb : ByteArray → Nat) (l : List ByteArray) (T : List ByteArray) (w wr : World) : Prop where
  m : VMem base role p G F be eb w.heap.size T wr
  below : Below w.heap.size w wr
  ways : ∀ s, s ∈ T → ∃ a, a ∈ l ∧ a ∈ G.ns ∧ Rch F a s
  self : ∀ a, a ∈ l → a ∈ G.ns → a ∈ T
  next : ∀ s, s ∈ T → ∀ t, t ∈ F s → t ∈ T
theorem CIn.more {l : List ByteArray} {a : ByteArray} {T T' : List ByteArray} {wr w' : World} (i : CIn base role p G F be eb l T w wr) (hN : ∀ s, s ∉ G.ns → F s = []) (m : VMem base role p G F be eb w.heap.size T' w') (P : VPost G.ns F a T T') (t : Turn (fun k => k = w.heap.size + 2) wr w') : CIn base role p G F be eb (l ++ [a]) T' w w' := by
  refine ⟨m, i.below.trans (t.below (fun k hk => by omega) i.below.size), fun s hs => ?_, fun x hx hg => ?_, fun s hs => ?_⟩
  · by_cases h' : s ∈ T
    · obtain ⟨x, h1, h2⟩ := i.ways s h'
      exact ⟨x, List.mem_append.2 (.inl h1), h2⟩
    · have hr := P.ways s hs h'
      refine ⟨a, by simp, ?_, hr⟩
      refine Classical.byContradiction fun hna => ?_
      have he : s = a := by
        clear m P t i hs h'
        induction hr with
        | refl => rfl
        | step _ hc ih => rw [ih, hN a hna] at hc; cases hc
      exact hna (he ▸ m.sub s hs)
  · rcases List.mem_append.1 hx with h' | h'
    · exact P.sub x (i.self x h' hg)
    · rw [List.mem_singleton] at h'; subst h'; exact P.self hg
  · by_cases h' : s ∈ T
    · exact fun t ht => P.sub t (i.next s h' t ht)
    · exact P.next s hs h'
theorem rch_closed {T : List ByteArray} (h : ∀ s, s ∈ T → ∀ t, t ∈ F s → t ∈ T) {a b : ByteArray} (ha : a ∈ T) (hr : Rch F a b) : b ∈ T := by
  induction hr with
  | refl => exact ha
  | step _ hc ih => exact h _ ih _ hc
set_option maxRecDepth 1000000 in
set_option maxHeartbeats 4000000 in
theorem closed_calls (hg : GMem w base role p G) (he : MM w be G.ns eb F) (her : role be ≠ .none ∧ ∀ s, s ∈ G.ns → role (eb s) ≠ .none) (hF : ∀ s t, t ∈ F s → t ∈ G.ns) (hN : ∀ s, s ∉ G.ns → F s = []) (hfew : ∀ s, (F s).length ≤ 100000)
    (A0 : Option Addr) (c0 : Nat) (l0 : List ByteArray) (hC : Kd.string.C w A0 l0.length l0) (hl : ∀ s, s ∈ l0 → s.size ≤ maxLen) (hll : l0.length ≤ 100000) (cl : List ByteArray) (hs : SS cl) (hcl : ∀ s, s ∈ cl ↔ ∃ a, a ∈ l0 ∧ a ∈ G.ns ∧ Rch F a s) :
    Calls Try.prog 47 #[.pointer (some ⟨p, 0, none⟩), .map (some be), .slice A0 l0.length c0] w (Rose w cl) := by
  have HC := Aside0.mk hC
  have HL := Aside0.mk hl
  have HH := Aside0.mk (And.intro hs hcl)
  have hmm := fun (W : World) => @run_makeMap Try.prog 73 W
  have hshort := hg.good.short
  have HG := Aside0.mk (And.intro hg (And.intro he her))
  clear hC hl hs hcl hg he her
  obtain ⟨w1, hw1⟩ : ∃ w1, w.alloc (Obj.cells #[Value.pointer (some ⟨p, 0, none⟩)] 26) = w1 := ⟨_, rfl⟩
  obtain ⟨w2, hw2⟩ : ∃ w2, w1.alloc (Obj.cells #[Value.map (some be)] 68) = w2 := ⟨_, rfl⟩
  obtain ⟨w3, hw3⟩ : ∃ w3, w2.alloc (Obj.map #[] 0) = w3 := ⟨_, rfl⟩
  obtain ⟨w4, hw4⟩ : ∃ w4, w3.alloc (Obj.cells #[Value.map (some (w.heap.size + 1 + 1))] 73) = w4 := ⟨_, rfl⟩
  have z1 : w1.heap.size = w.heap.size + 1 := by rw [← hw1, alloc_size]
  have z2 : w2.heap.size = w.heap.size + 1 + 1 := by rw [← hw2, alloc_size, z1]
  have z3 : w3.heap.size = w.heap.size + 1 + 1 + 1 := by rw [← hw3, alloc_size, z2]
  have z4 : w4.heap.size = w.heap.size + 1 + 1 + 1 + 1 := by rw [← hw4, alloc_size, z3]
  have hc5 : (w4.alloc (Obj.cells #[Value.nilFunc] 83)).cell? ⟨w.heap.size + 1 + 1 + 1 + 1, 0, none⟩ = some .nilFunc := by rw [World.cell?_alloc_at _ _ _ _ z4.symm]; rfl
  have hf5 : (w4.alloc (Obj.cells #[Value.nilFunc] 83)).frozen? ⟨w.heap.size + 1 + 1 + 1 + 1, 0, none⟩ = false := World.frozen?_alloc_at _ _ _ _ z4.symm
  have hs5 : ∀ v, (w4.alloc (Obj.cells #[Value.nilFunc] 83)).setCell ⟨w.heap.size + 1 + 1 + 1 + 1, 0, none⟩ v = w4.alloc (Obj.cells #[v] 83) := fun v => by rw [World.setCell_alloc_at _ _ _ _ _ z4.symm]; rfl
  have hst : ∀ (W : World) (a : Addr) (f : Fn) (x y : Array Value), (store a (.func f x y)).run Try.prog W = stored Try.prog W a (.func f x y) .plain := fun W a f x y => run_store Try.prog W a _ .plain rfl
  go_enter Try.func47, Try.ntmps47
  go_wp2_with fail
  obtain ⟨W5, hW5⟩ : ∃ W5, w4.alloc (Obj.cells #[Value.func (.func 58) #[] #[.pointer (some ⟨w.heap.size + 1 + 1 + 1, 0, none⟩), .pointer (some ⟨w.heap.size, 0, none⟩), .pointer (some ⟨w.heap.size + 1, 0, none⟩), .pointer (some ⟨w.heap.size + 1 + 1 + 1 + 1, 0, none⟩)]] 83) = W5 := ⟨_, rfl⟩
  have h0 : Aside0 (CIn base role p G F be eb (l0.take 0) [] w W5) := by
    obtain ⟨hg, he, her⟩ := HG.out
    have b5 : Below w.heap.size w W5 := by
      rw [← hW5, ← hw4, ← hw3, ← hw2, ← hw1]
      exact below_alloc (below_alloc (below_alloc (below_alloc (below_alloc (Below.refl _ w) _) _) _) _) _
    have g0 : W5.heap[w.heap.size]? = some (.cells #[.pointer (some ⟨p, 0, none⟩)] 26) := by rw [← hW5, alloc_old (by omega), ← hw4, alloc_old (by omega), ← hw3, alloc_old (by omega), ← hw2, alloc_old (by omega), ← hw1]; exact alloc_new
    have g1 : W5.heap[w.heap.size + 1]? = some (.cells #[.map (some be)] 68) := by rw [← hW5, alloc_old (by omega), ← hw4, alloc_old (by omega), ← hw3, alloc_old (by omega), ← hw2, ← z1]; exact alloc_new
    have g2 : W5.heap[w.heap.size + 2]? = some (.map #[] 0) := by rw [← hW5, alloc_old (by omega), ← hw4, alloc_old (by omega), ← hw3, show w.heap.size + 2 = w2.heap.size from z2.symm]; exact alloc_new
    have g3 : W5.heap[w.heap.size + 3]? = some (.cells #[.map (some (w.heap.size + 1 + 1))] 73) := by rw [← hW5, alloc_old (by omega), ← hw4, show w.heap.size + 3 = w3.heap.size from z3.symm]; exact alloc_new
    have g4 : W5.heap[w.heap.size + 4]? = some (.cells #[Value.func (.func 58) #[] #[.pointer (some ⟨w.heap.size + 1 + 1 + 1, 0, none⟩), .pointer (some ⟨w.heap.size, 0, none⟩), .pointer (some ⟨w.heap.size + 1, 0, none⟩), .pointer (some ⟨w.heap.size + 1 + 1 + 1 + 1, 0, none⟩)]] 83) := by rw [← hW5, show w.heap.size + 4 = w4.heap.size from z4.symm]; exact alloc_new
    refine ⟨⟨hg.below b5, he.step (b5.block _ (hg.bound be her.1).2) (fun s hs => b5.block _ (hg.bound _ (her.2 s hs)).2), her, fun k hk => (hg.bound k hk).2,
      ⟨by rw [blk_cell' g3]; rfl, by rw [blk_cell' g0]; rfl, by rw [blk_cell' g1]; rfl, by rw [blk_cell' g4]; rfl⟩, by simpa [hasB] using map_of_empty g2, List.Pairwise.nil, fun s hs => (by cases hs), hfew⟩, b5, fun s hs => (by cases hs), fun a ha => (by rw [List.take_zero] at ha; cases ha), fun s hs => (by cases hs)⟩
  rw [hW5]
  rw [show w.heap.size + 1 + 1 + 1 + 1 = w.heap.size + 4 from rfl, show w.heap.size + 1 + 1 + 1 = w.heap.size + 3 from rfl, show w.heap.size + 1 + 1 = w.heap.size + 2 from rfl]
  clear hc5 hf5 hs5 hW5 hw1 hw2 hw3 hw4 z1 z2 z3 z4 hst hmm HG
  go_loopg [15] (l0.length + 1) (fun n iv wr => ∃ (i : Nat) (T : List ByteArray), iv = .int .i64 (i : Int) ∧ Aside0 (i + n = l0.length + 1) ∧ Aside0 (CIn base role p G F be eb (l0.take i) T w wr))
  case atStart => exact ⟨0, [], rfl, ⟨by omega⟩, h0⟩
  case round =>
    obtain ⟨i, T, rfl, ⟨hn⟩, HI⟩ := hrel
    clear h0
    have c1 := HI.out.m.cells.1
    have c4 := HI.out.m.cells.2.2.2
    by_cases ci : i < l0.length
    case neg =>
      have cib : decide ((i : Int) < (l0.length : Int)) = false := decide_eq_false (by omega)
      rw [List.take_of_length_le (by omega)] at HI
      have hT : T = cl := ss_uniq _ _ HI.out.m.rise HH.out.1 (fun s => by
        rw [HH.out.2 s]
        exact ⟨HI.out.ways s, fun ⟨a, h1, h2, h3⟩ => rch_closed HI.out.next (HI.out.self a h1 h2) h3⟩)
      subst hT
      have hlen := HI.out.m.len
      have hf := HI.out.m.g.few
      have hsr := sortedB_calls HI.out.m.seen (by omega) HI.out.m.rise (fun s => by rw [← hasB_iff]; cases hasB T s <;> simp)
      have HB := Aside0.mk HI.out.below
      clear HI hlen hf
      go_wp2_with fail
      refine hsr.mono ?_
      rintro e w9 ⟨v, rfl, r1, r2, r3⟩
      clear hsr
      have H : Aside0 (Rose w T (.returned v) w9) := ⟨v, rfl, Kd.R_lower r1 HB.out.size, r2, below_then HB.out HB.out.size r3⟩
      clear r1 r2 r3
      go_wp2_with fail
      go_ret
      exact H.out
    have cib : decide ((i : Int) < (l0.length : Int)) = true := decide_eq_true (by omega)
    obtain ⟨ad, rfl, hcell⟩ := Kd.at_string (Kd.C_below HC.out HI.out.below) (i : Int) (Int.natCast_nonneg _) (by omega)
    rw [Int.toNat_natCast] at hcell
    have hx : rdOf ByteArray.empty l0 (i : Int) = l0[i] := by
      unfold rdOf; rw [Int.toNat_natCast, List.getD_eq_getElem?_getD, List.getElem?_eq_getElem ci]; rfl
    rw [hx] at hcell
    have hxs : l0[i].size ≤ maxLen := HL.out _ (List.getElem_mem ci)
    have htk : l0.take (i + 1) = l0.take i ++ [l0[i]] := List.take_succ_eq_append_getElem ci
    obtain ⟨x, hxe⟩ : ∃ x, l0[i] = x := ⟨_, rfl⟩
    rw [hxe] at hcell hxs htk
    have HK := Aside0.mk htk
    clear hx hxe htk
    have hv := visit_calls hF hshort G.ns.length x T wr (by omega) hxs HI.out.m
    go_wp2_with fail
    refine hv.mono ?_
    rintro e w4 ⟨rfl, T4, m4, P4, t4⟩
    clear hv
    have HI2 : Aside0 (CIn base role p G F be eb (l0.take (i + 1)) T4 w w4) := ⟨by rw [HK.out]; exact HI.out.more hN m4 P4 t4⟩
    clear m4 P4 t4 HI
    go_wp2_with fail
    go_roundg (gk - 1)
    case measure => omega
    case rel => exact ⟨i + 1, T4, by first | rfl | (rw [w64_ (by omega) (by omega)]; rfl) | simp, ⟨by omega⟩, HI2⟩
set_option maxRecDepth 1000000 in
set_option maxHeartbeats 4000000 in
theorem below_calls (hg : GMem w base role p G) (A0 : Option Addr) (c0 : Nat) (l0 : List ByteArray) (hC : Kd.string.C w A0 l0.length l0) (hl : ∀ s, s ∈ l0 → s.size ≤ maxLen) (hll : l0.length ≤ 100000) (cl : List ByteArray) (hs : SS cl) (hcl : ∀ s, s ∈ cl ↔ ∃ a, a ∈ l0 ∧ a ∈ G.ns ∧ Rch G.out a s) :
    Calls Try.prog 17 #[.pointer (some ⟨p, 0, none⟩), .slice A0 l0.length c0] w (Rose w cl) := by
  obtain ⟨bo, bi, ob, ib, hp, hO, hI, ro, ri, hsub⟩ := hg.blk
  have k0 : w.cell? ⟨p, 0, none⟩ = some (.map (some bo)) := by rw [blk_cell' hp]; rfl
  have hcc := closed_calls hg hO ⟨by rw [ro]; simp, fun s hs => by rw [(hsub s hs).1]; simp⟩ hg.good.inside hg.good.none (fun s => out_len hg s) A0 c0 l0 hC hl hll cl hs hcl
  clear hO hI hsub hg hC hl hs hcl hp ro ri
  go_enter Try.func17, Try.ntmps17
  go_wp2_with fail
  refine hcc.mono ?_
  rintro e w9 ⟨v, rfl, r1, r2, r3⟩
  clear hcc
  have H : Aside0 (Rose w cl (.returned v) w9) := ⟨v, rfl, r1, r2, r3⟩
  clear r1 r2 r3
  go_wp2_with fail
  go_ret
  exact H.out
set_option maxRecDepth 1000000 in
set_option maxHeartbeats 4000000 in
theorem above_calls (hg : GMem w base role p G) (A0 : Option Addr) (c0 : Nat) (l0 : List ByteArray) (hC : Kd.string.C w A0 l0.length l0) (hl : ∀ s, s ∈ l0 → s.size ≤ maxLen) (hll : l0.length ≤ 100000) (cl : List ByteArray) (hs : SS cl) (hcl : ∀ s, s ∈ cl ↔ ∃ a, a ∈ l0 ∧ a ∈ G.ns ∧ Rch G.inn a s) :
    Calls Try.prog 20 #[.pointer (some ⟨p, 0, none⟩), .slice A0 l0.length c0] w (Rose w cl) := by
  obtain ⟨bo, bi, ob, ib, hp, hO, hI, ro, ri, hsub⟩ := hg.blk
  have k0 : w.cell? ⟨p, 1, none⟩ = some (.map (some bi)) := by rw [blk_cell' hp]; rfl
  have hcc := closed_calls hg hI ⟨by rw [ri]; simp, fun s hs => by rw [(hsub s hs).2]; simp⟩ (fun s t ht => (List.mem_filter.1 ht).1) (fun s hs => GG.inn_none hg.good hs) (fun s => inn_len hg s) A0 c0 l0 hC hl hll cl hs hcl
  clear hO hI hsub hg hC hl hs hcl hp ro ri
  go_enter Try.func20, Try.ntmps20
  go_wp2_with fail
  refine hcc.mono ?_
  rintro e w9 ⟨v, rfl, r1, r2, r3⟩
  clear hcc
  have H : Aside0 (Rose w cl (.returned v) w9) := ⟨v, rfl, r1, r2, r3⟩
  clear r1 r2 r3
  go_wp2_with fail
  go_ret
  exact H.out
end
end Go.Proofs.Ytmhbdgnajlnhnaa.P
