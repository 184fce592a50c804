/- brickyardref16.Merge: the walk. -/
import Derived.Test.YtahdgaaedilcmaaGMerge
import Derived.Test.YtahdgaaedilcmaaPxf31
import Derived.Test.YtahdgaaedilcmaaPlBase
namespace Go.Proofs.Ytahdgaaedilcmaa.P
open Go.RowKit Go.Maps Go.Proofs.YtahdgaaedilcmaaW.PrintWords Go.Proofs.YtahdgaaedilcmaaW.PrintLast Go.Proofs.YtahdgaaedilcmaaW.PrintMore Go.Proofs.Ytahdgaaedilcmaa.Pl
set_option linter.unusedVariables false
set_option linter.unusedSimpArgs false
def rmStep : List S32 → S32 → List S32
  | [], r => [⟨r.f0, onceGo [] r.f1⟩]
  | o :: t, r => if o.f0 = r.f0 then ⟨o.f0, onceGo o.f1 r.f1⟩ :: t else o :: rmStep t r
def rmerge (l : List S32) : List S32 := l.foldl rmStep []
def sumD (l : List S32) : Nat := (l.map (·.f1.length)).sum
theorem rm_len (l : List S32) (r : S32) : (rmStep l r).length ≤ l.length + 1 := by
  induction l with
  | nil => simp [rmStep]
  | cons o t ih => unfold rmStep; split <;> simp; exact ih
theorem rm_at (r : S32) : ∀ (out : List S32) (k : Nat) (h : k < out.length), (∀ j, j < k → (h : j < out.length) → out[j].f0 ≠ r.f0) → out[k].f0 = r.f0 → rmStep out r = out.set k ⟨r.f0, onceGo out[k].f1 r.f1⟩
  | o :: t, 0, _, _, he => by
    have he' : o.f0 = r.f0 := he
    unfold rmStep
    rw [if_pos he', he']
    rfl
  | o :: t, k + 1, h, hno, he => by
    unfold rmStep
    have h0 : o.f0 ≠ r.f0 := hno 0 (Nat.succ_pos k) (Nat.succ_pos _)
    rw [if_neg h0, rm_at r t k (Nat.lt_of_succ_lt_succ h) (fun j hj hl => hno (j + 1) (Nat.succ_lt_succ hj) (Nat.succ_lt_succ hl)) he]
    rfl
theorem rm_none (r : S32) : ∀ (out : List S32), (∀ j, (h : j < out.length) → out[j].f0 ≠ r.f0) → rmStep out r = out ++ [⟨r.f0, onceGo [] r.f1⟩]
  | [], _ => rfl
  | o :: t, hno => by
    unfold rmStep
    have h0 : o.f0 ≠ r.f0 := hno 0 (Nat.succ_pos _)
    rw [if_neg h0, rm_none r t (fun j hl => hno (j + 1) (Nat.succ_lt_succ hl))]
    rfl
def Within (out : List S32) (n : Nat) : Prop := ∀ o ∈ out, o.f1.length ≤ n
def RMem (w : World) (v : Value) (out : List S32) (wr : World) : Prop := Below w.heap.size w wr ∧ Kd.S k32 32 wr w.heap.size (fun _ => True) v out
theorem onceGo_snoc (l : List ByteArray) (x : ByteArray) : ∀ acc, onceGo acc (l ++ [x]) = if inS (onceGo acc l) x = true then onceGo acc l else onceGo acc l ++ [x] := by
  induction l with
  | nil => intro acc; rfl
  | cons y l ih =>
    intro acc
    rw [List.cons_append, onceGo, onceGo]
    by_cases h : inS acc y = true
    · rw [if_pos h, if_pos h]; exact ih acc
    · rw [if_neg h, if_neg h]; exact ih _
theorem within_step (r : S32) : ∀ (out : List S32) (n : Nat), Within out n → Within (rmStep out r) (n + r.f1.length)
  | [], n, _ => by
    intro o ho
    rw [rmStep, List.mem_singleton] at ho
    subst ho
    have := onceGo_len r.f1 []
    simp at this ⊢; omega
  | o :: t, n, h => by
    intro q hq
    unfold rmStep at hq
    split at hq
    · rcases List.mem_cons.1 hq with rfl | hq
      · have h1 := onceGo_len r.f1 o.f1
        have h2 := h o (List.mem_cons_self)
        show (onceGo o.f1 r.f1).length ≤ _
        omega
      · have := h q (List.mem_cons_of_mem _ hq); omega
    · rcases List.mem_cons.1 hq with rfl | hq
      · have := h q (List.mem_cons_self); omega
      · exact within_step r t n (fun o ho => h o (List.mem_cons_of_mem _ ho)) q hq
/-- append(out, rule), a rule without texts -/
theorem rules_push {w W : World} {n : Nat} (hn : W.heap.size = n) {s y : Operand} {v : Value} {out : List S32} {x : ByteArray} {ops : Array Oper} {rest : List Oper} {o : Oper} {a : Act} {Q : Exit → Act → World → Prop}
    (hgd : o.guard = none) (ho : o.op = .call { callee := .builtin .append, args := #[s, y], argTypes := #[23, 23] }) (hs : a.eval s = v) (hy : a.eval y = .slice (some ⟨n, 0, none⟩) 1 1)
    (hM : RMem w v out W) (hl : (out.length + 1) * 40 ≤ 140737488355328)
    (h : ∀ v1 w1, RMem w v1 (out ++ [⟨x, []⟩]) w1 → wpList Try.prog ops Q rest (a.put o.dst v1) w1) : wpList Try.prog ops Q (o :: rest) a (W.alloc (.cells #[.string x, .slice none 0 0] 32)) := by
  subst hn
  exact Kd.S_append k32 (w0 := w) (W := W) w.heap.size hgd s y 23 32 (.agg #[.string ⟨#[]⟩, .slice none 0 0]) 40 ho Try.underlying23 info32 rfl (by decide) (by omega) v out ⟨x, []⟩ [.string x, .slice none 0 0] (fun _ => True) (fun _ => False) hs hy
    (k32_mkM _ _ _ ⟨x, []⟩ (Kd.R_nil _ _ _ _ _)) (fun _ hk => hk.elim) (fun _ _ => trivial) (Kd.S_mono hM.2 (fun _ _ => ⟨trivial, fun h => h⟩)) hM.1 hM.1.size hl (fun v1 w1 h1 hb _ _ => h v1 w1 ⟨hb, h1⟩)
section
variable {w wr : World} {A : Option Addr} {n c g : Nat} {out : List S32} {v : Value}
theorem RMem.head (h : RMem w (.slice A n c) out wr) (hp : 0 < out.length) : ∃ g, A = some ⟨g, 0, none⟩ ∧ w.heap.size ≤ g ∧ n = out.length := by
  obtain ⟨hb, hS⟩ := h
  have hr := Kd.R_reads' (Kd.S_R hS)
  have hn : out.length = n := hr.1.symm
  obtain ⟨ad, e, _⟩ := hr.2.2.2.2 (by omega)
  subst e
  obtain ⟨g, rfl⟩ := Kd.R_head (Kd.S_R hS)
  exact ⟨g, rfl, Kd.S_base hS g (by simp [Value.ownBlock]), hn.symm⟩
theorem RMem.below_ (h : RMem w v out wr) {w1 : World} (hb : Below wr.heap.size wr w1) : RMem w v out w1 := ⟨below_then h.1 h.1.size hb, Kd.S_below h.2 hb⟩
/-- row k's cells; what an append to its texts, stored there, leaves -/
theorem RMem.lend (h : RMem w (.slice (some ⟨g, 0, none⟩) n c) out wr) (k : Nat) (hk : k < out.length) : ∃ (AD : Option Addr) (cD : Nat) (oki : Nat → Prop),
    wr.cell? ⟨g, k * 2, none⟩ = some (.string out[k].f0) ∧ wr.cell? ⟨g, k * 2 + 1, none⟩ = some (.slice AD out[k].f1.length cD) ∧ wr.frozen? ⟨g, k * 2 + 1, none⟩ = false ∧
    Kd.R Kd.string 9 wr w.heap.size oki (.slice AD out[k].f1.length cD) out[k].f1 ∧ ∀ (w1 : World) (v1 : Value) (ys : List ByteArray), Kd.R Kd.string 9 w1 w.heap.size (fun k => oki k ∨ wr.heap.size ≤ k) v1 ys → Below w.heap.size w w1 → Kept wr w1 oki →
      RMem w (.slice (some ⟨g, 0, none⟩) n c) (out.set k ⟨out[k].f0, ys⟩) (w1.setCell ⟨g, k * 2 + 1, none⟩ v1) ∧ w1.frozen? ⟨g, k * 2 + 1, none⟩ = false ∧ (w1.cell? ⟨g, k * 2 + 1, none⟩).isSome = true := by
  obtain ⟨hb, hS⟩ := h
  have hn : out.length = n := (Kd.R_reads' (Kd.S_R hS)).1.symm
  obtain ⟨oki, cs, hcl, hM, hcc, hfr, hoki, hH⟩ := Kd.S_elem hS z32 (k : Int) (Int.natCast_nonneg _) (by omega)
  simp only [Int.toNat_natCast] at *
  have hx : out.getD k z32 = out[k] := by rw [List.getD_eq_getElem?_getD, List.getElem?_eq_getElem hk]; rfl
  rw [hx] at hM
  obtain ⟨vD, rfl, hR⟩ := k32_openM hM
  obtain ⟨AD, cD, rfl⟩ := Kd.R_slice hR
  have hc0 := hcc 0 _ rfl
  have hc1 := hcc 1 _ rfl
  refine ⟨AD, cD, oki, hc0, hc1, hfr 1, hR, ?_⟩
  intro w1 v1 ys hR1 hb1 hkp
  have hgl : g < wr.heap.size := World.block_lt_of_cell? _ _ hc0
  have hgb : w.heap.size ≤ g := Kd.S_base hS g (by simp [Value.ownBlock])
  have hgo : ¬ oki g := fun hg => (hoki g hg).2 rfl
  have hsz := hkp.1
  obtain ⟨A1, c1, rfl⟩ := Kd.R_slice hR1
  have hH1 := Kd.H_step (Kd.H_widen hH) (w1 := w1) (fun q _ hq hlt => hkp.2 q hlt (fun h => hq (.inl h)))
  have hMx : k32.M w1 w.heap.size (fun q => oki q ∨ True ∧ wr.heap.size ≤ q) ⟨out[k].f0, ys⟩ [.string out[k].f0, .slice A1 ys.length c1] :=
    k32_mkM w1 w.heap.size _ ⟨out[k].f0, ys⟩ (Kd.R_mono hR1 (fun q hq => hq.elim .inl (fun h => .inr ⟨trivial, h⟩)))
  have hfin := Kd.S_seg (okg := fun _ => False) (seg := [.slice A1 ys.length c1]) (j := 1) (Kd.H_mono hH1 (fun q hq => ⟨hq, fun h => h⟩)) (Int.natCast_nonneg _) (by omega) (show 1 + 1 ≤ 2 by decide) hMx (fun q hq => .inl hq) (fun _ h => h.elim)
  simp only [Int.toNat_natCast] at hfin
  have he : w1.setCells g (k * 2 + 1) [.slice A1 ys.length c1] = w1.setCell ⟨g, k * 2 + 1, none⟩ (.slice A1 ys.length c1) := by
    first | rfl | simp [World.setCells]
  have hS1 : Kd.S k32 32 (w1.setCells g (k * 2 + 1) [.slice A1 ys.length c1]) w.heap.size (fun _ => True) (.slice (some ⟨g, 0, none⟩) n c) (out.set k ⟨out[k].f0, ys⟩) := hfin.1
  rw [he] at hS1
  have hblk : w1.heap[g]? = wr.heap[g]? := hkp.2 g hgl hgo
  refine ⟨⟨hb1.setCell (p := ⟨g, k * 2 + 1, none⟩) hgb _, hS1⟩, ?_, ?_⟩
  · have := hfr 1
    unfold World.frozen? at this ⊢
    dsimp only at this ⊢
    rw [hblk]; exact this
  · have : w1.cell? ⟨g, k * 2 + 1, none⟩ = wr.cell? ⟨g, k * 2 + 1, none⟩ := by
      unfold World.cell?
      dsimp only
      rw [hblk]
    rw [this]
    have h1 : wr.cell? ⟨g, k * 2 + 1, none⟩ = some (.slice AD out[k].f1.length cD) := hc1
    rw [h1]; rfl
end
theorem add_ev (l : List ByteArray) (x : ByteArray) (hl : l.length < 8796093022208) : ∀ d i : Nat, i + d = l.length → (∀ j, (h : j < i) → (hj : j < l.length) → l[j].toList ≠ x.toList) →
    Ev (fun k => brickyardref16_add.l0 k l x (i : Int)) (if inS l x = true then l else l ++ [x]) := by
  have heq : ∀ y : ByteArray, y.toList = x.toList ↔ (y.data.toList == x.data.toList) = true := by
    intro y
    rw [toList_L, toList_L]
    exact beq_iff_eq.symm
  intro d
  induction d with
  | zero =>
    intro i hi hno
    refine ev_succ ?_
    simp only [brickyardref16_add.l0]
    refine ev_ite_neg (by omega) (ev_ite_pos hl (ev_const ?_))
    rw [if_neg]
    unfold inS
    intro h
    rw [List.any_eq_true] at h
    obtain ⟨y, hy, he⟩ := h
    obtain ⟨j, hj, rfl⟩ := List.getElem_of_mem hy
    exact hno j (by omega) hj ((heq _).2 he)
  | succ d ih =>
    intro i hi hno
    have hlt : i < l.length := by omega
    have hrd : rdOf ByteArray.empty l (i : Int) = l[i] := by
      unfold rdOf; rw [Int.toNat_natCast, List.getD_eq_getElem?_getD, List.getElem?_eq_getElem hlt]; rfl
    refine ev_succ ?_
    simp only [brickyardref16_add.l0]
    rw [hrd]
    refine ev_ite_pos (by omega) (ev_ite_pos (by omega) ?_)
    by_cases h : l[i].toList = x.toList
    · refine ev_ite_pos h (ev_const ?_)
      rw [if_pos]
      unfold inS
      rw [List.any_eq_true]
      exact ⟨l[i], List.getElem_mem hlt, (heq _).1 h⟩
    · refine ev_ite_neg h ?_
      have := ih (i + 1) (by omega) (fun j hj hjl => by
        rcases Nat.lt_succ_iff_lt_or_eq.1 hj with hj | rfl
        · exact hno j hj hjl
        · exact h)
      rw [w64_ (by omega) (by omega)]
      exact this
set_option maxHeartbeats 4000000 in
set_option maxRecDepth 1000000 in
theorem ref16_Merge.calls (A0 : Option Addr) (c0 : Nat) (l0 : List S32) (w : World) (hr0 : Kd.C k32 w A0 l0.length l0) (hc0 : l0.length ≤ c0) (h : Small l0) :
    Calls Try.prog 16 #[.slice A0 l0.length c0] w fun e w' => ∃ v0_ : Value, e = .returned v0_ ∧ Kd.S k32 32 w' w.heap.size (fun _ => True) v0_ (rmerge l0) ∧ Below w.heap.size w w' := by
  have HS := Aside0.mk h
  have HC := Aside0.mk hr0
  have hlen := h.1
  clear h hr0
  have hM0 : RMem w (.slice none 0 0) [] w := ⟨Below.refl _ _, Kd.S_nil _ _ _ _ _⟩
  go_enter Try.func16, Try.ntmps16
  go_wp2
  go_loopg [3, 4] (l0.length + 1) (fun n vO iv wr => ∃ (i : Nat) (out : List S32), iv = .int .i64 (i : Int) ∧ Aside0 (i + n = l0.length + 1 ∧ out.length ≤ i ∧ Within out (sumD (l0.take i))) ∧ Aside0 (out = rmerge (l0.take i)) ∧ Aside0 (RMem w vO out wr))
  case atStart => exact ⟨0, [], rfl, ⟨by omega, Nat.le_refl _, fun _ h => by cases h⟩, ⟨by rw [List.take_zero]; rfl⟩, ⟨hM0⟩⟩
  case round =>
    obtain ⟨i, out, rfl, ⟨hn, hol, hwi⟩, HO, ⟨hM⟩⟩ := hrel
    clear hM0
    obtain ⟨AO, cO, rfl⟩ := Kd.R_slice (Kd.S_R hM.2)
    by_cases c1 : i < l0.length
    case neg =>
      have c1b : decide ((i : Int) < (l0.length : Int)) = false := decide_eq_false (by omega)
      have hfin : out = rmerge l0 := by rw [HO.out, List.take_of_length_le (by omega)]
      go_wp2
      go_ret
      exact ⟨_, rfl, hfin ▸ hM.2, hM.1⟩
    have c1b : decide ((i : Int) < (l0.length : Int)) = true := decide_eq_true (by omega)
    obtain ⟨adr, A1, c1', rfl, hx0, hx1, hl1, hC1⟩ := at_T32 HC.out (i : Int) (Int.natCast_nonneg _) (by omega)
    have hrd : rd_T32 l0 (i : Int) = l0[i] := by
      unfold rd_T32; rw [Int.toNat_natCast, List.getD_eq_getElem?_getD, List.getElem?_eq_getElem c1]; rfl
    rw [hrd] at hx0 hx1 hl1 hC1
    rw [Int.toNat_natCast] at hx0 hx1
    have hsd : sumD (l0.take (i + 1)) = sumD (l0.take i) + l0[i].f1.length := by
      unfold sumD
      rw [List.take_succ_eq_append_getElem c1, List.map_append, List.sum_append, List.map_singleton, List.sum_singleton]
    have hsm : sumD (l0.take (i + 1)) ≤ 1000000 := Nat.le_trans (sum_take l0 (i + 1)) HS.out.2.1
    have hnx : rmerge (l0.take (i + 1)) = rmStep out l0[i] := by rw [HO.out]; unfold rmerge; rw [List.take_succ_eq_append_getElem c1, List.foldl_append]; rfl
    obtain ⟨r, hr⟩ : ∃ r, l0[i] = r := ⟨_, rfl⟩
    rw [hr] at hx0 hx1 hl1 hC1 hsd hnx
    have HNX := Aside0.mk hnx
    clear hrd hr hnx HO
    go_wp2_with fail
    obtain ⟨ws, hws⟩ : ∃ ws, ws = wr := ⟨_, rfl⟩
    subst hws
    obtain ⟨gO, hgO⟩ : ∃ gO, gO = gk := ⟨_, rfl⟩
    subst hgO
    have hbb := Below.refl ws.heap.size ws
    go_loopg [5] (out.length + 1) (fun n kv wq => ∃ k : Nat, kv = .int .i64 (k : Int) ∧ Aside0 (k + n = out.length + 1 ∧ k ≤ out.length) ∧ Aside0 (∀ j, j < k → (h : j < out.length) → out[j].f0 ≠ r.f0) ∧ Aside0 (Below ws.heap.size ws wq))
    case atStart => exact ⟨0, rfl, ⟨Nat.zero_add _, Nat.zero_le _⟩, ⟨fun j h => absurd h (Nat.not_lt_zero _)⟩, ⟨hbb⟩⟩
    case round =>
      obtain ⟨k, rfl, ⟨hk, hkl⟩, ⟨hno⟩, ⟨hbq⟩⟩ := hrel
      clear hbb
      have hMq := hM.below_ hbq
      have hyq : wr.cell? (adr.add (i * 2)) = some (.string r.f0) := (hMq.1.cell (World.block_lt_of_cell? _ _ hx0)).trans hx0
      by_cases k1 : k < out.length
      case neg =>
        have k1b : decide ((k : Int) < (out.length : Int)) = false := decide_eq_false (by omega)
        have k1e : k = out.length := by omega
        have K1E := Aside0.mk k1e
        have hkeq : ((k : Int) == (out.length : Int)) = true := by rw [k1e]; simp
        have hrm := rm_none r out (fun j h => hno j (by omega) h)
        have hel0 : ∀ h, ((out ++ [(⟨r.f0, []⟩ : S32)])[k]'h) = ⟨r.f0, []⟩ := fun h => by subst k1e; simp
        have hset : ∀ y : S32, (out ++ [(⟨r.f0, []⟩ : S32)]).set k y = out ++ [y] := fun y => by subst k1e; simp
        clear k1e
        go_wp2_with fail
        go_quiet (fail)
        have hMd := hMq.below_ (pw_below_drewN (Below.refl _ _) nq)
        go_wp2_with (first | ((with_reducible refine gate_builtin (b := .append) (xs := #[.tmp 36, .tmp 43]) rfl ?_); at_builtin; refine rules_push (W := wr.drewN nq) (by simp) rfl rfl rfl rfl hMd (by omega) ?_; intro v1 w1 hM1))
        have hk2 : k < (out ++ [(⟨r.f0, []⟩ : S32)]).length := by have := K1E.out; simp; omega
        have he1 := congrArg S32.f0 (hel0 hk2)
        have hel1 : ((out ++ [(⟨r.f0, []⟩ : S32)])[k]'hk2).f1.length ≤ sumD (l0.take i) := by rw [hel0]; exact Nat.zero_le _
        have hfin0 : (out ++ [(⟨r.f0, []⟩ : S32)]).set k ⟨r.f0, onceGo ((out ++ [(⟨r.f0, []⟩ : S32)])[k]'hk2).f1 r.f1⟩ = rmStep out r := by rw [hset, hel0, hrm]
        have hpos : 0 < (out ++ [(⟨r.f0, []⟩ : S32)]).length := by simp
        obtain ⟨o1, kf, hE1, hEl1, hFin0, hPos, hM2⟩ : ∃ (o1 : List S32) (kf : k < o1.length), o1[k].f0 = r.f0 ∧ o1[k].f1.length ≤ sumD (l0.take i) ∧ o1.set k ⟨r.f0, onceGo o1[k].f1 r.f1⟩ = rmStep out r ∧ 0 < o1.length ∧ RMem w v1 o1 w1 := ⟨_, hk2, he1, hel1, hfin0, hpos, hM1⟩
        clear hel0 hset hrm K1E hkeq k1b hno hM hMq hMd he1 hel1 hfin0 hpos hM1 hk2
        have hk2 := kf
        have he1 := hE1
        have hel1 := hEl1
        have hfin0 := hFin0
        have hM1 := hM2
        have hpos := hPos
        clear hE1 hEl1 hFin0 hPos hM2
        obtain ⟨Av, cv, rfl⟩ := Kd.R_slice (Kd.S_R hM1.2)
        obtain ⟨g, rfl, hg0, _⟩ := hM1.head hpos
        obtain ⟨e0, he0⟩ : ∃ e0, (o1[k]'hk2).f1 = e0 := ⟨_, rfl⟩
        have hMs : RMem w (.slice (some ⟨g, 0, none⟩) o1.length cv) (o1.set k ⟨r.f0, onceGo e0 (r.f1.take 0)⟩) w1 := by
          have hxx : (⟨r.f0, e0⟩ : S32) = o1[k]'hk2 := by rw [← he0, ← he1]
          rw [List.take_zero, show onceGo e0 [] = e0 from rfl, hxx, List.set_getElem_self]
          exact hM1
        rw [he0] at hel1 hfin0
        have hel : e0.length ≤ sumD (l0.take i) := hel1
        have hfn := hfin0
        clear he0 hel1 hfin0 he1
        go_loopg [6] (r.f1.length + 1) (fun n nv wq => ∃ j : Nat, nv = .int .i64 (j : Int) ∧ Aside0 (j + n = r.f1.length + 1 ∧ j ≤ r.f1.length) ∧ Aside0 (RMem w (.slice (some ⟨g, 0, none⟩) o1.length cv) (o1.set k ⟨r.f0, onceGo e0 (r.f1.take j)⟩) wq))
        case atStart => exact ⟨0, rfl, ⟨Nat.zero_add _, Nat.zero_le _⟩, ⟨hMs⟩⟩
        case round =>
          obtain ⟨j, rfl, ⟨hj, hjl⟩, ⟨hMj⟩⟩ := hrel
          clear hMs
          have hyj : wr.cell? ⟨(adr.add (i * 2)).block, (adr.add (i * 2)).off + 1, none⟩ = some (.slice A1 r.f1.length c1') := (hMj.1.cell (World.block_lt_of_cell? _ _ hx1)).trans hx1
          by_cases j1 : j < r.f1.length
          case neg =>
            have j1b : decide ((j : Int) < (r.f1.length : Int)) = false := decide_eq_false (by omega)
            rw [List.take_of_length_le (by omega), hfn] at hMj
            have hwn := within_step r out _ hwi
            rw [← hsd] at hwn
            have hln := rm_len out r
            go_wp2
            go_roundg (gO - 1)
            case measure => omega
            case rel => exact ⟨i + 1, rmStep out r, by first | rfl | (rw [w64_ (by omega) (by omega)]; rfl) | simp, ⟨by omega, by omega, hwn⟩, ⟨HNX.out.symm⟩, ⟨hMj⟩⟩
          have j1b : decide ((j : Int) < (r.f1.length : Int)) = true := decide_eq_true (by omega)
          obtain ⟨ad1, rfl, hxj⟩ := Kd.at_string hC1 (j : Int) (Int.natCast_nonneg _) (by omega)
          rw [Int.toNat_natCast] at hxj
          have hrx : rdOf ByteArray.empty r.f1 (j : Int) = r.f1[j] := by
            unfold rdOf; rw [Int.toNat_natCast, List.getD_eq_getElem?_getD, List.getElem?_eq_getElem j1]; rfl
          rw [hrx] at hxj
          have hsnoc := onceGo_snoc (r.f1.take j) r.f1[j] e0
          rw [← List.take_succ_eq_append_getElem j1] at hsnoc
          have hcl : (onceGo e0 (r.f1.take j)).length < 8796093022208 := by have := onceGo_len (r.f1.take j) e0; rw [List.length_take] at this; omega
          obtain ⟨x, hx⟩ : ∃ x, r.f1[j] = x := ⟨_, rfl⟩
          rw [hx] at hxj hsnoc
          obtain ⟨cur, hcur⟩ : ∃ cur, onceGo e0 (r.f1.take j) = cur := ⟨_, rfl⟩
          rw [hcur] at hMj hsnoc hcl
          obtain ⟨res, hres⟩ : ∃ res, onceGo e0 (r.f1.take (j + 1)) = res := ⟨_, rfl⟩
          have HRES := Aside0.mk hres
          rw [hres] at hsnoc
          have hev := add_ev cur x hcl cur.length 0 (Nat.zero_add _) (fun j h => absurd h (Nat.not_lt_zero _))
          rw [← hsnoc] at hev
          obtain ⟨ka, hka⟩ := ev_some hev
          have HKA : Aside0 (brickyardref16_add.f ka cur x = some res) := ⟨hka⟩
          clear hrx hx hcur hres hsnoc hev hka
          have hMd := hMj.below_ (below_drew (Below.refl _ _))
          have hkj : k < (o1.set k (⟨r.f0, cur⟩ : S32)).length := by rw [List.length_set]; exact hk2
          obtain ⟨AD, cD, oki, hc0, hc1, hfr, hRD, hput⟩ := hMd.lend k hkj
          rw [List.getElem_set_self] at hc0 hc1 hRD
          simp only [List.getElem_set_self, List.set_set] at hput
          have hyx : wr.cell? (ad1.add j) = some (.string x) := (hMj.1.cell (World.block_lt_of_cell? _ _ hxj)).trans hxj
          have hl1 := World.block_lt_of_cell? _ _ hx1
          have hl2 := World.block_lt_of_cell? _ _ hxj
          have hn1 : g ≠ (adr.add (i * 2)).block := by have : (adr.add (i * 2)).block < w.heap.size := hl1; omega
          have hn2 : g ≠ (ad1.add j).block := by omega
          have hBd := hMd.1
          have hc1' : wr.cell? ⟨g, k * 2 + 1, none⟩ = some (.slice AD cur.length cD) := hc1
          have hkf : k < o1.length := hk2
          have hkl2 : (o1.set k (⟨r.f0, cur⟩ : S32)).length = o1.length := List.length_set ..
          have hres2 : ∀ w2 : World, Below w.heap.size w w2 → w2.cell? ⟨(adr.add (i * 2)).block, (adr.add (i * 2)).off + 1, none⟩ = some (.slice (some ad1) r.f1.length c1') ∧ w2.cell? (ad1.add j) = some (.string x) := fun w2 hb =>
            ⟨(hb.cell (World.block_lt_of_cell? _ _ hx1)).trans hx1, (hb.cell (World.block_lt_of_cell? _ _ hxj)).trans hxj⟩
          go_wp2_with fail
          go_region_with (first | (go_at_call 31; refine (brickyardref16_add.calls ka oki _ cur x res w wr.drew hBd hRD HKA.out).mono ?_; rintro e w2 ⟨v2, rfl, hR2, hB2, hK2⟩; obtain ⟨A2, c2, rfl⟩ := Kd.R_slice hR2; obtain ⟨hM2, hf2, hi2⟩ := hput w2 _ res hR2 hB2 hK2; obtain ⟨u2, hu2⟩ := Option.isSome_iff_exists.1 hi2; obtain ⟨hy2, hy3⟩ := hres2 w2 hB2))
          all_goals (go_wp2; go_roundg (gk - 1); (case measure => omega); (case rel => exact ⟨j + 1, by first | rfl | (rw [w64_ (by omega) (by omega)]; rfl) | simp, ⟨by omega, by omega⟩, ⟨by rw [HRES.out]; exact hM2⟩⟩))
      have k1b : decide ((k : Int) < (out.length : Int)) = true := decide_eq_true (by omega)
      obtain ⟨g, rfl, hg0, _⟩ := hMq.head (by omega)
      obtain ⟨ADk, cDk, okk, hck, _, _, _, _⟩ := hMq.lend k k1
      by_cases k2 : out[k].f0 = r.f0
      case neg =>
        have k2b : (out[k].f0.toList == r.f0.toList) = false := beq_eq_false_iff_ne.mpr (fun e => k2 (by rw [toList_L, toList_L] at e; exact L_inj e))
        go_wp2_with fail
        go_quiet (fail)
        have hbn := hbq.trans ((pw_below_drewN (Below.refl wr.heap.size wr) nq).mono hbq.size)
        have hno2 : ∀ j, j < k + 1 → (h : j < out.length) → out[j].f0 ≠ r.f0 := fun j hj h => by
          rcases Nat.lt_succ_iff_lt_or_eq.1 hj with hj | rfl
          · exact hno j hj h
          · exact k2
        go_wp2
        go_roundg (gk - 1)
        case measure => omega
        case rel => exact ⟨k + 1, by first | rfl | (rw [w64_ (by omega) (by omega)]; rfl) | simp, ⟨by omega, by omega⟩, ⟨hno2⟩, ⟨hbn⟩⟩
      have k2b : (out[k].f0.toList == r.f0.toList) = true := beq_iff_eq.mpr (by rw [k2])
      have hkne : ((k : Int) == (out.length : Int)) = false := by rw [beq_eq_false_iff_ne]; omega
      have hk2 := k1
      have HE1 := Aside0.mk k2
      have hel1 := hwi _ (List.getElem_mem k1)
      have hfin0 := (rm_at r out k k1 hno k2).symm
      rw [k2] at hck
      have k2b' : (r.f0.toList == r.f0.toList) = true := beq_iff_eq.mpr rfl
      clear k2 hno
      go_wp2_with fail
      go_quiet (fail)
      have hM1 := hMq.below_ (pw_below_drewN (Below.refl wr.heap.size wr) nq)
      have he1 := HE1.out
      clear hMq k2b k2b' HE1 hck
      go_wp2_with fail
      obtain ⟨e0, he0⟩ : ∃ e0, (out[k]'hk2).f1 = e0 := ⟨_, rfl⟩
      have hMs : RMem w (.slice (some ⟨g, 0, none⟩) out.length cO) (out.set k ⟨r.f0, onceGo e0 (r.f1.take 0)⟩) (wr.drewN nq) := by
        have hxx : (⟨r.f0, e0⟩ : S32) = out[k]'hk2 := by rw [← he0, ← he1]
        rw [List.take_zero, show onceGo e0 [] = e0 from rfl, hxx, List.set_getElem_self]
        exact hM1
      rw [he0] at hel1 hfin0
      have hel : e0.length ≤ sumD (l0.take i) := hel1
      have hfn := hfin0
      clear he0 hel1 hfin0 he1
      go_loopg [6] (r.f1.length + 1) (fun n nv wq => ∃ j : Nat, nv = .int .i64 (j : Int) ∧ Aside0 (j + n = r.f1.length + 1 ∧ j ≤ r.f1.length) ∧ Aside0 (RMem w (.slice (some ⟨g, 0, none⟩) out.length cO) (out.set k ⟨r.f0, onceGo e0 (r.f1.take j)⟩) wq))
      case atStart => exact ⟨0, rfl, ⟨Nat.zero_add _, Nat.zero_le _⟩, ⟨hMs⟩⟩
      case round =>
        obtain ⟨j, rfl, ⟨hj, hjl⟩, ⟨hMj⟩⟩ := hrel
        clear hMs
        have hyj : wr.cell? ⟨(adr.add (i * 2)).block, (adr.add (i * 2)).off + 1, none⟩ = some (.slice A1 r.f1.length c1') := (hMj.1.cell (World.block_lt_of_cell? _ _ hx1)).trans hx1
        by_cases j1 : j < r.f1.length
        case neg =>
          have j1b : decide ((j : Int) < (r.f1.length : Int)) = false := decide_eq_false (by omega)
          rw [List.take_of_length_le (by omega), hfn] at hMj
          have hwn := within_step r out _ hwi
          rw [← hsd] at hwn
          have hln := rm_len out r
          go_wp2
          go_roundg (gO - 1)
          case measure => omega
          case rel => exact ⟨i + 1, rmStep out r, by first | rfl | (rw [w64_ (by omega) (by omega)]; rfl) | simp, ⟨by omega, by omega, hwn⟩, ⟨HNX.out.symm⟩, ⟨hMj⟩⟩
        have j1b : decide ((j : Int) < (r.f1.length : Int)) = true := decide_eq_true (by omega)
        obtain ⟨ad1, rfl, hxj⟩ := Kd.at_string hC1 (j : Int) (Int.natCast_nonneg _) (by omega)
        rw [Int.toNat_natCast] at hxj
        have hrx : rdOf ByteArray.empty r.f1 (j : Int) = r.f1[j] := by
          unfold rdOf; rw [Int.toNat_natCast, List.getD_eq_getElem?_getD, List.getElem?_eq_getElem j1]; rfl
        rw [hrx] at hxj
        have hsnoc := onceGo_snoc (r.f1.take j) r.f1[j] e0
        rw [← List.take_succ_eq_append_getElem j1] at hsnoc
        have hcl : (onceGo e0 (r.f1.take j)).length < 8796093022208 := by have := onceGo_len (r.f1.take j) e0; rw [List.length_take] at this; omega
        obtain ⟨x, hx⟩ : ∃ x, r.f1[j] = x := ⟨_, rfl⟩
        rw [hx] at hxj hsnoc
        obtain ⟨cur, hcur⟩ : ∃ cur, onceGo e0 (r.f1.take j) = cur := ⟨_, rfl⟩
        rw [hcur] at hMj hsnoc hcl
        obtain ⟨res, hres⟩ : ∃ res, onceGo e0 (r.f1.take (j + 1)) = res := ⟨_, rfl⟩
        have HRES := Aside0.mk hres
        rw [hres] at hsnoc
        have hev := add_ev cur x hcl cur.length 0 (Nat.zero_add _) (fun j h => absurd h (Nat.not_lt_zero _))
        rw [← hsnoc] at hev
        obtain ⟨ka, hka⟩ := ev_some hev
        have HKA : Aside0 (brickyardref16_add.f ka cur x = some res) := ⟨hka⟩
        clear hrx hx hcur hres hsnoc hev hka
        have hMd := hMj.below_ (below_drew (Below.refl _ _))
        have hkj : k < (out.set k (⟨r.f0, cur⟩ : S32)).length := by rw [List.length_set]; exact hk2
        obtain ⟨AD, cD, oki, hc0, hc1, hfr, hRD, hput⟩ := hMd.lend k hkj
        rw [List.getElem_set_self] at hc0 hc1 hRD
        simp only [List.getElem_set_self, List.set_set] at hput
        have hyx : wr.cell? (ad1.add j) = some (.string x) := (hMj.1.cell (World.block_lt_of_cell? _ _ hxj)).trans hxj
        have hl1 := World.block_lt_of_cell? _ _ hx1
        have hl2 := World.block_lt_of_cell? _ _ hxj
        have hn1 : g ≠ (adr.add (i * 2)).block := by have : (adr.add (i * 2)).block < w.heap.size := hl1; omega
        have hn2 : g ≠ (ad1.add j).block := by omega
        have hBd := hMd.1
        have hc1' : wr.cell? ⟨g, k * 2 + 1, none⟩ = some (.slice AD cur.length cD) := hc1
        have hkf : k < out.length := hk2
        have hkl2 : (out.set k (⟨r.f0, cur⟩ : S32)).length = out.length := List.length_set ..
        have hres2 : ∀ w2 : World, Below w.heap.size w w2 → w2.cell? ⟨(adr.add (i * 2)).block, (adr.add (i * 2)).off + 1, none⟩ = some (.slice (some ad1) r.f1.length c1') ∧ w2.cell? (ad1.add j) = some (.string x) := fun w2 hb =>
          ⟨(hb.cell (World.block_lt_of_cell? _ _ hx1)).trans hx1, (hb.cell (World.block_lt_of_cell? _ _ hxj)).trans hxj⟩
        go_wp2_with fail
        go_region_with (first | (go_at_call 31; refine (brickyardref16_add.calls ka oki _ cur x res w wr.drew hBd hRD HKA.out).mono ?_; rintro e w2 ⟨v2, rfl, hR2, hB2, hK2⟩; obtain ⟨A2, c2, rfl⟩ := Kd.R_slice hR2; obtain ⟨hM2, hf2, hi2⟩ := hput w2 _ res hR2 hB2 hK2; obtain ⟨u2, hu2⟩ := Option.isSome_iff_exists.1 hi2; obtain ⟨hy2, hy3⟩ := hres2 w2 hB2))
        all_goals (go_wp2; go_roundg (gk - 1); (case measure => omega); (case rel => exact ⟨j + 1, by first | rfl | (rw [w64_ (by omega) (by omega)]; rfl) | simp, ⟨by omega, by omega⟩, ⟨by rw [HRES.out]; exact hM2⟩⟩))
end Go.Proofs.Ytahdgaaedilcmaa.P
