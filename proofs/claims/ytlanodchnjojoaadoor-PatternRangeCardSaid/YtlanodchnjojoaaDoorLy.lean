/- All branches are laid; the pattern's method lay. -/
import Derived.Test.YtlanodchnjojoaaDoorLp
namespace Go.Proofs.YtlanodchnjojoaaDoor
open Go.RowKit

def T.nodes : T → Nat
  | .nil => 0
  | .cons x r => x.nodes + r.nodes + 1
  | .pl .. => 0
  | .pg _ bs .. => bs.nodes
  | .lst ps => ps.nodes
theorem T.len_nodes : ∀ t : T, t.len ≤ t.nodes
  | .nil => Nat.le_refl _
  | .cons x r => by have := T.len_nodes r; simp only [T.len, T.nodes]; omega
  | .pl .. => Nat.zero_le _
  | .pg .. => Nat.zero_le _
  | .lst _ => Nat.zero_le _
theorem T.mem_nodes : ∀ (t y : T), y ∈ t.toL → y.nodes ≤ t.nodes ∧ y.deep ≤ t.deep
  | .nil, _, h => by simp [T.toL] at h
  | .cons x r, y, h => by
    rcases List.mem_cons.1 h with rfl | h
    · simp only [T.nodes, T.deep]; omega
    · have := T.mem_nodes r y h; simp only [T.nodes, T.deep]; omega
  | .pl .., _, h => by simp [T.toL] at h
  | .pg .., _, h => by simp [T.toL] at h
  | .lst .., _, h => by simp [T.toL] at h
theorem T.ok_mem0 : ∀ (t y : T), t.ok 0 = true → y ∈ t.toL → y.ok 2 = true
  | .nil, _, _, h => by simp [T.toL] at h
  | .cons x r, y, hk, h => by
    simp only [T.ok, Bool.and_eq_true] at hk
    rcases List.mem_cons.1 h with rfl | h
    · exact hk.1
    · exact T.ok_mem0 r y hk.2 h
  | .pl .., _, _, h => by simp [T.toL] at h
  | .pg .., _, _, h => by simp [T.toL] at h
  | .lst .., _, _, h => by simp [T.toL] at h
theorem T.ok_mem1 : ∀ (t y : T), t.ok 1 = true → y ∈ t.toL → y.ok 3 = true
  | .nil, _, _, h => by simp [T.toL] at h
  | .cons x r, y, hk, h => by
    simp only [T.ok, Bool.and_eq_true] at hk
    rcases List.mem_cons.1 h with rfl | h
    · exact hk.1
    · exact T.ok_mem1 r y hk.2 h
  | .pl .., _, _, h => by simp [T.toL] at h
  | .pg .., _, _, h => by simp [T.toL] at h
  | .lst .., _, _, h => by simp [T.toL] at h

theorem part_lay {w0 : World} {pb : Nat} {bv : Value} {ng z : Nat} {x : T} (hx : x.ok 3 = true) (hB : ∀ g bs l m z', x = .pg g bs l m z' → BrLay w0 pb bv ng z bs) : PartLay w0 pb bv ng z x := by
  intro w K G cv iv ls c h hK hrep hlen hsm
  obtain ⟨a, l, m, zz, va, vn, vc, rfl, rfl, ha, hwl, h1, h2, h3, h4⟩ := part_form2 hx hrep
  obtain ⟨ln, rfl⟩ : ∃ n : Nat, l = n := ⟨l.toNat, by omega⟩
  rw [gen_part] at hsm ⊢
  exact partLay_step ha hwl (fun g bs e => hB g bs ln m zz (by rw [e]; rfl)) (by omega) h3 h4 h hK hsm

theorem br_lay {w0 : World} {pb : Nat} {bv : Value} {ng z : Nat} : ∀ (d : Nat) (bs : T), bs.deep < d → bs.ok 0 = true → bs.nodes ≤ 5000 → BrLay w0 pb bv ng z bs
  | 0, _, h, _, _ => by omega
  | d + 1, bs, hd, hok, hn => fun w K G cv iv ls v h hK hv hsm => by
    refine brLay_step hok (fun ps x hps hx => ?_) h hK hv hsm (Nat.le_trans (T.len_nodes bs) hn) fun ps hps => ?_
    · have h1 := T.mem_nodes bs _ hps
      have h2 := T.mem_nodes ps x hx
      have h3 := T.ok_mem0 bs _ hok hps
      simp only [T.ok] at h3
      refine part_lay (T.ok_mem1 ps x h3 hx) fun g bs' l m z' e => ?_
      subst e
      have h4 := T.ok_mem1 ps _ h3 hx
      simp only [T.ok, Bool.and_eq_true] at h4
      simp only [T.nodes, T.deep] at h1 h2
      exact br_lay d bs' (by omega) h4.1 (by omega)
    · have h1 := T.mem_nodes bs _ hps
      have h2 := T.len_nodes ps
      simp only [T.nodes] at h1
      omega

theorem bases_get : ∀ (C : List Step) (n j : Nat), (bases C n)[j]? = C[j]?.map fun st => { st with base := n + total (C.take j) }
  | [], _, _ => by simp [bases]
  | st :: r, n, 0 => by simp [bases, total]
  | st :: r, n, j + 1 => by
    rw [bases, List.getElem?_cons_succ, bases_get r, List.getElem?_cons_succ]
    congr 1
    funext st'
    simp only [List.take_succ_cons, total, Step.mk.injEq, true_and]
    omega
theorem bases_len : ∀ (C : List Step) (n : Nat), (bases C n).length = C.length
  | [], _ => rfl
  | st :: r, n => by simp [bases, bases_len r]
theorem total_take : ∀ (C : List Step) (j : Nat) (st : Step), C[j]? = some st → total (C.take (j + 1)) = total (C.take j) + (st.loops.length + 1)
  | [], _, _, h => by simp at h
  | a :: r, 0, st, h => by simp at h; subst h; simp [total]
  | a :: r, j + 1, st, h => by
    simp at h
    have := total_take r j st h
    simp only [List.take_succ_cons, total] at this ⊢
    omega
theorem total_le : ∀ (C : List Step) (j : Nat), total (C.take j) ≤ total C
  | [], j => by simp
  | a :: r, 0 => by simp [total]
  | a :: r, j + 1 => by have := total_le r j; simp only [List.take_succ_cons, total]; omega

/-- The laid pattern, whose steps' first states are being set: i steps have theirs, k are counted. -/
structure FI (w0 w : World) (pb : Nat) (bv : Value) (ng z : Nat) (G : Gs) (cv iv : Value) (ls : List Value) (i k : Nat) (C' : List Step) : Prop where
  pat : Blk w pb 56 (ptCells bv ng z cv G.loops iv (total (G.code.take k)))
  turn : Turn (fun b => b = pb) w0 w
  pblt : pb < w0.heap.size
  co : w.ownsRow w0.heap.size 82 15 cv G.code.length (cCells C' ls)
  ll : ls.length = G.code.length
  cl : C'.length = G.code.length
  lo : ∀ (i : Nat) (st : Step) (lv : Value), G.code[i]? = some st → ls[i]? = some lv → LoopsAt w (brF w0.heap.size cv iv) lv st.loops
  done : ∀ j, j < i → C'[j]? = (bases G.code 0)[j]?
  todo : ∀ j, i ≤ j → C'[j]? = G.code[j]?

variable {w0 w : World} {pb : Nat} {bv : Value} {ng z : Nat} {G : Gs} {cv iv : Value} {ls : List Value} {i k : Nat} {C' : List Step}

theorem LI.toFI {K : List (Nat × Obj)} (h : LI w0 w pb bv ng z K G cv iv ls) : FI w0 w pb bv ng z G cv iv ls 0 0 G.code :=
  ⟨h.pat, h.turn, h.pblt, h.co, h.ll, rfl, fun i st lv h1 h2 => (h.lo i st lv h1 h2).keep (fun _ _ hF => hF.1) (Nat.le_refl _) fun _ _ _ => rfl, fun j hj => by omega, fun _ _ => rfl⟩

theorem FI.drew (h : FI w0 w pb bv ng z G cv iv ls i k C') : FI w0 w.drew pb bv ng z G cv iv ls i k C' :=
  { h with turn := h.turn.drew, lo := fun i st lv h1 h2 => (h.lo i st lv h1 h2).keep (fun _ _ hF => hF) (Nat.le_refl _) fun _ _ _ => rfl, co := h.co.kept (row := none) ⟨rfl, rfl, rfl, Nat.le_refl _, fun _ _ _ => rfl⟩ (by cases cv.ownBlock <;> simp) }

/-- One step's first state is set. -/
theorem FI.set (h : FI w0 w pb bv ng z G cv iv ls i k C') {cb n cap : Nat} (hcv : cv = .slice (some ⟨cb, 0, none⟩) n cap) {st : Step} (hst : G.code[i]? = some st) (x : Int) (hx : x = (total (G.code.take i) : Nat)) :
    FI w0 (w.setCell ⟨cb, i * 15 + 14, none⟩ (.int .i64 x)) pb bv ng z G cv iv ls (i + 1) k (C'.modify i fun st => { st with base := total (G.code.take i) }) := by
  subst hx
  have hc : cv.ownBlock = some cb := by rw [hcv]; rfl
  have hcb := h.co.lt _ hc
  have hpb := h.pblt
  have hi : i < C'.length := by rw [h.cl]; exact (List.getElem?_eq_some_iff.1 hst).1
  have hk1 : ∀ b, b ≠ cb → (w.setCell ⟨cb, i * 15 + 14, none⟩ (.int .i64 (total (G.code.take i) : Nat))).heap[b]? = w.heap[b]? := fun b hb => Below.heap_setCell w ⟨cb, i * 15 + 14, none⟩ _ b hb
  have hg1 := grown_setCell w ⟨cb, i * 15 + 14, none⟩ (.int .i64 (total (G.code.take i) : Nat))
  exact
  { pat := h.pat.set_other (p := ⟨cb, i * 15 + 14, none⟩) (by show pb ≠ cb; omega) (.int .i64 (total (G.code.take i) : Nat))
    turn := ⟨hg1.os.trans h.turn.os, hg1.tape.trans h.turn.tape, hg1.output.trans h.turn.output, Nat.le_trans h.turn.size hg1.size, fun b hb hn => (hk1 b (by omega)).trans (h.turn.block b hb hn)⟩
    pblt := h.pblt
    co := by
      rw [← cCells_set (fun st => { st with base := total (G.code.take i) }) 14 (.int .i64 (total (G.code.take i) : Nat)) (by omega) (fun _ _ => rfl) _ _ _ (h.ll.trans h.cl.symm) hi]
      exact ownsRow_set h.co hc _ _
    ll := h.ll
    cl := by rw [List.length_modify]; exact h.cl
    lo := fun i' st' lv h1 h2 => (h.lo i' st' lv h1 h2).keep (fun _ _ hF => hF) (by simp [size_set]) fun b hb hF => hk1 b fun e => hF.2.1 (by rw [hc, e])
    done := fun j hj => by
      rw [List.getElem?_modify]
      rcases Nat.lt_or_ge j i with h1 | h1
      · rw [h.done j h1]
        have : ¬ i = j := by omega
        simp [this]
      · have e : j = i := by omega
        subst e
        rw [h.todo j (Nat.le_refl _), bases_get, hst]
        simp
    todo := fun j hj => by
      rw [List.getElem?_modify, h.todo j (by omega)]
      have : ¬ i = j := by omega
      simp [this] }

/-- The states are counted on. -/
theorem FI.count (h : FI w0 w pb bv ng z G cv iv ls i k C') (k' : Nat) (y : Int) (hy : y = (total (G.code.take k') : Nat)) : FI w0 (w.setCell ⟨pb, 6, none⟩ (.int .i64 y)) pb bv ng z G cv iv ls i k' C' := by
  subst hy
  have hpb := h.pblt
  have hg2 := grown_setCell w ⟨pb, 6, none⟩ (.int .i64 (total (G.code.take k') : Nat))
  exact
  { h with
    pat := Blk.set h.pat 6 (.int .i64 (total (G.code.take k') : Nat))
    turn := h.turn.set rfl _
    co := h.co.kept hg2 (ownsRow_ne h.co h.pblt)
    lo := fun i' st' lv h1 h2 => (h.lo i' st' lv h1 h2).keep (fun _ _ hF => hF) (by simp [size_set]) fun b hb hF => Below.heap_setCell w ⟨pb, 6, none⟩ _ b (by have := hF.1; show b ≠ pb; omega) }

/-- A step's cells. -/
theorem FI.cell (h : FI w0 w pb bv ng z G cv iv ls i k C') {j : Nat} {st : Step} (hst : C'[j]? = some st) : ∃ cb cap lv, cv = .slice (some ⟨cb, 0, none⟩) G.code.length cap ∧ ls[j]? = some lv ∧ (∀ (t : Nat) (v : Value), (stepCells st lv)[t]? = some v → w.cell? ⟨cb, j * 15 + t, none⟩ = some v) ∧ ∀ t, w.frozen? ⟨cb, t, none⟩ = false := by
  have hj : j < G.code.length := by rw [← h.cl]; exact (List.getElem?_eq_some_iff.1 hst).1
  have hc := @World.ownsRow.cells _ _ _ _ _ _ _ h.co
  have hlen : j < ls.length := by rw [h.ll]; exact hj
  rcases h.co.2 with ⟨rfl, h1⟩ | ⟨g, cap, cur, rfl, h2, h3, h4, h5, h6, h7⟩
  · omega
  · refine ⟨g, cap, ls[j], rfl, List.getElem?_eq_getElem hlen, fun t v hv => ?_, fun t => by simp [World.frozen?, h3]⟩
    have ht : t < 15 := by have := (List.getElem?_eq_some_iff.1 hv).1; rw [stepCells_len] at this; exact this
    have := hc rfl (j * 15 + t) v (by rw [cCells_get _ _ j t st _ hst (List.getElem?_eq_getElem hlen) ht]; exact hv)
    rw [add_addr] at this
    exact this

/-- All is laid. -/
theorem FI.patAt (h : FI w0 w pb bv ng z G cv iv ls G.code.length G.code.length C') (hn : 0 < G.code.length) : ∃ cb cap, PatAt w.heap.size w pb cb cap (bases G.code 0) ng G.loops (total G.code) := by
  have hC : C' = bases G.code 0 := by
    apply List.ext_getElem?
    intro j
    rcases Nat.lt_or_ge j G.code.length with h1 | h1
    · exact h.done j h1
    · rw [List.getElem?_eq_none (by rw [h.cl]; exact h1), List.getElem?_eq_none (by rw [bases_len]; exact h1)]
  subst hC
  obtain ⟨cb, cap, lv0, hcv, _⟩ := h.cell (j := 0) (List.getElem?_eq_getElem (l := bases G.code 0) (by rw [bases_len]; exact hn))
  have htk : G.code.take G.code.length = G.code := List.take_length
  have hcb : cb < w.heap.size := (h.co.lt cb (by rw [hcv]; rfl)).2
  refine ⟨cb, cap, h.pat.lt, hcb, h.pat.cell (j := 1) rfl, ?_, h.pat.cell (j := 4) rfl, ?_, fun i st hi => ?_⟩
  · rw [bases_len, ← hcv]; exact h.pat.cell (j := 3) rfl
  · have := h.pat.cell (j := 6) rfl
    rw [htk] at this
    exact this
  · obtain ⟨cb', cap', lv, hcv', hlv, hce, _⟩ := h.cell hi
    have e : cb' = cb := by rw [hcv] at hcv'; injection hcv' with e1 _ _; injection e1 with e1; injection e1 with e1; exact e1.symm
    subst e
    rw [bases_get] at hi
    cases hs : G.code[i]? with
    | none => rw [hs] at hi; cases hi
    | some st0 =>
      rw [hs] at hi
      have hlp : st.loops = st0.loops := by simp at hi; rw [← hi]
      obtain ⟨la, lcap, hlv1, hlo⟩ := h.lo i st0 lv hs hlv
      rw [hlv1, ← hlp] at hce
      rw [← hlp] at hlo
      rcases hlo with hlo | ⟨lb, hla, hF, hlb, hlc⟩
      · exact ⟨la, 0, lcap, hce, fun j hj => by rw [hlo] at hj; simp at hj, fun j hj => by rw [hlo] at hj; simp at hj⟩
      · exact ⟨la, lb, lcap, hce, fun _ _ => hla, fun j hj => ⟨hlb, by rw [hlc j _ (List.getElem?_eq_getElem hj)]; simp [List.getElem?_eq_getElem hj]⟩⟩

end Go.Proofs.YtlanodchnjojoaaDoor
