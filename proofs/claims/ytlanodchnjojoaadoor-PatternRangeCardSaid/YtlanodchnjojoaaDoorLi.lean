/- How a pattern lies in memory while its code is laid. -/
import Derived.Test.YtlanodchnjojoaaDoorBr
import Derived.Test.YtlanodchnjojoaaDoorGe
namespace Go.Proofs.YtlanodchnjojoaaDoor
open Go.RowKit

def cCells : List Step → List Value → List Value
  | st :: r, lv :: ls => stepCells st lv ++ cCells r ls
  | _, _ => []
theorem stepCells_len (st : Step) (lv : Value) : (stepCells st lv).length = 15 := rfl
theorem cCells_len : ∀ (C : List Step) (ls : List Value), ls.length = C.length → (cCells C ls).length = C.length * 15
  | [], _, _ => by simp [cCells]
  | st :: r, [], h => by simp at h
  | st :: r, lv :: ls, h => by
    simp only [cCells, List.length_append, stepCells_len, cCells_len r ls (by simpa using h), List.length_cons]; omega
theorem cCells_snoc (st : Step) (lv : Value) : ∀ (C : List Step) (ls : List Value), ls.length = C.length → cCells (C ++ [st]) (ls ++ [lv]) = cCells C ls ++ stepCells st lv
  | [], [], _ => by simp [cCells]
  | [], _ :: _, h => by simp at h
  | _ :: _, [], h => by simp at h
  | a :: r, lv' :: ls, h => by
    simp only [List.cons_append, cCells, List.append_assoc]
    rw [cCells_snoc st lv r ls (by simpa using h)]
theorem cCells_get : ∀ (C : List Step) (ls : List Value) (i j : Nat) (st : Step) (lv : Value), C[i]? = some st → ls[i]? = some lv → j < 15 → (cCells C ls)[i * 15 + j]? = (stepCells st lv)[j]?
  | [], _, _, _, _, _, h, _, _ => by simp at h
  | _ :: _, [], _, _, _, _, _, h, _ => by simp at h
  | a :: r, lv' :: ls, 0, j, st, lv, h1, h2, hj => by
    simp at h1 h2; subst h1; subst h2
    rw [cCells, Nat.zero_mul, Nat.zero_add, List.getElem?_append_left (by rw [stepCells_len]; exact hj)]
  | a :: r, lv' :: ls, i + 1, j, st, lv, h1, h2, hj => by
    simp at h1 h2
    have e : (i + 1) * 15 + j = (stepCells a lv').length + (i * 15 + j) := by rw [stepCells_len]; omega
    rw [cCells, e, List.getElem?_append_right (by omega), Nat.add_sub_cancel_left]
    exact cCells_get r ls i j st lv h1 h2 hj
theorem cCells_set (f : Step → Step) (j : Nat) (x : Value) (hj : j < 15) (hf : ∀ st lv, (stepCells st lv).set j x = stepCells (f st) lv) : ∀ (C : List Step) (ls : List Value) (i : Nat), ls.length = C.length → i < C.length →
    (cCells C ls).set (i * 15 + j) x = cCells (C.modify i f) ls
  | [], _, _, _, h => by simp at h
  | _ :: _, [], _, h, _ => by simp at h
  | a :: r, lv :: ls, 0, h, _ => by
    simp only [cCells, Nat.zero_mul, Nat.zero_add, List.modify_zero_cons]
    rw [List.set_append_left _ _ (by rw [stepCells_len]; exact hj), hf]
  | a :: r, lv :: ls, i + 1, h, hi => by
    have e : (i + 1) * 15 + j = (stepCells a lv).length + (i * 15 + j) := by rw [stepCells_len]; omega
    simp only [cCells, List.modify_succ_cons]
    rw [e, List.set_append_right _ _ (by omega), Nat.add_sub_cancel_left, cCells_set f j x hj hf r ls i (by simpa using h) (by simpa using hi)]

/-- The numbers of the loops around a step, as they lie in memory. -/
def LoopsAt (w : World) (F : Nat → Prop) (lv : Value) (loops : List Nat) : Prop :=
  ∃ la cap, lv = .slice la loops.length cap ∧ (loops = [] ∨ ∃ lb, la = some ⟨lb, 0, none⟩ ∧ F lb ∧ lb < w.heap.size ∧ ∀ (j l : Nat), loops[j]? = some l → w.cell? ⟨lb, j, none⟩ = some (.int .i64 (l : Int)))
theorem LoopsAt.keep {w w' : World} {F F' : Nat → Prop} {lv : Value} {l : List Nat} (h : LoopsAt w F lv l) (hF : ∀ b, b < w.heap.size → F b → F' b) (hs : w.heap.size ≤ w'.heap.size) (hk : ∀ b, b < w.heap.size → F b → w'.heap[b]? = w.heap[b]?) : LoopsAt w' F' lv l := by
  obtain ⟨la, cap, h1, h2⟩ := h
  refine ⟨la, cap, h1, ?_⟩
  rcases h2 with h2 | ⟨lb, h2, h3, h4, h5⟩
  · exact .inl h2
  · refine .inr ⟨lb, h2, hF lb h4 h3, Nat.lt_of_lt_of_le h4 hs, fun j l hj => ?_⟩
    have := h5 j l hj
    simp only [World.cell?, hk lb h4 h3] at this ⊢
    exact this

def ptCells (bv : Value) (ng z : Nat) (cv : Value) (nl : Nat) (iv : Value) (S : Nat) : List Value := [bv, .int .i64 ng, .int .i64 z, cv, .int .i64 nl, iv, .int .i64 S]

def brK (B : Nat) (cv iv : Value) (K : List (Nat × Obj)) (b : Nat) : Prop := brF B cv iv b ∧ ∀ o, (b, o) ∉ K
/-- The pattern while its code is laid. w0: the world in which that began. -/
structure LI (w0 w : World) (pb : Nat) (bv : Value) (ng z : Nat) (K : List (Nat × Obj)) (G : Gs) (cv iv : Value) (ls : List Value) : Prop where
  pat : Blk w pb 56 (ptCells bv ng z cv G.loops iv 0)
  turn : Turn (fun b => b = pb) w0 w
  pblt : pb < w0.heap.size
  co : w.ownsRow w0.heap.size 82 15 cv G.code.length (cCells G.code ls)
  io : w.ownsRow w0.heap.size 3 1 iv G.ins.length (natVals G.ins)
  ll : ls.length = G.code.length
  lo : ∀ (i : Nat) (st : Step) (lv : Value), G.code[i]? = some st → ls[i]? = some lv → LoopsAt w (brK w0.heap.size cv iv K) lv st.loops
  ne : ∀ b, cv.ownBlock = some b → iv.ownBlock ≠ some b
  b1 : G.loops ≤ G.code.length
  b2 : G.ins.length ≤ G.code.length
  kp : ∀ q o, (q, o) ∈ K → w.heap[q]? = some o ∧ q ≠ pb ∧ cv.ownBlock ≠ some q ∧ iv.ownBlock ≠ some q

variable {K : List (Nat × Obj)}
variable {w0 w w3 : World} {pb : Nat} {bv : Value} {ng z : Nat} {G : Gs} {cv iv : Value} {ls : List Value}

theorem LI.pbw (h : LI w0 w pb bv ng z K G cv iv ls) : pb < w.heap.size := h.pat.lt
theorem ownsRow_ne {B : Nat} {e : TypeId} {size n : Nat} {v : Value} {xs : List Value} (h : w.ownsRow B e size v n xs) {b : Nat} (hb : b < B) : v.ownBlock = none ∨ v.ownBlock ≠ some b := by
  cases hv : v.ownBlock with
  | none => exact .inl rfl
  | some q => exact .inr fun e => by cases e; have := h.lt _ hv; omega

/-- Nothing turns; there may be new blocks. -/
theorem LI.keep (h : LI w0 w pb bv ng z K G cv iv ls) (hg : w.grownBy w3 none) : LI w0 w3 pb bv ng z K G cv iv ls :=
  { h with
    pat := h.pat.keep (hg.block _ h.pbw (by simp))
    turn := h.turn.grown0 hg
    co := h.co.kept hg (by cases cv.ownBlock <;> simp)
    io := h.io.kept hg (by cases iv.ownBlock <;> simp)
    lo := fun i st lv h1 h2 => (h.lo i st lv h1 h2).keep (fun _ _ hb => hb) hg.size fun b hb _ => hg.block b hb (by simp)
    kp := fun q o hq => ⟨(hg.block q (get_lt (h.kp q o hq).1) (by simp)).trans (h.kp q o hq).1, (h.kp q o hq).2⟩ }
theorem LI.alloc (h : LI w0 w pb bv ng z K G cv iv ls) (o : Obj) : LI w0 (w.alloc o) pb bv ng z K G cv iv ls := h.keep (World.grownBy_alloc w o none)
theorem LI.drew (h : LI w0 w pb bv ng z K G cv iv ls) : LI w0 w.drew pb bv ng z K G cv iv ls := h.keep ⟨rfl, rfl, rfl, Nat.le_refl _, fun _ _ _ => rfl⟩
theorem LI.below {B : Nat} (h : LI w0 w pb bv ng z K G cv iv ls) (hb : Below B w w3) (hB : w.heap.size ≤ B) : LI w0 w3 pb bv ng z K G cv iv ls :=
  h.keep ⟨hb.os, hb.tape, hb.output, hb.size, fun k hk _ => hb.block k (by omega)⟩

/-- One more block to be kept; fewer. -/
theorem LI.new (h : LI w0 w pb bv ng z K G cv iv ls) (o : Obj) : LI w0 (w.alloc o) pb bv ng z ((w.heap.size, o) :: K) G cv iv ls :=
  { h.alloc o with
    kp := fun q o' hq => by
      rcases List.mem_cons.1 hq with hq | hq
      · cases hq
        exact ⟨heap_alloc_new w o, fun e => by have := h.pbw; omega, fun e => by have := h.co.lt _ e; omega, fun e => by have := h.io.lt _ e; omega⟩
      · exact (h.alloc o).kp q o' hq
    lo := fun i st lv h1 h2 => (h.lo i st lv h1 h2).keep (fun b hb hF => ⟨hF.1, fun o' ho => by
      rcases List.mem_cons.1 ho with ho | ho
      · cases ho; omega
      · exact hF.2 o' ho⟩) (by simp) fun b hb _ => Below.heap_alloc w o b hb }
/-- Blocks that are kept for others turn, or are new. -/
theorem LI.foreign {K' : List (Nat × Obj)} (h : LI w0 w pb bv ng z K G cv iv ls) (hos : w3.os = w.os) (htape : w3.tape = w.tape) (hout : w3.output = w.output) (hsz : w.heap.size ≤ w3.heap.size) (hk : ∀ b, b < w.heap.size → (∀ o, (b, o) ∉ K) → w3.heap[b]? = w.heap[b]?)
    (hK : ∀ q o, (q, o) ∈ K' → w3.heap[q]? = some o ∧ ((∃ o', (q, o') ∈ K) ∨ w.heap.size ≤ q)) (hold : ∀ q o, (q, o) ∈ K → w0.heap.size ≤ q) : LI w0 w3 pb bv ng z K' G cv iv ls := by
  have hsw := h.turn.size
  have hpn : ∀ o, (pb, o) ∉ K := fun o ho => (h.kp pb o ho).2.1 rfl
  have hg : ∀ v : Value, (∀ q o, (q, o) ∈ K → v.ownBlock ≠ some q) → ∀ b, v.ownBlock = some b → b < w.heap.size → w3.heap[b]? = w.heap[b]? := fun v hv b hb hlt => hk b hlt fun o ho => hv b o ho hb
  have row : ∀ {e : TypeId} {size n : Nat} {v : Value} {xs : List Value}, w.ownsRow w0.heap.size e size v n xs → (∀ q o, (q, o) ∈ K → v.ownBlock ≠ some q) → w3.ownsRow w0.heap.size e size v n xs := fun {e size n v xs} hr hv => by
    refine ⟨hr.1, ?_⟩
    rcases hr.2 with h1 | ⟨g, cap, cur, rfl, h2, h3, h4⟩
    · exact .inl h1
    · exact .inr ⟨g, cap, cur, rfl, h2, (hg _ hv g rfl (get_lt h3)).trans h3, h4⟩
  exact
  { h with
    pat := h.pat.keep (hk pb h.pbw hpn)
    turn := ⟨hos.trans h.turn.os, htape.trans h.turn.tape, hout.trans h.turn.output, Nat.le_trans hsw hsz, fun b hb hn => (hk b (by omega) fun o ho => by have := hold b o ho; omega).trans (h.turn.block b hb hn)⟩
    co := row h.co fun q o hq => (h.kp q o hq).2.2.1
    io := row h.io fun q o hq => (h.kp q o hq).2.2.2
    lo := fun i st lv h1 h2 => (h.lo i st lv h1 h2).keep (fun b hb hF => ⟨hF.1, fun o ho => by
        rcases (hK b o ho).2 with ⟨o', h3⟩ | h3
        · exact hF.2 o' h3
        · omega⟩) hsz fun b hb hF => hk b hb hF.2
    kp := fun q o hq => by
      obtain ⟨h1, h2⟩ := hK q o hq
      refine ⟨h1, ?_⟩
      rcases h2 with ⟨o', h2⟩ | h2
      · exact (h.kp q o' h2).2
      · exact ⟨fun e => by have := h.pbw; omega, fun e => by have := h.co.lt _ e; omega, fun e => by have := h.io.lt _ e; omega⟩ }
theorem LI.sub {K' : List (Nat × Obj)} (h : LI w0 w pb bv ng z K G cv iv ls) (hs : ∀ x ∈ K', x ∈ K) : LI w0 w pb bv ng z K' G cv iv ls := 
  { h with
    kp := fun q o hq => h.kp q o (hs _ hq)
    lo := fun i st lv h1 h2 => (h.lo i st lv h1 h2).keep (fun b _ hF => ⟨hF.1, fun o ho => hF.2 o (hs _ ho)⟩) (Nat.le_refl _) fun _ _ _ => rfl }
theorem LI.old (h : LI w0 w pb bv ng z K G cv iv ls) {q : Nat} {t : TypeId} {xs : List Value} (hq : (q, Obj.cells xs.toArray t (0, 0)) ∈ K) : Blk w q t xs := (h.kp q _ hq).1

/-- The pattern's own block is written: field j. -/
theorem LI.field (h : LI w0 w pb bv ng z K G cv iv ls) (j : Nat) (v : Value) {G' : Gs} (hG : G'.code = G.code) (hi : G'.ins = G.ins) (hl : G'.loops ≤ G.code.length)
    (he : (ptCells bv ng z cv G.loops iv 0).set j v = ptCells bv ng z cv G'.loops iv 0) : LI w0 (w.setCell ⟨pb, j, none⟩ v) pb bv ng z K G' cv iv ls := by
  have hk : ∀ b, b ≠ pb → (w.setCell ⟨pb, j, none⟩ v).heap[b]? = w.heap[b]? := fun b hb => Below.heap_setCell w ⟨pb, j, none⟩ v b hb
  have hg := grown_setCell w ⟨pb, j, none⟩ v
  exact
  { pat := he ▸ h.pat.set j v
    turn := h.turn.set rfl v
    pblt := h.pblt
    co := by rw [hG]; exact h.co.kept hg (ownsRow_ne h.co h.pblt)
    io := by rw [hi]; exact h.io.kept hg (ownsRow_ne h.io h.pblt)
    ll := by rw [hG]; exact h.ll
    lo := fun i st lv h1 h2 => (h.lo i st lv (hG ▸ h1) h2).keep (fun _ _ hb => hb) hg.size fun b hb hF => hk b fun e => by have := hF.1.1; have := h.pblt; omega
    ne := h.ne
    b1 := by rw [hG]; exact hl
    b2 := by rw [hG, hi]; exact h.b2
    kp := fun q o hq => ⟨(hk q (h.kp q o hq).2.1).trans (h.kp q o hq).1, (h.kp q o hq).2⟩ }

theorem ownsRow_set {B : Nat} {e : TypeId} {size n : Nat} {v : Value} {xs : List Value} (h : w.ownsRow B e size v n xs) {g : Nat} (hg : v.ownBlock = some g) (j : Nat) (x : Value) : (w.setCell ⟨g, j, none⟩ x).ownsRow B e size v n (xs.set j x) := by
  refine ⟨by rw [List.length_set]; exact h.1, ?_⟩
  rcases h.2 with ⟨rfl, _⟩ | ⟨g', cap, cur, rfl, h2, h3, h4, h5, h6, h7⟩
  · cases hg
  · cases hg
    refine .inr ⟨g', cap, cur.setIfInBounds j x, rfl, h2, ?_, h4, h5, by simp [h6], ?_⟩
    · simp [World.setCell, Array.getElem?_modify, h3]
    · rw [Array.toList_setIfInBounds, List.take_set, h7]

/-- A step's field is written. -/
theorem LI.step (h : LI w0 w pb bv ng z K G cv iv ls) {cb : Nat} (hc : cv.ownBlock = some cb) (i j : Nat) (x : Value) (f : Step → Step) (hi : i < G.code.length) (hj : j < 15) (hf : ∀ st lv, (stepCells st lv).set j x = stepCells (f st) lv) (hl : ∀ st, (f st).loops = st.loops) :
    LI w0 (w.setCell ⟨cb, i * 15 + j, none⟩ x) pb bv ng z K { G with code := G.code.modify i f } cv iv ls := by
  have hcb := h.co.lt _ hc
  have hg := grown_setCell w ⟨cb, i * 15 + j, none⟩ x
  exact
  { pat := h.pat.set_other (by have := h.pblt; show pb ≠ cb; omega) _
    turn := ⟨h.turn.os, h.turn.tape, h.turn.output, by simpa [World.setCell] using h.turn.size, fun b hb hn => (Below.heap_setCell w _ x b (by show b ≠ cb; omega)).trans (h.turn.block b hb hn)⟩
    pblt := h.pblt
    co := by
      show World.ownsRow _ _ _ _ _ (G.code.modify i f).length _
      rw [List.length_modify, ← cCells_set f j x hj hf _ _ _ h.ll hi]
      exact ownsRow_set h.co hc _ _
    io := h.io.kept hg (by
      cases hv : iv.ownBlock with
      | none => exact .inl rfl
      | some q => exact .inr fun e => by cases e; exact h.ne _ hc hv)
    ll := by show ls.length = (G.code.modify i f).length; rw [List.length_modify]; exact h.ll
    lo := fun i' st lv h1 h2 => by
      have h1' : (G.code.modify i f)[i']? = some st := h1
      rw [List.getElem?_modify] at h1'
      cases ho : G.code[i']? with
      | none => rw [ho] at h1'; cases h1'
      | some st' =>
        rw [ho] at h1'
        have e : st.loops = st'.loops := by
          simp at h1'
          split at h1'
          · rw [← h1', hl]
          · rw [← h1']
        rw [e]
        exact (h.lo i' st' lv ho h2).keep (fun _ _ hb => hb) hg.size fun b hb hF => Below.heap_setCell w _ x b fun e => hF.1.2.1 (by rw [hc]; exact congrArg some e.symm)
    ne := h.ne
    b1 := by show G.loops ≤ (G.code.modify i f).length; rw [List.length_modify]; exact h.b1
    b2 := by show G.ins.length ≤ (G.code.modify i f).length; rw [List.length_modify]; exact h.b2
    kp := fun q o hq => ⟨(Below.heap_setCell w _ x q fun e => (h.kp q o hq).2.2.1 (by rw [hc]; exact congrArg some e.symm)).trans (h.kp q o hq).1, (h.kp q o hq).2⟩ }

/-- A step is added: the code's list has been appended to, and the pattern's field is not yet written. -/
theorem LI.append (h : LI w0 w pb bv ng z K G cv iv ls) {do_ what grp a : Nat} {r : Int} {lv : Value} (hlv : LoopsAt w (brK w0.heap.size cv iv K) lv G.ins) {g cap : Nat}
    (hown : w3.ownsRow w0.heap.size 82 15 (.slice (some ⟨g, 0, none⟩) (G.code.length + 1) cap) (G.code.length + 1) (cCells G.code ls ++ stepCells ⟨do_, what, r, grp, a, 0, G.ins, 0⟩ lv)) (hg : w.grownBy w3 cv.ownBlock) (hor : cv.ownBlock = some g ∨ g = w.heap.size) :
    LI w0 (w3.setCell ⟨pb, 3, none⟩ (.slice (some ⟨g, 0, none⟩) (G.code.length + 1) cap)) pb bv ng z K (G.add do_ what r grp a) (.slice (some ⟨g, 0, none⟩) (G.code.length + 1) cap) iv (ls ++ [lv]) := by
  have hpb := h.pbw
  have hsz := h.turn.size
  have hne : ∀ b, b < w.heap.size → brK w0.heap.size cv iv K b → brK w0.heap.size (.slice (some ⟨g, 0, none⟩) (G.code.length + 1) cap) iv K b ∧ some b ≠ cv.ownBlock := fun b hb hF => by
    refine ⟨⟨⟨hF.1.1, fun e => ?_, hF.1.2.2⟩, hF.2⟩, fun e => hF.1.2.1 e.symm⟩
    simp only [Value.ownBlock, Option.some.injEq] at e
    rcases hor with ho | ho
    · exact hF.1.2.1 (by rw [ho, e])
    · omega
  have hpc : some pb ≠ cv.ownBlock := fun e => by have := h.co.lt _ e.symm; have := h.pblt; omega
  have hg2 := grown_setCell w3 ⟨pb, 3, none⟩ (.slice (some ⟨g, 0, none⟩) (G.code.length + 1) cap)
  have hk2 : ∀ b, b ≠ pb → (w3.setCell ⟨pb, 3, none⟩ (.slice (some ⟨g, 0, none⟩) (G.code.length + 1) cap)).heap[b]? = w3.heap[b]? := fun b hb => Below.heap_setCell w3 ⟨pb, 3, none⟩ _ b hb
  have hlo : ∀ lv l, LoopsAt w (brK w0.heap.size cv iv K) lv l → LoopsAt (w3.setCell ⟨pb, 3, none⟩ (.slice (some ⟨g, 0, none⟩) (G.code.length + 1) cap)) (brK w0.heap.size (.slice (some ⟨g, 0, none⟩) (G.code.length + 1) cap) iv K) lv l := fun lv l hL =>
    hL.keep (fun b hb hF => (hne b hb hF).1) (Nat.le_trans hg.size hg2.size) fun b hb hF => (hk2 b fun e => by have := hF.1.1; have := h.pblt; omega).trans (hg.block b hb (hne b hb hF).2)
  exact
  { pat := Blk.set (h.pat.keep (hg.block pb hpb hpc)) 3 (.slice (some ⟨g, 0, none⟩) (G.code.length + 1) cap)
    turn := ⟨hg.os.trans h.turn.os, hg.tape.trans h.turn.tape, hg.output.trans h.turn.output, by rw [size_set]; exact Nat.le_trans hsz hg.size, fun b hb hn => (hk2 b hn).trans ((hg.block b (by omega) fun e => by have := h.co.lt _ e.symm; omega).trans (h.turn.block b hb hn))⟩
    pblt := h.pblt
    co := by
      show World.ownsRow _ _ _ _ _ (G.code ++ [_]).length (cCells (G.code ++ [_]) (ls ++ [lv]))
      rw [cCells_snoc _ _ _ _ h.ll, List.length_append, List.length_singleton]
      exact hown.kept hg2 (ownsRow_ne hown h.pblt)
    io := (h.io.kept hg (by
      cases hv : iv.ownBlock with
      | none => exact .inl rfl
      | some q => exact .inr fun e => h.ne q e.symm hv)).kept hg2 (ownsRow_ne h.io h.pblt)
    ll := by show (ls ++ [lv]).length = (G.code ++ [_]).length; simp [h.ll]
    lo := fun i st lv' h1 h2 => by
      have h1' : (G.code ++ [(⟨do_, what, r, grp, a, 0, G.ins, 0⟩ : Step)])[i]? = some st := h1
      rcases Nat.lt_or_ge i G.code.length with hi | hi
      · rw [List.getElem?_append_left hi] at h1'
        rw [List.getElem?_append_left (by rw [h.ll]; exact hi)] at h2
        exact hlo _ _ (h.lo i st lv' h1' h2)
      · rw [List.getElem?_append_right hi] at h1'
        rw [List.getElem?_append_right (by rw [h.ll]; exact hi), h.ll] at h2
        cases hd : i - G.code.length with
        | zero =>
          rw [hd] at h1' h2
          simp at h1' h2
          subst h1'; subst h2
          exact hlo _ _ hlv
        | succ n => rw [hd] at h1'; simp at h1'
    ne := fun b hb hv => by
      simp only [Value.ownBlock, Option.some.injEq] at hb
      subst hb
      rcases hor with ho | ho
      · exact h.ne _ ho hv
      · have := h.io.lt _ hv; omega
    b1 := by have := h.b1; show G.loops ≤ (G.code ++ [_]).length; simp; omega
    b2 := by have := h.b2; show G.ins.length ≤ (G.code ++ [_]).length; simp; omega
    kp := fun q o hq => by
      obtain ⟨h1, h2, h3, h4⟩ := h.kp q o hq
      refine ⟨(hk2 q h2).trans ((hg.block q (get_lt h1) fun e => h3 e.symm).trans h1), h2, fun e => ?_, h4⟩
      simp only [Value.ownBlock, Option.some.injEq] at e
      rcases hor with ho | ho
      · exact h3 (by rw [ho, e])
      · have := get_lt h1; omega }

end Go.Proofs.YtlanodchnjojoaaDoor
