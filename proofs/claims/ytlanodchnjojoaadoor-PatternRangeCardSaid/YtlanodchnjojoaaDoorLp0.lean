/- Facts for the walk that lays a part: the list of the loops around the next step. -/
import Derived.Test.YtlanodchnjojoaaDoorLb
import Derived.Test.YtlanodchnjojoaaDoorMix3
namespace Go.Proofs.YtlanodchnjojoaaDoor
open Go.RowKit

variable {w0 w w3 : World} {pb : Nat} {bv : Value} {ng z : Nat} {K : List (Nat × Obj)} {G : Gs} {cv iv : Value} {ls : List Value}

theorem LI.insPush (h : LI w0 w pb bv ng z K G cv iv ls) {x : Nat} (hb2 : G.ins.length + 1 ≤ G.code.length) {g cap : Nat}
    (hown : w3.ownsRow w0.heap.size 3 1 (.slice (some ⟨g, 0, none⟩) (G.ins.length + 1) cap) (G.ins.length + 1) (natVals G.ins ++ [.int .i64 (x : Int)])) (hg : w.grownBy w3 iv.ownBlock) (hor : iv.ownBlock = some g ∨ g = w.heap.size) :
    LI w0 (w3.setCell ⟨pb, 5, none⟩ (.slice (some ⟨g, 0, none⟩) (G.ins.length + 1) cap)) pb bv ng z K { G with ins := G.ins ++ [x] } cv (.slice (some ⟨g, 0, none⟩) (G.ins.length + 1) cap) ls := by
  have hpb := h.pbw
  have hsz := h.turn.size
  have hpc : some pb ≠ iv.ownBlock := fun e => by have := h.io.lt _ e.symm; have := h.pblt; omega
  have hg2 := grown_setCell w3 ⟨pb, 5, none⟩ (.slice (some ⟨g, 0, none⟩) (G.ins.length + 1) cap)
  have hk2 : ∀ b, b ≠ pb → (w3.setCell ⟨pb, 5, none⟩ (.slice (some ⟨g, 0, none⟩) (G.ins.length + 1) cap)).heap[b]? = w3.heap[b]? := fun b hb => Below.heap_setCell w3 ⟨pb, 5, none⟩ _ b hb
  exact
  { pat := Blk.set (h.pat.keep (hg.block pb hpb hpc)) 5 (.slice (some ⟨g, 0, none⟩) (G.ins.length + 1) cap)
    turn := ⟨hg.os.trans h.turn.os, hg.tape.trans h.turn.tape, hg.output.trans h.turn.output, by rw [size_set]; exact Nat.le_trans hsz hg.size, fun b hb hn => (hk2 b hn).trans ((hg.block b (by omega) fun e => by have := h.io.lt _ e.symm; omega).trans (h.turn.block b hb hn))⟩
    pblt := h.pblt
    co := (h.co.kept hg (by
      cases hv : cv.ownBlock with
      | none => exact .inl rfl
      | some q => exact .inr fun e => h.ne q hv e.symm)).kept hg2 (ownsRow_ne h.co h.pblt)
    io := by
      have e : natVals (G.ins ++ [x]) = natVals G.ins ++ [.int .i64 (x : Int)] := by simp [natVals]
      show World.ownsRow _ _ _ _ _ (G.ins ++ [x]).length (natVals (G.ins ++ [x]))
      rw [e, List.length_append, List.length_singleton]
      exact hown.kept hg2 (ownsRow_ne hown h.pblt)
    ll := h.ll
    lo := fun i st lv h1 h2 => (h.lo i st lv h1 h2).keep (fun b hb hF => ⟨⟨hF.1.1, hF.1.2.1, fun e => by
        simp only [Value.ownBlock, Option.some.injEq] at e
        rcases hor with ho | ho
        · exact hF.1.2.2 (by rw [ho, e])
        · omega⟩, hF.2⟩) (Nat.le_trans hg.size hg2.size) fun b hb hF => (hk2 b fun e => by have := hF.1.1; have := h.pblt; omega).trans (hg.block b hb fun e => hF.1.2.2 e.symm)
    ne := fun b hb hv => by
      simp only [Value.ownBlock, Option.some.injEq] at hv
      subst hv
      rcases hor with ho | ho
      · exact h.ne _ hb ho
      · have := h.co.lt _ hb; omega
    b1 := h.b1
    b2 := by show (G.ins ++ [x]).length ≤ _; simpa using hb2
    kp := fun q o hq => by
      obtain ⟨h1, h2, h3, h4⟩ := h.kp q o hq
      refine ⟨(hk2 q h2).trans ((hg.block q (get_lt h1) fun e => h4 e.symm).trans h1), h2, h3, fun e => ?_⟩
      simp only [Value.ownBlock, Option.some.injEq] at e
      rcases hor with ho | ho
      · exact h4 (by rw [ho, e])
      · have := get_lt h1; omega }

theorem LI.insPop (h : LI w0 w pb bv ng z K G cv iv ls) {g n cap : Nat} (hiv : iv = .slice (some ⟨g, 0, none⟩) (n + 1) cap) (hn : G.ins.length = n + 1) :
    LI w0 (w.setCell ⟨pb, 5, none⟩ (.slice (some ⟨g, 0, none⟩) n cap)) pb bv ng z K { G with ins := G.ins.dropLast } cv (.slice (some ⟨g, 0, none⟩) n cap) ls := by
  subst hiv
  have hk : ∀ b, b ≠ pb → (w.setCell ⟨pb, 5, none⟩ (.slice (some ⟨g, 0, none⟩) n cap)).heap[b]? = w.heap[b]? := fun b hb => Below.heap_setCell w ⟨pb, 5, none⟩ _ b hb
  have hg := grown_setCell w ⟨pb, 5, none⟩ (.slice (some ⟨g, 0, none⟩) n cap)
  have hio : w.ownsRow w0.heap.size 3 1 (.slice (some ⟨g, 0, none⟩) n cap) n (natVals G.ins.dropLast) := by
    refine ⟨by simp [natVals]; omega, ?_⟩
    rcases h.io.2 with ⟨h1, _⟩ | ⟨g', cap', cur, h1, h2, h3, h4, h5, h6, h7⟩
    · cases h1
    · injection h1 with e1 e2 e3
      injection e1 with e1
      injection e1 with e1
      subst e1; subst e3
      refine .inr ⟨g, cap, cur, rfl, h2, h3, by omega, h5, h6, ?_⟩
      have e : natVals G.ins.dropLast = (natVals G.ins).take (n * 1) := by
        rw [List.dropLast_eq_take, hn]
        simp [natVals, List.map_take]
      rw [e, ← h7, List.take_take, hn]
      congr 1
      omega
  exact
  { pat := Blk.set h.pat 5 (.slice (some ⟨g, 0, none⟩) n cap)
    turn := h.turn.set rfl _
    pblt := h.pblt
    co := h.co.kept hg (ownsRow_ne h.co h.pblt)
    io := by
      show World.ownsRow _ _ _ _ _ G.ins.dropLast.length _
      have e : G.ins.dropLast.length = n := by rw [List.length_dropLast]; omega
      rw [e]
      exact hio.kept hg (ownsRow_ne hio h.pblt)
    ll := h.ll
    lo := fun i st lv h1 h2 => (h.lo i st lv h1 h2).keep (fun _ _ hF => hF) hg.size fun b hb hF => hk b fun e => by have := hF.1.1; have := h.pblt; omega
    ne := h.ne
    b1 := h.b1
    b2 := by have := h.b2; show G.ins.dropLast.length ≤ G.code.length; rw [List.length_dropLast]; omega
    kp := fun q o hq => ⟨(hk q (h.kp q o hq).2.1).trans (h.kp q o hq).1, (h.kp q o hq).2⟩ }

theorem LI.loopsUp (h : LI w0 w pb bv ng z K G cv iv ls) (hb : G.loops + 1 ≤ G.code.length) (x : Int) (hx : x = ((G.loops + 1 : Nat) : Int)) : LI w0 (w.setCell ⟨pb, 4, none⟩ (.int .i64 x)) pb bv ng z K { G with loops := G.loops + 1 } cv iv ls := by
  subst hx
  exact h.field 4 _ rfl rfl hb rfl

theorem part_form2 {w : World} {F : Nat → Prop} {x : T} {c : List Value} (hx : x.ok 3 = true) (h : Rep w F 0 x c) : ∃ (a : Atm) (l m : Int) (z : Nat) (va : Option Addr) (vn vc : Nat), x = a.part l m z ∧ c = [.int .i64 a.what, .int .i32 a.r, .bool false, .int .u8 0, .bool false, .slice none 0 0, .bool false, .int .i64 a.gn, .slice va vn vc, .int .i64 l, .int .i64 m, .int .i64 z] ∧
    AtmV w F a (.slice va vn vc) ∧ (∀ what r, a = .leaf what r → what ≤ 1) ∧ 0 ≤ l ∧ l ≤ 255 ∧ -1 ≤ m ∧ m ≤ 255 := by
  cases x with
  | nil => simp [T.ok] at hx
  | cons => simp [T.ok] at hx
  | lst => simp [T.ok] at hx
  | pl what r l m z =>
    cases h
    simp only [T.ok, Bool.and_eq_true, decide_eq_true_eq] at hx
    exact ⟨.leaf what r, l, m, z, none, 0, 0, rfl, rfl, rfl, fun w' r' e => by cases e; exact hx.1, hx.2.1, hx.2.2.1, hx.2.2.2.1, hx.2.2.2.2⟩
  | pg g bs l m z =>
    obtain ⟨v, co, h1, h2, h3, h4⟩ := h
    obtain ⟨va, vn, vc, rfl⟩ := h2.form
    simp only [T.ok, Bool.and_eq_true, decide_eq_true_eq] at hx
    exact ⟨.grp g bs, l, m, z, va, vn, vc, rfl, h1, ⟨co, h2, h3, h4⟩, (fun w' r' e => by cases e), hx.2.1, hx.2.2.1, hx.2.2.2.1, hx.2.2.2.2⟩

theorem setAs_ins : ∀ (l : List Nat) (s : Gs), (setAs l s).ins = s.ins
  | [], _ => rfl
  | i :: r, s => by rw [setAs, setAs_ins r]; rfl
theorem setBs_ins : ∀ (l : List Nat) (s : Gs), (setBs l s).ins = s.ins
  | [], _ => rfl
  | i :: r, s => by rw [setBs, setBs_ins r]; rfl
theorem iter_keep {α β : Type} (f : α → α) (m : α → β) (hf : ∀ s, m (f s) = m s) : ∀ n s, m (iter f n s) = m s
  | 0, _ => rfl
  | n + 1, s => (iter_keep f m hf n (f s)).trans (hf s)
theorem genPart_ins {f : Gs → Gs} (hf : ∀ s : Gs, (f s).ins = s.ins) (l m : Int) (s : Gs) : (genPart f l m s).ins = s.ins := by
  have h1 := iter_keep f (fun s : Gs => s.ins) hf l.toNat s
  unfold genPart
  split
  · show ((f (loop0 (iter f l.toNat s))).ins.dropLast) = s.ins
    rw [hf]
    show ((iter f l.toNat s).ins ++ [(iter f l.toNat s).loops]).dropLast = s.ins
    rw [List.dropLast_concat]
    exact h1
  · have h2 := iter_keep (genOpt f) (fun x : Gs × List Nat => x.1.ins) (fun x => by show (f _).ins = _; rw [hf]; rfl) (m - l).toNat (iter f l.toNat s, [])
    simp only [setBs_ins]
    exact h2.trans h1

mutual
theorem gen_ins : ∀ (t : T) (s : Gs), (gen t s).ins = s.ins
  | .nil, s => by simp [gen]
  | .cons x r, s => by rw [gen, gen_ins r, gen_ins x]
  | .pl what r l m _, s => by rw [gen]; exact genPart_ins (f := genLeaf what r) (fun s => rfl) l m s
  | .pg g bs l m _, s => by
    rw [gen]
    refine genPart_ins (fun s => ?_) l m s
    have := genB_ins bs (s.add 4 0 0 g 0, [])
    show (setAs _ _).ins = s.ins
    rw [setAs_ins]
    exact this
  | .lst ps, s => by rw [gen]; exact gen_ins ps s
theorem genB_ins : ∀ (t : T) (y : Gs × List Nat), (genB t y).1.ins = y.1.ins
  | .nil, y => by simp [genB]
  | .cons x r, y => by
    rw [genB]
    split
    · exact gen_ins x y.1
    · rw [genB_ins r]
      show (gen x _).ins = _
      rw [gen_ins x]
      rfl
  | .pl .., y => by simp [genB]
  | .pg .., y => by simp [genB]
  | .lst _, y => by simp [genB]
end
theorem genAtm_ins (a : Atm) (s : Gs) : (genAtm a s).ins = s.ins := by
  cases a with
  | leaf what r => rfl
  | grp g bs =>
    show (genBrs bs (s.add 4 0 0 g 0)).ins = s.ins
    unfold genBrs
    rw [setAs_ins, genB_ins]
    rfl

end Go.Proofs.YtlanodchnjojoaaDoor

namespace Go.Proofs.YtlanodchnjojoaaDoor
open Go
section
variable {P : Program}

def forkB (md : Region.Mode) (ops : Array Oper) (π : List Nat) (c r : Nat) (ρ σ : List Nat) : Bool :=
  let L := listAll π (Array.replicate ops.size false)
  Region.noSelect ops && (takesB md ops π (Array.replicate ops.size false) && (decide (Region.ready md ops L = [c, r]) && (takesB md ops ρ (L.setIfInBounds c true) && (seqG md ops (r :: σ) (listAll ρ (L.setIfInBounds c true)) && (seqG md ops (c :: (ρ ++ σ)) (L.setIfInBounds r true) && decide (π.length + ((ρ.length + (σ.length + 1)) + 1) = ops.size))))))

theorem wp_region_fork {id : Nat} {Q : Exit → Act → World → Prop} {a : Act} {w : World} {l : List Oper} (π : List Nat) (c r : Nat) (ρ σ : List Nat) (hm : P.follows .mixedOrders = true) (hB : forkB .any l.toArray π c r ρ σ = true)
    (hQ : ∀ c a (d : Option Tmp) v w, Q (.panic c) (a.put d v) w → Q (.panic c) a w)
    (h : wpPure P l.toArray (fun a' =>
      wpList P l.toArray (Exit.then (fun a1 w1 => wpPure P l.toArray (fun a2 => wpList P l.toArray Q (pickL l (r :: σ)) a2 w1) (pickL l ρ) a1) Q) (pickL l [c]) a' w.drew ∧
      wpList P l.toArray (Exit.then (fun a1 w1 => wpList P l.toArray Q (pickL l (c :: (ρ ++ σ))) a1 w1) Q) (pickL l [r]) a' w.drew) (pickL l π) a) : (Code.region id l.toArray true).wp P Q a w := by
  simp only [forkB, Bool.and_eq_true, decide_eq_true_eq] at hB
  obtain ⟨b1, b2, b3, b4, b4', b5, b6⟩ := hB
  refine wp_region_any hm ?_
  have key : wpAny P .any l.toArray Q (π.length + ((ρ.length + (σ.length + 1)) + 1)) (Array.replicate l.toArray.size false) a w.drew := ?_
  · rw [b6] at key; exact key
  refine wpAny_pure rfl b1 hQ π _ a b2 h fun a' hK => ?_
  obtain ⟨hC, hR⟩ := hK
  obtain ⟨oc, hoc⟩ := ready_get (md := .any) (ops := l.toArray) (listed := listAll π (Array.replicate l.toArray.size false)) (i := c) (by rw [b3]; simp)
  obtain ⟨or_, hor⟩ := ready_get (md := .any) (ops := l.toArray) (listed := listAll π (Array.replicate l.toArray.size false)) (i := r) (by rw [b3]; simp)
  refine ⟨fun h0 => (by rw [b3] at h0; cases h0), fun i hi => ?_⟩
  rw [b3] at hi
  rcases List.mem_cons.1 hi with rfl | hi
  · exact wpOp_mono (fun a1 w1 h1 => wpAny_pure rfl b1 hQ ρ _ a1 b4 h1 fun a2 h2 => wpAny_of_seqG rfl (r :: σ) _ _ _ b4' h2) (wpOp_of_list1 rfl hoc hC)
  · have hir : i = r := by simpa using hi
    subst hir
    refine wpOp_mono (fun a1 w1 h1 => ?_) (wpOp_of_list1 rfl hor hR)
    have h2 := wpAny_of_seqG (md := .any) rfl (c :: (ρ ++ σ)) _ _ _ b5 h1
    rw [show (c :: (ρ ++ σ)).length = ρ.length + (σ.length + 1) by simp; omega] at h2
    exact h2

end
end Go.Proofs.YtlanodchnjojoaaDoor
