/- The iterator over a text's pieces. -/
import Derived.RangeFuncNested
import Derived.RangeFuncBound
import Derived.RangeFuncCalls
import Derived.RangeFuncLeaves
import Derived.Shelf.Abstract
import Derived.Shelf.RegionOpen
import Derived.WalkKit
import Derived.OwnWalkIn
import Derived.TacticsInMore
import Derived.LoopNIn
import Derived.LoopIn
import Derived.Maps.AppendAt
import Derived.Test.YtlanodchnjojoaaDoorRu
namespace Go.Proofs.YtlanodchnjojoaaDoor
open Go.RowKit Go.Shelf
attribute [local go_sem] Oper.semAt_some

def piecesFrom (s : ByteArray) : Nat → Nat → List Pc
  | 0, _ => []
  | f + 1, pos => if pos < s.size then pieceAt s pos :: piecesFrom s f (pos + (Utf8.decode s pos).2) else []
/-- The pieces of a text. -/
def pieces (s : ByteArray) : List Pc := piecesFrom s s.size 0

theorem piecesFrom_length (s : ByteArray) : ∀ f pos, (piecesFrom s f pos).length ≤ f
  | 0, _ => by simp [piecesFrom]
  | f + 1, pos => by
    simp only [piecesFrom]; split
    · simpa using piecesFrom_length s f _
    · simp
theorem piecesFrom_at (s : ByteArray) : ∀ f pos, ∀ p ∈ piecesFrom s f pos, p.at_ < s.size
  | 0, _, p, h => by simp [piecesFrom] at h
  | f + 1, pos, p, h => by
    simp only [piecesFrom] at h
    split at h
    · rename_i hp
      rcases List.mem_cons.1 h with rfl | h
      · unfold pieceAt; split <;> exact hp
      · exact piecesFrom_at s f _ p h
    · simp at h

/-- What a round must keep: the cells of whoever went ahead, and the walks over strings. -/
def KpI (n₀ : Nat) (W W' : World) : Prop := Below n₀ W W' ∧ KeepsWalks W W'

theorem run_next_at {P : Program} {W : World} {bi : Nat} {s : ByteArray} {pos : Nat} (h : W.heap[bi]? = some (.stringIter s pos)) (ty : TypeId) (hp : pos < s.size) :
    (Instr.next (.pointer (some ⟨bi, 0, none⟩)) true ty).run P W = .ok (.tuple #[.bool true, .int .i64 pos, .int .i32 (Utf8.decode s pos).1]) (W.putObj bi (.stringIter s (pos + (Utf8.decode s pos).2))) := by
  simp only [Instr.next, getObj, setObj, Sem.run_bind, Sem.run, h, Result.andThen, hp, if_true]
  simp [goInt, World.putObj]
theorem run_next_over {P : Program} {W : World} {bi : Nat} {s : ByteArray} {pos : Nat} (h : W.heap[bi]? = some (.stringIter s pos)) (ty : TypeId) (hp : ¬ pos < s.size) :
    (Instr.next (.pointer (some ⟨bi, 0, none⟩)) true ty).run P W = .ok (.tuple #[.bool false]) W := by
  simp [Instr.next, getObj, Sem.run, h, hp]

set_option maxRecDepth 100000 in
set_option maxHeartbeats 2000000 in
theorem pieces1_in (n : Nat) (hn : 1 ≤ n) (l Bs n₀ : Nat) (s : ByteArray) (hs : s.size ≤ 100000000) (J Jx : List Pc → World → Prop)
    (W : World) (hJ : AbidesFrom W.heap.size J)
    (hY : ∀ pre x W1, J pre W1 → pre.length < (pieces s).length → YieldAt Fence.wide (n - 1) Tryd.prog l #[.agg (pcCells x).toArray] W1 fun e W' =>
      (e = .returned (.bool true) ∧ J (pre ++ [x]) W' ∧ KpI n₀ W1 W') ∨ (e = .returned (.bool false) ∧ Jx (pre ++ [x]) W'))
    (hb : Bs < n₀) (hBs : W.cell? ⟨Bs, 0, none⟩ = some (.string s)) (hn0 : n₀ ≤ W.heap.size) (h0 : J [] W) :
    CallsIn Fence.wide n Tryd.prog 34 #[.func (.yield l) #[] #[], .pointer (some ⟨Bs, 0, none⟩)] W fun e W' => (∃ v, e = .returned v) ∧
      ((∃ ys, ys = pieces s ∧ J ys W') ∨ (∃ pre, pre <+: pieces s ∧ Jx pre W')) := by
  refine callsIn_of_wp Tryd.func34 rfl trivial ?_ rfl
  simp only [Tryd.ntmps34, List.size_toArray, List.length_cons, List.length_nil, Nat.reduceAdd, Nat.reduceSub, Array.replicate_succ, Array.replicate_zero, List.push_toArray, List.append_toArray, List.nil_append, List.cons_append]
  gi_wp2
  gi_loopw [3] (fun _ wr => ∃ (pre : List Pc) (f pos : Nat), wr.heap[W.heap.size]? = some (.stringIter s pos) ∧ pieces s = pre ++ piecesFrom s f pos ∧ s.size ≤ pos + f ∧ J pre wr ∧ Below n₀ W wr)
    (fun _ wr => s.size - wr.iterPos W.heap.size)
  case atStart => exact ⟨[], s.size, 0, World.iter_heap W s 0, rfl, by omega, hJ _ _ _ none h0 (World.grownBy_alloc W _ none) (fun r e => by cases e), (Below.refl _ _).alloc hn0 _⟩
  case round =>
    obtain ⟨pre, f, pos, hit, hps, hfu, hJs, hbl⟩ := hrel
    have hipos : wr.iterPos W.heap.size = pos := by simp [World.iterPos, hit]
    by_cases hp : pos < s.size
    · cases f with
      | zero => omega
      | succ f =>
        have hps' : pieces s = (pre ++ [pieceAt s pos]) ++ piecesFrom s f (pos + (Utf8.decode s pos).2) := by rw [hps]; simp [piecesFrom, hp]
        have hlen : pre.length < (pieces s).length := by rw [hps']; simp
        have hwd := Lib.width_pos s pos
        have hilt := (Array.getElem?_eq_some_iff.1 hit).1
        obtain ⟨w2, hw2⟩ : ∃ w2, w2 = wr.putObj W.heap.size (.stringIter s (pos + (Utf8.decode s pos).2)) := ⟨_, rfl⟩
        have hnx : ∀ ty, (Instr.next (.pointer (some ⟨W.heap.size, 0, none⟩)) true ty).run Tryd.prog wr = .ok (.tuple #[.bool true, .int .i64 pos, .int .i32 (Utf8.decode s pos).1]) w2 := fun ty => by rw [hw2]; exact run_next_at hit ty hp
        have hit2 : w2.heap[W.heap.size]? = some (.stringIter s (pos + (Utf8.decode s pos).2)) := by rw [hw2]; exact World.putObj_heap_same hilt
        have hg2 : wr.grownBy w2 (some W.heap.size) := by rw [hw2]; exact grownBy_putObj' _ _ _
        have hJ2 : J pre w2 := hJ pre wr w2 _ hJs hg2 (fun r e => by cases e; exact ⟨Nat.le_refl _, _, hit, rfl⟩)
        have hbl2 : Below n₀ W w2 := hbl.grown hg2 (Nat.le_trans hn0 hbl.size) (fun k e => by cases e; exact hn0)
        have hB2 : w2.cell? ⟨Bs, 0, none⟩ = some (.string s) := (hbl2.cell (p := ⟨Bs, 0, none⟩) hb).trans hBs
        clear hw2 hg2 hJs
        gi_wp2_with (refine ⟨trivial, ?_⟩; gi_at_call 35; refine (callsIn_wide.2 (read_met s pos _ hp hs)).mono ?_; rintro e w3 ⟨rfl, hb3⟩; have hJ3 : J pre w3 := hJ pre w2 w3 none hJ2 ⟨hb3.os, hb3.tape, hb3.output, hb3.size, fun k hk _ => hb3.block k hk⟩ (fun r e => by cases e); have hit3 := (hb3.block _ (Array.getElem?_eq_some_iff.1 hit2).1).trans hit2; have hbl3 : Below n₀ W w3 := hbl2.trans (hb3.mono (Nat.le_trans hn0 hbl2.size)); obtain ⟨fn, tmps, assign, body, hy, hR⟩ := hY pre (pieceAt s pos) w3 hJ3 hlen)
        refine hR.mono ?_
        rintro e W3 (⟨rfl, hJ4, hk4⟩ | ⟨rfl, hJx4⟩)
        · have hit4 := hk4.2.same _ _ hit3 rfl
          gi_wp2
          go_roundw
          case rel => exact ⟨pre ++ [pieceAt s pos], f, _, hit4, hps', by omega, hJ4, hbl3.trans hk4.1⟩
          case measure => simp only [World.iterPos, hit, hit4]; omega
        · gi_wp2
          refine bodyPost_ret (results_none rfl _ _ _) rfl ?_
          exact ⟨⟨_, rfl⟩, .inr ⟨pre ++ [pieceAt s pos], ⟨_, hps'.symm⟩, hJx4⟩⟩
    · have hnx : ∀ ty, (Instr.next (.pointer (some ⟨W.heap.size, 0, none⟩)) true ty).run Tryd.prog wr = .ok (.tuple #[.bool false]) wr := fun ty => run_next_over hit ty hp
      gi_wp2
      go_end0
      exact ⟨⟨_, rfl⟩, .inl ⟨pre, by rw [hps]; cases f <;> simp [piecesFrom, hp], hJs⟩⟩

theorem pieces_stops (n : Nat) (hn : 1 ≤ n) (Bs n₀ : Nat) (s : ByteArray) (hs : s.size ≤ 100000000) (w : World) (hb : Bs < n₀) (hn0 : n₀ ≤ w.heap.size) (hBs : w.cell? ⟨Bs, 0, none⟩ = some (.string s)) :
    SeqStopsK Fence.wide n Tryd.prog 34 #[.pointer (some ⟨Bs, 0, none⟩)] (fun x : Pc => #[.agg (pcCells x).toArray]) (KpI n₀) (fun ys => ys = pieces s) (fun pre => pre <+: pieces s) (pieces s).length w := fun l J Jx W hW hJ hJx hY h0 =>
  pieces1_in n hn l Bs n₀ s hs J Jx W hJ hY hb ((hW.cell (p := ⟨Bs, 0, none⟩) (Nat.lt_of_lt_of_le hb hn0)).trans hBs) (Nat.le_trans hn0 hW.size) h0

theorem Tryd.infoPiece : (Tryd.prog.info? 85).map (fun i => (i.zero, i.size, i.bytes)) = some (some (.agg #[.int .i64 0, .int .i64 0, .int .i32 0, .bool false]), 4, 24) := by kernel_rfl

def AsI (w : World) (n₀ B : Nat) (pre : List Pc) (W : World) : Prop := (∃ v, Boxed W B 62 v ∧ W.ownsRow n₀ 85 4 v pre.length (pre.flatMap pcCells)) ∧ Below n₀ w W
def AsX (sv : Value) (B : Nat) (x : Pc) (a : Act) (W : World) : Prop := ∃ Bx, B < Bx ∧ Blk W Bx 85 (pcCells x) ∧ a = { tmps := #[.slice none 0 0, sv, .pointer (some ⟨B, 0, none⟩), undef, .slice none 0 0, .pointer (some ⟨Bx, 0, none⟩), sv, .agg (pcCells x).toArray, undef, undef, undef, undef, undef], defers := [] }

theorem cells_not_row {W : World} {b : Nat} {c : Array Value} {t : TypeId} {fr : Nat × Nat} (h : W.heap[b]? = some (.cells c t fr)) {row : Option Nat} (hr : ∀ r, row = some r → ∃ o : Obj, W.heap[r]? = some o ∧ o.isCells = false) : some b ≠ row := fun e => by
  obtain ⟨o, ho, hc⟩ := hr b e.symm
  rw [h] at ho; cases ho; cases hc
theorem own_not_row {W : World} {base : Nat} {e : TypeId} {size : Nat} {v : Value} {k : Nat} {xs : List Value} (h : W.ownsRow base e size v k xs) {row : Option Nat} (hr : ∀ r, row = some r → ∃ o : Obj, W.heap[r]? = some o ∧ o.isCells = false) : v.ownBlock = none ∨ v.ownBlock ≠ row := by
  rcases h.2 with ⟨rfl, _⟩ | ⟨g, cap, cur, rfl, _, hgb, _⟩
  · exact .inl rfl
  · exact .inr (cells_not_row hgb hr)

theorem AsI.own {w : World} {n₀ B B0 : Nat} (hn : n₀ ≤ w.heap.size) (hB : n₀ ≤ B0) : OwnFrom B0 (AsI w n₀ B) := fun s W W' row ⟨⟨v, h1, h2⟩, h3⟩ hg hr => by
  have hr' : ∀ r, row = some r → ∃ o : Obj, W.heap[r]? = some o ∧ o.isCells = false := fun r e => (hr r e).2
  exact ⟨⟨v, h1.kept hg (cells_not_row h1 hr'), h2.kept hg (own_not_row h2 hr')⟩, h3.grown hg (Nat.le_trans hn h3.size) fun k e => Nat.le_trans hB (hr k e).1⟩
theorem AsX.own {sv : Value} {B B0 : Nat} (x : Pc) (a' : Act) : OwnFrom B0 (fun (_ : Unit) W => AsX sv B x a' W) := fun _ W W' row ⟨Bx, h1, h2, h3⟩ hg hr =>
  ⟨Bx, h1, h2.grown hg (cells_not_row h2 fun r e => (hr r e).2), h3⟩

set_option maxRecDepth 100000 in
set_option maxHeartbeats 2000000 in
theorem appendSeq_met (Bs : Nat) (s : ByteArray) (hs : s.size ≤ 100000) (w : World) (hb : Bs < w.heap.size) (hBs : w.cell? ⟨Bs, 0, none⟩ = some (.string s)) :
    Calls Tryd.prog 33 #[.slice none 0 0, .func (.func 34) #[] #[.pointer (some ⟨Bs, 0, none⟩)]] w fun e w' => ∃ v, e = .returned v ∧ w'.ownsRow w.heap.size 85 4 v (pieces s).length ((pieces s).flatMap pcCells) ∧ Below w.heap.size w w' := by
  refine (callsIn_wide (n := 4)).1 ?_
  refine callsIn_of_wp_marks Tryd.func33 rfl trivial ?_ rfl
  simp only [Tryd.ntmps33, List.size_toArray, List.length_cons, List.length_nil, Nat.reduceAdd, Nat.reduceSub, Array.replicate_succ, Array.replicate_zero, List.push_toArray, List.append_toArray, List.nil_append, List.cons_append]
  gi_wp2
  obtain ⟨w1, hw1⟩ : ∃ w1, w1 = w.alloc (Obj.cells #[Value.slice none 0 0] 62) := ⟨_, rfl⟩
  have hbx : Boxed w1 w.heap.size 62 (.slice none 0 0) := by rw [hw1]; exact Boxed.new _ _ _
  have hbw : Below w.heap.size w w1 := by rw [hw1]; exact (Below.refl _ _).alloc (Nat.le_refl _) _
  have hsz : w1.heap.size = w.heap.size + 1 := by rw [hw1]; simp
  rw [← hw1]
  clear hw1
  refine wpIn_rangeFunc_ownH (F := Fence.wide) (n := 4) rfl (by omega) (gf := 34) (lb := #[.pointer (some ⟨Bs, 0, none⟩)]) rfl trivial (enters_of Tryd.func34 (by kernel_rfl) rfl)
    (pieces_stops 3 (by omega) Bs w.heap.size s (by omega) w1 hb (by omega) ((hbw.cell (p := ⟨Bs, 0, none⟩) hb).trans hBs)) (fun a b => ⟨a.1.trans b.1, a.2.trans b.2⟩) (fun W l o o' h1 h2 h3 h4 => ⟨belowK_b (w := w) (Nat.le_refl _) W l o o' (by omega) h2 h3 h4, walksK_b (w := w) W l o o' (by omega) h2 h3 h4⟩)
    (Below.refl _ _) (fun _ => rfl) (AsI w w.heap.size w.heap.size) (fun _ _ _ => False) (AsI.own (Nat.le_refl _) (by omega)) (fun _ _ _ _ _ h _ _ => h) ⟨⟨_, hbx, World.ownsRow_nil _ _ _ _⟩, hbw⟩
    (AsX (.func (.func 34) #[] #[.pointer (some ⟨Bs, 0, none⟩)]) w.heap.size) (fun x a' => AsX.own x a') ?assign ?body ?done ?stop
  case assign =>
    intro l pre x W K hI hK
    obtain ⟨⟨v, hv, hrow⟩, hB⟩ := hI
    unfold pcCells
    gi_wp2
    refine hK _ _ ((KeepsOthers.alloc _ _).from _) ⟨(Below.refl _ W).alloc hB.size _, (KeepsOthers.alloc _ _).walks⟩ ⟨⟨v, hv.alloc _, hrow.alloc _⟩, hB.alloc hB.size _⟩ ⟨W.heap.size, hv.lt, Blk.new W 85 (pcCells x), rfl⟩
  case body =>
    rintro l pre x a' W hl ⟨r, hr⟩ ⟨⟨v, hv, hrow⟩, hB⟩ ⟨Bx, hBx, hX, rfl⟩ hlen
    have hplen := piecesFrom_length s s.size 0
    have hpl : pre.length < 100000 := by unfold pieces at hlen; omega
    have hc := hv.cell
    have hx0 := hX.cell (j := 0) (v := .int .i64 x.at_) rfl
    have hx1 := hX.cell (j := 1) (v := .int .i64 x.width) rfl
    have hx2 := hX.cell (j := 2) (v := .int .i32 x.rune) rfl
    have hx3 := hX.cell (j := 3) (v := .bool x.broken) rfl
    obtain ⟨i0, hi, hz0, hz1, hz2⟩ := info_parts Tryd.infoPiece
    unfold pcCells
    gi_wp2_with (gi_at_builtin; refine wpListIn_append_own _ rfl _ _ 62 rfl w.heap.size 85 i0 _ 4 24 Tryd.underlying62 hi hz0 hz1 hz2 rfl (by decide) _ _ _ rfl (hrow.alloc _) ⟨W.heap.size, 0, none⟩ 1 1 (pcCells x) rfl rfl (World.news_of_block (cs := (pcCells x).toArray) (t := 85) (fr := (0, 0)) (heap_alloc_new W _)) (by simp [Value.oneCell', pcCells]) (by unfold maxLen; omega) (by omega) (by have := hB.size; simp; omega) ?_; intro v' w2 hown' hgrow hnil; obtain ⟨g', cap', rfl⟩ := ownsRow_succ hown'; obtain ⟨hv1, hv2, hr2, hk2, hb2⟩ := hv.appended (by decide) hrow hB.size (Nat.le_refl _) hown' hgrow; have hc1 := hv1.cell; have hf1 := hv1.frozen)
    exact ⟨hk2.from _, ⟨hb2, hk2.walks⟩, ⟨_, hv2, by simpa [List.flatMap_append] using hr2⟩, hB.trans hb2⟩
  case done =>
    rintro D ys W hD rfl ⟨⟨v, hv, hrow⟩, hB⟩ hK
    have hc := hv.cell
    gi_wp2
    refine ⟨by simp, .inl ⟨_, _, rfl, run_takeDeferred hK, ?_⟩⟩
    exact ⟨_, results_tmp rfl _ _ _, _, rfl, ownsRow_putObj hrow _ hK rfl, hB.trans (belowK_b (w := w) (Nat.le_refl _) W D _ _ (by omega) hK rfl rfl)⟩
  case stop =>
    rintro D c pre W hD _ h _
    exact h.elim

end Go.Proofs.YtlanodchnjojoaaDoor
