/- The matcher's method forget. -/
import Derived.Test.YtlanodchnjojoaaDoorFf
import Derived.Lib.SliceRun
import Derived.Test.YtlanodchnjojoaaDoorPi
import Derived.Test.YtlanodchnjojoaaDoorTn
namespace Go.Proofs.YtlanodchnjojoaaDoor
open Go.RowKit

/-- A list with these laid from a place on. -/
def setL : List Value → Nat → List Value → List Value
  | xs, _, [] => xs
  | xs, o, v :: r => setL (xs.set o v) (o + 1) r
theorem setL_length : ∀ vs xs o, (setL xs o vs).length = xs.length
  | [], _, _ => rfl
  | v :: r, xs, o => by rw [setL, setL_length r]; simp
theorem setL_get (z : Value) : ∀ n xs o i, (setL xs o (List.replicate n z))[i]? = if o ≤ i ∧ i < o + n ∧ i < xs.length then some z else xs[i]?
  | 0, xs, o, i => by simp only [List.replicate_zero, setL]; rw [if_neg (by omega)]
  | n + 1, xs, o, i => by
    rw [List.replicate_succ, setL, setL_get z n]
    simp only [List.length_set]
    by_cases h : i = o
    · subst h
      rw [if_neg (by omega)]
      by_cases hl : i < xs.length
      · rw [if_pos ⟨by omega, by omega, hl⟩, List.getElem?_set_self hl]
      · rw [if_neg (by omega), List.set_eq_of_length_le (by omega)]
    · rw [List.getElem?_set_ne (Ne.symm h)]
      by_cases h2 : o ≤ i ∧ i < o + (n + 1) ∧ i < xs.length
      · rw [if_pos h2, if_pos (by omega)]
      · rw [if_neg h2, if_neg (by omega)]
theorem Blk.sets {b : Nat} {t : TypeId} : ∀ (vs : List Value) {w : World} {xs : List Value} (o : Nat), Blk w b t xs → Blk (w.setCells b o vs) b t (setL xs o vs)
  | [], _, _, _, h => h
  | v :: r, _, _, o, h => Blk.sets r (o + 1) (h.set o v)
theorem grown_setCells (b : Nat) : ∀ (vs : List Value) (o : Nat) (w : World), w.grownBy (w.setCells b o vs) (some b)
  | [], _, w => ⟨rfl, rfl, rfl, Nat.le_refl _, fun _ _ _ => rfl⟩
  | v :: r, o, w => (grown_setCell w ⟨b, o, none⟩ v).trans (grown_setCells b r (o + 1) _)

theorem Mat0.forgot {w : World} {G : Geo} {D : Dyn} {bit : Nat → Nat → Bool} (h : Mat0 w G D bit) {k : Nat} (hk : k ≤ G.ps.length) :
    Mat0 (w.setCells G.bb k (List.replicate (G.ps.length + 1 - k) (.slice none 0 0))) G { D with rows := setL D.rows k (List.replicate (G.ps.length + 1 - k) (.slice none 0 0)) } (fun i j => bit i j && decide (j < k)) := by
  have hg := grown_setCells G.bb (List.replicate (G.ps.length + 1 - k) (.slice none 0 0)) k w
  have hb : Below G.B w (w.setCells G.bb k (List.replicate (G.ps.length + 1 - k) (.slice none 0 0))) := (Below.refl _ _).grown hg h.Bsize fun j hj => by cases hj; exact h.lb
  have hn : ∀ q t, D.tag q = t → t ≠ 2 → some q ≠ some G.bb := fun q t ht h1 e => by cases e; exact h1 (ht.symm.trans h.tb)
  exact { pat := h.pat.keep hb, below := h.below.trans hb, m := by obtain ⟨v4, v5, v6, h1⟩ := h.m; exact ⟨v4, v5, v6, h1.grown hg (hn _ _ h.tm (by decide))⟩,
          pc := h.pc.kept hg (Mat.own_ne h.tp (by rw [h.tb]; decide)), jc := h.jc, jo := h.jo.kept hg (Mat.own_ne h.tj (by rw [h.tb]; decide)),
          bn := h.bn.sets _ _, rl := by simp only [setL_length]; exact h.rl,
          row := fun j hj => by
            by_cases hjk : j < k
            · have hgt : (setL D.rows k (List.replicate (G.ps.length + 1 - k) (.slice none 0 0)))[j]? = D.rows[j]? := by rw [setL_get, if_neg (by omega)]
              rcases h.row j hj with ⟨h1, h2⟩ | ⟨h1, h2, h3, h4, h5, h6, h7⟩
              · exact .inl ⟨hgt.trans h1, fun i hi => by show (bit i j && decide (j < k)) = false; rw [h2 i hi]; rfl⟩
              · exact .inr ⟨hgt.trans h1, h2.grown hg (hn _ _ h4 (by omega)), h3, h4, h5, h6, fun i hi => by rw [← h7 i hi]; simp [hjk]⟩
            · refine .inl ⟨?_, fun i _ => by simp [hjk]⟩
              show (setL D.rows k _)[j]? = _
              rw [setL_get, if_pos ⟨by omega, by omega, by rw [h.rl]; omega⟩],
          tm := h.tm, tb := h.tb, tp := h.tp, tj := h.tj, lm := h.lm, lb := h.lb, wf := h.wf, np := h.np, sz := h.sz, pcs := h.pcs, acs := h.acs,
          kp := fun q o hq => by
            have h1 := h.kp q o hq
            exact ⟨h1.1, (hg.block q (get_lt h1.2) (hn _ _ h1.1 (by decide))).trans h1.2⟩ }

theorem zeroWords (w : World) : (zeroValue 116).run Tryd.prog w = .ok (.slice none 0 0) w := Tryd.zeroValue116 w

set_option maxRecDepth 100000 in
theorem forget_met {w : World} {G : Geo} {D : Dyn} {bit : Nat → Nat → Bool} (h : Mat0 w G D bit) {k : Nat} (hk : k ≤ G.ps.length) :
    Calls Tryd.prog 18 #[.pointer (some ⟨G.mb, 0, none⟩), .int .i64 k] w fun e w' => e = .returned (.tuple #[]) ∧ ∃ D', Mat0 w' G D' (fun i j => bit i j && decide (j < k)) := by
  have hF := h.forgot hk
  obtain ⟨v4, v5, v6, hm⟩ := h.m
  have h3 := hm.cell (j := 3) rfl
  have hnp := h.np
  have hcl : ∀ ty, (Builtin.clear_ #[63] ty #[.slice (some ⟨G.bb, k, none⟩) (G.ps.length + 1 - k) (G.ps.length + 1 - k)]).run Tryd.prog w = .ok (.tuple #[]) (w.setCells G.bb k (List.replicate (G.ps.length + 1 - k) (.slice none 0 0))) :=
    fun ty => Lib.run_clear_slice w 63 116 ty (.slice none 0 0) Tryd.underlying63 zeroWords rfl rfl G.bb k _ _ (by omega)
      (fun j hj => by
        have hlt : k + j < D.rows.length := by rw [h.rl]; omega
        rw [h.bn.cell (List.getElem?_eq_getElem hlt)]; rfl)
      (fun j _ => h.bn.frozen _)
  have HF := Lib.hid hF
  have h1 : (k : Int) ≤ ((G.ps.length : Int) + 1) := by omega
  clear h hm hF
  go_enter Tryd.func18, Tryd.ntmps18
  go_wp2
  go_end0
  exact ⟨rfl, _, HF.out⟩

end Go.Proofs.YtlanodchnjojoaaDoor

namespace Go.Proofs.YtlanodchnjojoaaDoor
open Go.RowKit Go.Shelf

/-- An iterator with cells of its own, laid since it was called: it gives these, one behind the other, to rounds that turn blocks of the caller's alone, and new ones. -/
def SeqCells {α : Type} (F : Fence) (n : Nat) (P : Program) (g : Nat) (lb : Array Value) (Enc : α → Array Value → Prop) (n₀ : Nat) (xs : List α) (w : World) : Prop :=
  ∀ (l : Nat) (J : List α → World → Prop) (W : World), Below w.heap.size w W → (∀ s A A', J s A → Below W.heap.size A A' → J s A') →
    (∀ pre x v W1, Enc x v → J pre W1 → W.heap.size ≤ W1.heap.size → pre ++ [x] <+: xs → YieldAt F (n - 1) P l v W1 fun e W' => e = .returned (.bool true) ∧ J (pre ++ [x]) W' ∧ Turn (fun b => n₀ ≤ b ∧ b < W.heap.size) W1 W') →
    J [] W → CallsIn F n P g (#[.func (.yield l) #[] #[]] ++ lb) W fun e W' => (∃ v, e = .returned v) ∧ J xs W'

theorem turn_put {S : Nat → Prop} {w w' : World} (h : Turn S w w') {D : Nat} (hD : S D) (o : Obj) : Turn S w (w'.putObj D o) :=
  ⟨h.os, h.tape, h.output, by simpa using h.size, fun k hk hn => (World.putObj_heap_other (fun e => hn (by rw [e]; exact hD))).trans (h.block k hk hn)⟩
theorem turn_below {S : Nat → Prop} {w w' : World} {B : Nat} (h : Turn S w w') (hB : B ≤ w.heap.size) (hS : ∀ b, S b → B ≤ b) : Below B w w' :=
  h.toBelow hB fun b hb hs => by have := hS b hs; omega
theorem put_below (w : World) {B D : Nat} (hD : B ≤ D) (hB : B ≤ w.heap.size) (o : Obj) : Below B w (w.putObj D o) :=
  turn_below (turn_put (S := fun b => b = D) (Turn.refl _ w) rfl o) hB fun b hb => by omega

variable {F : Fence} {n : Nat} {P : Program}

/-- The statement, where each round goes on. -/
theorem wpIn_rangeCells {α : Type} {g : Operand} {ps : Array Tmp} {assign body : Code} {Q : Exit → Act → World → Prop} {a : Act} {w : World}
    (hro : F.round = none) (h1 : 1 ≤ n) {gf : Nat} {lb : Array Value} (hg : a.eval g = .func (.func gf) #[] lb) (hFg : F.fn gf) (eg : ∀ args w, (callFunc gf args).run P w = .ok (.enter gf args) w)
    {Enc : α → Array Value → Prop} {n₀ : Nat} {xs : List α} {w0 : World} (hseq : SeqCells F (n - 1) P gf lb Enc n₀ xs w0) (hb0 : Below w0.heap.size w0 w) (hn0 : n₀ ≤ w.heap.size) (hps : ∀ x v, Enc x v → v.size = ps.size)
    (I : List α → World → Prop) (hI : ∀ s A A', I s A → Below w.heap.size A A' → I s A') (h0 : I [] w)
    (Ax : α → Act → World → Prop) (hAx : ∀ x a' A l r o, Ax x a' A → A.heap[l]? = some (.loop r) → Ax x a' (A.putObj l o))
    (hassign : ∀ (l : Nat) (pre : List α) (x : α) (v : Array Value) (W : World) (K : Act → World → Prop), Enc x v → I pre W → w.heap.size + 2 ≤ W.heap.size → (∀ a' W', Turn (fun _ => False) W W' → Ax x a' W' → K a' W') →
      assign.wpIn (F.inRound l) (n - 1 - 1) P (Exit.then K (fun _ _ _ => False)) { tmps := (ps.zip v).foldl (fun t (p, v) => t.setIfInBounds p v) a.tmps, defers := [] } W)
    (hbody : ∀ (l : Nat) (pre : List α) (x : α) (a' : Act) (W : World), I pre W → Ax x a' W → w.heap.size + 2 ≤ W.heap.size → pre ++ [x] <+: xs →
      body.wpIn (F.inRound l) (n - 1 - 1) P (fun e _ W' => e = .normal ∧ Turn (fun b => n₀ ≤ b ∧ b < w.heap.size) W W' ∧ I (pre ++ [x]) W') a' W)
    (hdone : ∀ (D : Nat) (W : World), w.heap.size ≤ D → I xs W → W.heap[D]? = some (.deferred (some [])) → Q .normal { a with defers := { target := .collected D, args := #[] } :: a.defers } W) :
    (Code.rangeFunc g ps assign body).wpIn F n P Q a w := by
  refine wpIn_rangeFunc fun fn hfn => ?_
  rw [hro]
  obtain ⟨R, hR⟩ : ∃ R : LoopState → Loop, R = fun st => { state := st, pending := none, fn, tmps := a.tmps, params := ps, assign, body, defers := w.heap.size } := ⟨_, rfl⟩
  obtain ⟨W1, hW1⟩ : ∃ W1, (w.alloc (.deferred (some []))).alloc (.loop (R .ready)) = W1 := ⟨_, rfl⟩
  have s1 : W1.heap.size = w.heap.size + 2 := by rw [← hW1]; simp
  have b1 : Below w.heap.size w W1 := by rw [← hW1]; exact ((Below.refl _ w).alloc (Nat.le_refl _) _).alloc (by simp) _
  have l1 : W1.heap[w.heap.size + 1]? = some (.loop (R .ready)) := by
    rw [← hW1]; have := World.alloc_heap_new (w.alloc (.deferred (some []))) (.loop (R .ready)); rwa [World.size_alloc] at this
  have d1 : W1.heap[w.heap.size]? = some (.deferred (some [])) := by
    rw [← hW1]; exact (Below.heap_alloc _ _ _ (by simp)).trans (World.alloc_heap_new w _)
  refine ⟨w.heap.size + 1, [{ target := .collected w.heap.size, args := #[] }], W1, { target := .fn (.func gf) lb, args := #[.func (.yield (w.heap.size + 1)) #[] #[]] }, W1, gf,
    #[.func (.yield (w.heap.size + 1)) #[] #[]] ++ lb, W1, ?_, ?_, ?_, ?_, fun _ => h1, ?_⟩
  · rw [← hW1, hR]; exact run_enterLoop_outer _ _ _ _ _
  · simp only [resolve, hg]
    simp [go_sem]
  · intro f' hf'; simp [Target.leads] at hf'; subst hf'; exact hFg
  · simp [invoke, go_sem, eg]
  · refine (hseq (w.heap.size + 1) (fun pre W => I pre W ∧ W.heap[w.heap.size + 1]? = some (.loop (R .ready)) ∧ W.heap[w.heap.size]? = some (.deferred (some []))) W1 (hb0.trans (b1.mono hb0.size)) ?_ ?_ ⟨hI _ _ _ h0 b1, l1, d1⟩).mono ?_
    · rintro s A A' ⟨i1, i2, i3⟩ hb
      exact ⟨hI _ _ _ i1 (hb.mono (by omega)), (hb.block _ (by omega)).trans i2, (hb.block _ (by omega)).trans i3⟩
    · rintro pre x v W hev ⟨i1, i2, i3⟩ hsz hpx
      have hy := run_yield (P := P) (args := v) i2 (by rw [hR]; exact hps x v hev)
      rw [hR] at hy
      refine ⟨fn, _, assign, body, hy, roundIn_of_wpIn hfn (hassign _ pre x v W _ hev i1 (by omega) fun a' W2 t2 hx2 => ?_)⟩
      have e2 : ∀ k, k < W.heap.size → W2.heap[k]? = W.heap[k]? := fun k hk => t2.block k hk fun h => h
      have b2 : Below w.heap.size W W2 := turn_below t2 (by omega) fun b h => h.elim
      have l2 : W2.heap[w.heap.size + 1]? = some (.loop (R .ready)) := (e2 _ (by omega)).trans i2
      have d2 : W2.heap[w.heap.size]? = some (.deferred (some [])) := (e2 _ (by omega)).trans i3
      have s2 := t2.size
      refine ⟨_, run_beginRound l2 (by rw [hR]), ?_⟩
      have l3 : (W2.putObj (w.heap.size + 1) (.loop { R .ready with state := .busy })).heap[w.heap.size + 1]? = some (.loop { R .ready with state := .busy }) := World.putObj_heap_same (by omega)
      have d3 : (W2.putObj (w.heap.size + 1) (.loop { R .ready with state := .busy })).heap[w.heap.size]? = some (.deferred (some [])) := (World.putObj_heap_other (by omega)).trans d2
      have b3 := hI _ _ _ (hI _ _ _ i1 b2) (put_below W2 (B := w.heap.size) (D := w.heap.size + 1) (by omega) (by omega) (.loop { R .ready with state := .busy }))
      refine wpIn_mono (hbody _ pre x a' _ b3 (hAx _ _ _ _ _ _ hx2 l2) (by simp; omega) hpx) ?_
      rintro e a3 W3 ⟨rfl, t3, hi3⟩
      have l4 : W3.heap[w.heap.size + 1]? = some (.loop { R .ready with state := .busy }) := (t3.block _ (by simp; omega) (by omega)).trans l3
      have d4 : W3.heap[w.heap.size]? = some (.deferred (some [])) := (t3.block _ (by simp; omega) (by omega)).trans d3
      have s3 := t3.size
      simp only [World.putObj_size] at s3
      have hend := run_endRound (P := P) none l4
      have hr : (Obj.loop { ({ R .ready with state := .busy } : Loop) with state := if (none : Option Code).isNone then .ready else .done, pending := none }) = .loop (R .ready) := by rw [hR]; rfl
      rw [hr] at hend
      refine ⟨_, _, hend, rfl, ⟨hI _ _ _ hi3 (put_below W3 (by omega) (by omega) _), World.putObj_heap_same (by omega), (World.putObj_heap_other (by omega)).trans d4⟩, ?_⟩
      have T2 : Turn (fun b => n₀ ≤ b ∧ b < W1.heap.size) W W2 := t2.mono fun b _ h => h.elim
      refine turn_put ((turn_put T2 ⟨by omega, by omega⟩ _).trans (t3.mono fun b _ h => ⟨h.1, by omega⟩)) ⟨by omega, by omega⟩ _
    · rintro e W2 ⟨⟨v, rfl⟩, i1, i2, i3⟩
      have hend := run_endLoop (P := P) i2 (by rw [hR]; simp)
      have hp : (R .ready).pending = none := by rw [hR]
      rw [hp] at hend
      have hlt := (Array.getElem?_eq_some_iff.1 i2).1
      exact ⟨none, _, hend, hdone _ _ (Nat.le_refl _) (hI _ _ _ i1 (put_below W2 (by omega) (by omega) _)) ((World.putObj_heap_other (by omega)).trans i3)⟩

end Go.Proofs.YtlanodchnjojoaaDoor

namespace Go.Proofs.YtlanodchnjojoaaDoor
open Go.RowKit Go.Shelf
attribute [local go_sem] Oper.semAt_some

theorem ownsRow_blocks {w w' : World} {B : Nat} {e : TypeId} {size n : Nat} {v : Value} {xs : List Value} (h : w.ownsRow B e size v n xs) (hk : ∀ b, B ≤ b → b < w.heap.size → w'.heap[b]? = w.heap[b]?) : w'.ownsRow B e size v n xs := by
  refine ⟨h.1, ?_⟩
  rcases h.2 with h1 | ⟨g, cap, cur, h1, h2, h3, h4⟩
  · exact .inl h1
  · exact .inr ⟨g, cap, cur, h1, h2, (hk g h2 (get_lt h3)).trans h3, h4⟩

/-- The caller has turned blocks of its own. -/
theorem Mat0.rebase {w w' : World} {G : Geo} {D : Dyn} {bit : Nat → Nat → Bool} (h : Mat0 w G D bit) {n₀ : Nat} (hp : PatAt n₀ w' G.pb G.cb G.capc G.C G.ng G.nl G.S) (hn : n₀ ≤ G.B) (t : Turn (fun b => n₀ ≤ b ∧ b < G.B) w w') (hkp : G.kept = []) :
    Mat0 w' { G with w0 := w' } D bit :=
  have hk : ∀ b, G.B ≤ b → b < w.heap.size → w'.heap[b]? = w.heap[b]? := fun b h1 h2 => t.block b h2 (by omega)
  { pat := hp.up hn (Below.refl _ _), below := Below.refl _ _, m := by obtain ⟨v4, v5, v6, h1⟩ := h.m; exact ⟨v4, v5, v6, h1.keep (hk _ h.lm h1.lt)⟩,
    pc := ownsRow_blocks h.pc hk, jc := h.jc, jo := ownsRow_blocks h.jo hk, bn := h.bn.keep (hk _ h.lb h.bn.lt), rl := h.rl,
    row := fun j hj => by
      rcases h.row j hj with h1 | ⟨h1, h2, h3, h4, h5, h6⟩
      · exact .inl h1
      · exact .inr ⟨h1, h2.keep (hk _ h5 h2.lt), h3, h4, h5, h6⟩,
    tm := h.tm, tb := h.tb, tp := h.tp, tj := h.tj, lm := h.lm, lb := h.lb, wf := h.wf, np := h.np, sz := h.sz, pcs := h.pcs, acs := h.acs,
    kp := fun q o hq => by
      have hq' : (q, o) ∈ G.kept := hq
      rw [hkp] at hq'; cases hq' }

/-- The pieces that are met, below a number. -/
def hitsTo (hit : Nat → Bool) (k : Nat) : List Nat := (List.range k).filter hit
theorem hitsTo_skip {hit : Nat → Bool} {k : Nat} : ∀ d, (∀ j, k ≤ j → j < k + d → hit j = false) → hitsTo hit (k + d) = hitsTo hit k
  | 0, _ => rfl
  | d + 1, h => by
    have ih := hitsTo_skip d fun j h1 h2 => h j h1 (by omega)
    unfold hitsTo at ih ⊢
    rw [show k + (d + 1) = (k + d) + 1 by omega, List.range_succ, List.filter_append, ih]
    have := h (k + d) (by omega) (by omega)
    simp [this]
theorem hitsTo_hit {hit : Nat → Bool} {k : Nat} (h : hit k = true) : hitsTo hit (k + 1) = hitsTo hit k ++ [k] := by
  unfold hitsTo; rw [List.range_succ, List.filter_append]; simp [h]
theorem hitsTo_next {hit : Nat → Bool} {k j : Nat} (hkj : k ≤ j) (hno : ∀ i, k ≤ i → i < j → hit i = false) (h : hit j = true) : hitsTo hit (j + 1) = hitsTo hit k ++ [j] := by
  obtain ⟨d, rfl⟩ : ∃ d, j = k + d := ⟨j - k, by omega⟩
  rw [hitsTo_hit h, hitsTo_skip d hno]
theorem hitsTo_prefix {hit : Nat → Bool} {k n : Nat} (h : k ≤ n) : hitsTo hit k <+: hitsTo hit n := by
  obtain ⟨d, rfl⟩ : ∃ d, n = k + d := ⟨n - k, by omega⟩
  unfold hitsTo
  rw [List.range_add, List.filter_append]
  exact ⟨_, rfl⟩

def EncM (s : ByteArray) (k : Nat) (v : Array Value) : Prop := ∃ a m c, v = #[matchV (plcS s k) (plcS s (k + 1)) (.slice a m c)]

structure AllI (G : Geo) (J : List Nat → World → Prop) (hit : Nat → Bool) (n₀ : Nat) (W : World) (k : Nat) (w : World) : Prop where
  le : k ≤ G.ps.length
  j : J (hitsTo hit k) w
  mat : ∃ w0 D bit, Mat0 w { G with w0 := w0 } D bit ∧ Clo G.C G.ps (visOf G.C bit) k fun _ => False
  low : Below n₀ W w

set_option maxRecDepth 100000 in
set_option maxHeartbeats 4000000 in
theorem all1_cells (n : Nat) (hn : 1 ≤ n) (Bp Bs n₀ : Nat) {pb cb capc : Nat} {C : List Step} {ng nl S : Nat} (s : ByteArray) (hs : s.size ≤ 65536) (w : World) (hp : PatAt n₀ w pb cb capc C ng nl S) (wf : WF C ng nl S) (hac : ∀ st ∈ C, st.dO = 0 → st.what = 0 ∨ (st.what = 1 ∧ ∀ p ∈ pieces s, simple p))
    (hit : Nat → Bool) (hW : ∀ k t, Way C (pieces s) k t ↔ (hit k = true ∧ t = k + 1)) (hlen : ∀ k, hit k = true → k < (pieces s).length ∧ plcS s k ≠ plcS s (k + 1))
    (hn0 : n₀ ≤ w.heap.size) (hBp : Bp < w.heap.size) (hBs : Bs < w.heap.size) (cp : w.cell? ⟨Bp, 0, none⟩ = some (.pointer (some ⟨pb, 0, none⟩))) (cs : w.cell? ⟨Bs, 0, none⟩ = some (.string s)) :
    SeqCells Fence.wide n Tryd.prog 17 #[.pointer (some ⟨Bp, 0, none⟩), .pointer (some ⟨Bs, 0, none⟩)] (EncM s) n₀ (hitsTo hit (pieces s).length) w := fun l J W hW0 hJ hY h0 => by
  have cp' := (hW0.cell (p := ⟨Bp, 0, none⟩) hBp).trans cp
  have cs' := (hW0.cell (p := ⟨Bs, 0, none⟩) hBs).trans cs
  have hp0 : PatAt n₀ W pb cb capc C ng nl S := hp.keep (hW0.mono hn0)
  have hszW := hW0.size
  have hp1 : PatAt W.heap.size W pb cb capc C ng nl S := hp0.up (by omega) (Below.refl _ _)
  have hs1 : ¬ ((65536 : Int) < (s.size : Int)) := by omega
  have HP0 := Lib.hid hp0
  have HP1 := Lib.hid hp1
  have HJ := Lib.hid hJ
  have HY := Lib.hid hY
  have H0 := Lib.hid h0
  have HWF := Lib.hid wf
  have HAC := Lib.hid hac
  have HW := Lib.hid hW
  have HL := Lib.hid hlen
  clear hJ hY h0 hp0 hp1 hp cp cs hW0 wf hac hW hlen
  refine callsIn_of_wp Tryd.func17 rfl trivial ?_ rfl
  simp only [Tryd.ntmps17, List.size_toArray, List.length_cons, List.length_nil, Nat.reduceAdd, Nat.reduceSub, Array.replicate_succ, Array.replicate_zero, List.push_toArray, List.append_toArray, List.nil_append, List.cons_append]
  gi_wp2_with (refine ⟨trivial, ?_⟩; gi_at_call 14; refine (callsIn_wide.2 (newMatcher_met HP1.out HWF.out s hs HAC.out)).mono ?_; rintro e w1 ⟨mb, bb, pv, D1, rfl, hM1⟩; have HM1 := Lib.hid hM1; clear hM1)
  obtain ⟨G, hG⟩ : ∃ G : Geo, G = ⟨W, W.heap.size, pb, cb, capc, C, pieces s, ng, nl, S, s, mb, bb, pv, []⟩ := ⟨_, rfl⟩
  have e1 : mb = G.mb := by rw [hG]
  have e2 : G.B = W.heap.size := by rw [hG]
  have e3 : G.ps = pieces s := by rw [hG]
  have e4 : G.C = C := by rw [hG]
  have e5 : G.kept = [] := by rw [hG]
  have e6 : G.s = s := by rw [hG]
  have HPG : ∀ wr, Below n₀ W wr → PatAt n₀ wr G.pb G.cb G.capc G.C G.ng G.nl G.S := fun wr h => by rw [hG]; exact HP0.out.keep h
  have hM1 : Mat0 w1 { G with w0 := W } D1 (fun _ _ => false) := by rw [hG]; exact HM1.out
  have hb1 : Below W.heap.size W w1 := by have := hM1.below; rw [show ({ G with w0 := W } : Geo).B = W.heap.size from e2] at this; exact this
  have hA0 : AllI G J hit n₀ W 0 w1 := ⟨Nat.zero_le _, HJ.out _ _ _ H0.out hb1, ⟨W, D1, _, hM1, fun x hx _ => by have := hx.2.2; cases this⟩, hb1.mono (by omega)⟩
  obtain ⟨pa, pn, pcap, hpv⟩ := ownsRow_form hM1.pc
  rw [show ({ G with w0 := W } : Geo).pv = G.pv from rfl] at hpv
  have hpn : pn = G.ps.length := by
    have := hM1.pc
    rw [show ({ G with w0 := W } : Geo).pv = G.pv from rfl, hpv] at this
    rcases this.2 with ⟨h1, h2⟩ | ⟨g, cap, cur, h1, _⟩
    · cases h1; exact h2.symm
    · exact (Value.slice.inj h1).2.1
  rw [hpn] at hpv
  have hnp : G.ps.length ≤ 65536 := hM1.np
  have hnB : n₀ ≤ G.B := by rw [e2]; omega
  rw [e1]
  have E2 := Lib.hid e2
  have E3 := Lib.hid e3
  have E4 := Lib.hid e4
  have E5 := Lib.hid e5
  have E6 := Lib.hid e6
  have HPV := Lib.hid hpv
  clear hG e1 e2 e3 e4 e5 e6 hM1 hb1 HM1 hpv hpn HP0 HP1 cp' cs'
  gi_loopw [5] (fun s5 wr => ∃ k : Nat, s5 = .int .i64 (k : Int) ∧ AllI G J hit n₀ W k wr) (fun s5 _ => match s5 with | .int _ x => G.ps.length + 1 - x.toNat | _ => 0)
  case atStart => exact ⟨0, rfl, hA0⟩
  case round =>
    clear hA0
    obtain ⟨k, rfl, hle, hj, ⟨w0', D, bit, hM, hclo⟩, hlow⟩ := hrel
    have hM0 : Mat0 wr { G with w0 := wr } D bit := hM.rebase (HPG wr hlow) hnB (Turn.refl _ _) E5.out
    obtain ⟨v4, v5, v6, hm⟩ := hM0.m
    have hm2 := hm.cell (j := 2) (v := G.pv) rfl
    rw [HPV.out] at hm2
    have hfd := find_met hM0 (fr := k) hle hclo
    have HFD := Lib.hid hfd
    have hleI : (k : Int) ≤ (G.ps.length : Int) := by omega
    have HJ1 := Lib.hid hj
    have HLOW := Lib.hid hlow
    clear hM hM0 hclo hm hfd hj hlow
    gi_wp2_with fail
    refine ⟨trivial, ?_⟩
    refine (callsIn_wide.2 HFD.out).mono ?_
    rintro e w2 ⟨⟨D2, bit2, hM2⟩, hfnd⟩
    obtain ⟨x, y, a, n', c, t, b, rfl, hfnd'⟩ := find_form hfnd
    have hb2 : Below W.heap.size wr w2 := by have := hM2.below; rw [show ({ G with w0 := wr } : Geo).B = W.heap.size from E2.out] at this; exact this
    have hJ2 := HJ.out _ _ _ HJ1.out hb2
    have hlow2 : Below n₀ W w2 := HLOW.out.trans (hb2.mono (by omega))
    have hs2 : W.heap.size ≤ w2.heap.size := by have := hM2.Bsize; rw [show ({ G with w0 := wr } : Geo).B = W.heap.size from E2.out] at this; exact this
    have hbA : Below W.heap.size w2 (w2.alloc (.cells #[.int .i64 (x : Int), .int .i64 (y : Int), .slice a n' c] 35)) := (Below.refl _ _).alloc hs2 _
    have hJ3 := HJ.out _ _ _ hJ2 hbA
    clear hfnd HFD hm2
    rcases hfnd' with ⟨rfl, k', hk1, hk2, ht, hno, hway, hx, hy⟩ | ⟨rfl, hno⟩
    · rw [show ({ G with w0 := wr } : Geo).C = C from E4.out, show ({ G with w0 := wr } : Geo).ps = pieces s from E3.out] at hway
      obtain ⟨hk', rfl⟩ := (HW.out k' t).1 hway
      obtain ⟨hl', hne⟩ := HL.out k' hk'
      have hx' : x = plcS s k' := by rw [hx]; unfold plc plcS; rw [show ({ G with w0 := wr } : Geo).ps = pieces s from E3.out, show ({ G with w0 := wr } : Geo).s = s from E6.out]
      have hy' : y = plcS s (k' + 1) := by rw [hy]; unfold plc plcS; rw [show ({ G with w0 := wr } : Geo).ps = pieces s from E3.out, show ({ G with w0 := wr } : Geo).s = s from E6.out]
      have hxy : ((x : Int) == (y : Int)) = false := by rw [beq_eq_false_iff_ne, hx', hy']; intro h; exact hne (by omega)
      have hnext := hitsTo_next hk1 (fun i h1 h2 => by
        cases hh : hit i with
        | false => rfl
        | true =>
          exfalso
          have := (HW.out i (i + 1)).2 ⟨hh, rfl⟩
          rw [← E3.out, ← E4.out] at this
          exact hno i h1 h2 _ this) hk'
      have hlt' : k' + 1 ≤ G.ps.length := by rw [E3.out]; omega
      obtain ⟨fn, tmps, assign, body, hyl, hR⟩ := HY.out (hitsTo hit k) k' #[matchV x y (.slice a n' c)] (w2.alloc (.cells #[.int .i64 (x : Int), .int .i64 (y : Int), .slice a n' c] 35)) ⟨a, n', c, by rw [hx', hy']⟩ hJ3 (by simp; omega)
        (by rw [← hnext]; exact hitsTo_prefix (by omega))
      unfold matchV at hyl
      have HR := Lib.hid hR
      have HNX := Lib.hid hnext
      have HM2 := Lib.hid hM2
      have HL2 := Lib.hid hlow2
      have HXY := Lib.hid hxy
      have hkI : ((k' : Int) + 1) ≤ (G.ps.length : Int) := by omega
      clear hR hnext hM2 hlow2 hno hway hx hy hx' hy' hJ2 hJ3 hb2 hbA hne ht hk2 hxy
      gi_wp2_with fail
      refine HR.out.mono ?_
      clear HR hyl
      rintro e W3 ⟨rfl, hJ4, hT4⟩
      have hX0 : Blk W3 w2.heap.size 35 [.int .i64 (x : Int), .int .i64 (y : Int), .slice a n' c] := hT4.keep (Blk.new w2 35 [.int .i64 (x : Int), .int .i64 (y : Int), .slice a n' c]) (by omega)
      have x0 := hX0.cell (j := 0) rfl
      have x1 := hX0.cell (j := 1) rfl
      have hMa : Mat0 (w2.alloc (.cells #[.int .i64 (x : Int), .int .i64 (y : Int), .slice a n' c] 35)) { G with w0 := wr } D2 bit2 := HM2.out.new ((Below.refl _ _).alloc (Nat.le_refl _) _)
      have hs3 : n₀ ≤ w2.heap.size := by omega
      have hl3 : Below n₀ W W3 := (HL2.out.alloc hs3 _).trans (turn_below hT4 (by simp; omega) fun b h => h.1)
      have hM4 : Mat0 W3 { G with w0 := W3 } D2 bit2 := Mat0.rebase (G := { G with w0 := wr }) hMa (HPG W3 hl3) hnB (by show Turn (fun b => n₀ ≤ b ∧ b < G.B) _ _; rw [E2.out]; exact hT4) E5.out
      obtain ⟨v4, v5, v6, hm⟩ := hM4.m
      have hm2 := hm.cell (j := 2) (v := G.pv) rfl
      rw [HPV.out] at hm2
      have hfg := forget_met hM4 hlt'
      have HFG := Lib.hid hfg
      have HJ4 := Lib.hid hJ4
      have HL3 := Lib.hid hl3
      have HX0 := Lib.hid hX0
      have hxy := HXY.out
      clear hfg hJ4 hl3 hM4 hMa hm hT4 hX0 HM2 HL2 HJ1 HLOW
      gi_wp2_with fail
      refine ⟨trivial, ?_⟩
      refine (callsIn_wide.2 HFG.out).mono ?_
      rintro e w5 ⟨rfl, D5, hM5⟩
      clear HFG hm2 x0 x1
      gi_wp2_with fail
      have hb5 : Below W.heap.size W3 w5 := by have := hM5.below; rw [show ({ G with w0 := W3 } : Geo).B = W.heap.size from E2.out] at this; exact this
      go_roundw
      case rel =>
        refine ⟨k' + 1, by simp, hlt', ?_, ⟨W3, D5, _, hM5, fun z hz hzk => ?_⟩, HL3.out.trans (hb5.mono (by omega))⟩
        · rw [HNX.out]; exact HJ.out _ _ _ HJ4.out hb5
        · have h3 := hz.2.2
          simp only [Bool.and_eq_true, decide_eq_true_eq] at h3
          omega
      case measure => simp; omega
    · have hend : hitsTo hit (pieces s).length = hitsTo hit k := by
        have h1 : k ≤ (pieces s).length := by rw [← E3.out]; exact hle
        obtain ⟨d, hd⟩ : ∃ d, (pieces s).length = k + d := ⟨(pieces s).length - k, by omega⟩
        rw [hd]
        refine hitsTo_skip d fun j h2 h3 => ?_
        cases hh : hit j with
        | false => rfl
        | true =>
          exfalso
          have := (HW.out j (j + 1)).2 ⟨hh, rfl⟩
          rw [← E3.out, ← E4.out] at this
          exact hno j h2 (by show j ≤ G.ps.length; rw [E3.out]; omega) _ this
      have HE := Lib.hid hend
      have HJ3 := Lib.hid hJ3
      clear hend hJ3 hJ2 hM2 hb2 hlow2 hbA hno
      gi_wp2_with fail
      refine ⟨fun _ h => (by cases h), ?_⟩
      gi_wp2_with fail
      refine bodyPost_ret (results_none rfl _ _ _) rfl ?_
      exact ⟨⟨_, rfl⟩, by rw [HE.out]; exact HJ3.out⟩

end Go.Proofs.YtlanodchnjojoaaDoor
