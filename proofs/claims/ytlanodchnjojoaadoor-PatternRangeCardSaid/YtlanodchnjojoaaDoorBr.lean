/- What holds while branches are read. -/
import Derived.Test.YtlanodchnjojoaaDoorPa
import Derived.Deep.LoopGhost
import Derived.ScopeJumps
import Derived.Deep.QuietTactic
import Derived.BigQuiet
import Derived.Deep.RegionWith
namespace Go.Proofs.YtlanodchnjojoaaDoor
open Go.RowKit

/-- A scope in which the run jumps back to a label: what holds at every jump bears a number, which every pass lowers. -/
theorem wp_scope_ghost {P : Program} {Q : Exit → Act → World → Prop} {a : Act} {w : World} {c rest : Code} (l : Nat) (J : Nat → Act → World → Prop) (hf : findLabel c l = some (.seq .skip rest))
    (first : (∀ n a w, J n a w → rest.wp P (Exit.jump l (fun a w => ∃ n, J n a w) Q) a w) → c.wp P (Exit.jump l (fun a w => ∃ n, J n a w) Q) a w)
    (pass : ∀ n a w, J n a w → rest.wp P (Exit.jump l (fun a' w' => ∃ m, m < n ∧ J m a' w') Q) a w) : (Code.scope c).wp P Q a w := by
  have pass' : ∀ n a w, J n a w → (Code.seq .skip rest).wp P (Exit.jump l (fun a' w' => ∃ m, m < n ∧ J m a' w') Q) a w := fun n a w hJ => wp_seq (wp_skip (pass n a w hJ))
  refine wp_scope_jumps l (fun a w => ∃ n, J n a w) (fun a w => leastOf fun n => J n a w) hf (first fun n a w hJ => wp_mono (pass n a w hJ) fun e a' w' hq => ?_) fun a w hJ => ?_
  · cases e with
    | goto l' =>
      obtain ⟨rfl, m, hm, hJ'⟩ := hq
      exact ⟨rfl, m, hJ'⟩
    | normal => exact hq
    | exit id => exact hq
    | ret => exact hq
    | panic ch => exact hq
    | outgrown => exact hq
  refine wp_mono (pass' _ a w (leastOf_spec hJ).1) ?_
  intro e a' w' hq
  cases e with
  | goto l' =>
    obtain ⟨rfl, m, hm, hJ'⟩ := hq
    exact ⟨rfl, ⟨m, hJ'⟩, Nat.lt_of_le_of_lt ((leastOf_spec ⟨m, hJ'⟩).2 m hJ') hm⟩
  | normal => exact hq
  | exit id => exact hq
  | ret => exact hq
  | panic ch => exact hq
  | outgrown => exact hq

def brF (B : Nat) (lv ov : Value) (b : Nat) : Prop := B ≤ b ∧ lv.ownBlock ≠ some b ∧ ov.ownBlock ≠ some b

/-- The reader, the part list and the branch list under way. -/
structure BrI (w : World) (rb : Nat) (s : ByteArray) (wr : World) (p : PS) (cur out : T) (cl co : List Value) (lv ov : Value) : Prop where
  rd : Rd wr rb s p.at_ p.g p.z
  gr : w.grownBy wr (some rb)
  rlt : rb < w.heap.size
  lo : wr.ownsRow w.heap.size 76 12 lv cur.len cl
  oo : wr.ownsRow w.heap.size 68 1 ov out.len co
  lr : Rep wr (brF w.heap.size lv ov) 12 cur cl
  orr : Rep wr (brF w.heap.size lv ov) 1 out co
  ll : cur.isL = true
  ol : out.isL = true
  ne : ∀ b, lv.ownBlock = some b → ov.ownBlock ≠ some b

variable {w wr w3 : World} {rb : Nat} {s : ByteArray} {p q : PS} {cur out : T} {cl co : List Value} {lv ov : Value}

theorem own_lt {B : Nat} {e : TypeId} {size n : Nat} {v : Value} {xs : List Value} (h : wr.ownsRow B e size v n xs) {b : Nat} (hb : v.ownBlock = some b) : B ≤ b ∧ b < wr.heap.size := h.lt b hb

/-- Nothing turns but the reader, and there are new blocks. -/
theorem BrI.step (h : BrI w rb s wr p cur out cl co lv ov) (hg : wr.grownBy w3 (some rb)) (hr : Rd w3 rb s q.at_ q.g q.z) : BrI w rb s w3 q cur out cl co lv ov where
  rd := hr
  gr := ⟨hg.os.trans h.gr.os, hg.tape.trans h.gr.tape, hg.output.trans h.gr.output, Nat.le_trans h.gr.size hg.size, fun b hb hn => (hg.block b (Nat.lt_of_lt_of_le hb h.gr.size) hn).trans (h.gr.block b hb hn)⟩
  rlt := h.rlt
  lo := h.lo.kept hg (by
    cases hv : lv.ownBlock with
    | none => exact .inl rfl
    | some b => refine .inr fun e => ?_
                have := own_lt h.lo hv; cases e; have := h.rlt; omega)
  oo := h.oo.kept hg (by
    cases hv : ov.ownBlock with
    | none => exact .inl rfl
    | some b => refine .inr fun e => ?_
                have := own_lt h.oo hv; cases e; have := h.rlt; omega)
  lr := Rep.keep (fun _ _ hb => hb) hg.size (fun b hb hF => hg.block b hb fun e => by cases e; have := hF.1; have := h.rlt; omega) _ _ _ h.lr
  orr := Rep.keep (fun _ _ hb => hb) hg.size (fun b hb hF => hg.block b hb fun e => by cases e; have := hF.1; have := h.rlt; omega) _ _ _ h.orr
  ll := h.ll
  ol := h.ol
  ne := h.ne

theorem BrI.alloc (h : BrI w rb s wr p cur out cl co lv ov) (o : Obj) : BrI w rb s (wr.alloc o) p cur out cl co lv ov :=
  h.step (World.grownBy_alloc wr o (some rb)) (Blk.alloc h.rd o)
theorem BrI.drew (h : BrI w rb s wr p cur out cl co lv ov) : BrI w rb s wr.drew p cur out cl co lv ov :=
  h.step ⟨rfl, rfl, rfl, Nat.le_refl _, fun _ _ _ => rfl⟩ (Blk.drew h.rd)
theorem BrI.drewN (h : BrI w rb s wr p cur out cl co lv ov) (n : Nat) : BrI w rb s (wr.drewN n) p cur out cl co lv ov :=
  h.step (grown_drewN _ _ _) (h.rd.drewN n)

/-- One more part. -/
theorem BrI.push (h : BrI w rb s wr p cur out cl co lv ov) {x : T} {c : List Value} {Fx : Nat → Prop} (hx : Rep wr Fx 0 x c) (hFx : ∀ b, b < wr.heap.size → Fx b → brF w.heap.size lv ov b) (hc : c.length = 12) {g cap : Nat}
    (hown : w3.ownsRow w.heap.size 76 12 (.slice (some ⟨g, 0, none⟩) (cur.len + 1) cap) (cur.len + 1) (cl ++ c)) (hg : wr.grownBy w3 lv.ownBlock) (hor : lv.ownBlock = some g ∨ g = wr.heap.size) :
    BrI w rb s w3 p (cur.snoc x) out (cl ++ c) co (.slice (some ⟨g, 0, none⟩) (cur.len + 1) cap) ov := by
  have hne : ∀ b, b < wr.heap.size → brF w.heap.size lv ov b → brF w.heap.size (.slice (some ⟨g, 0, none⟩) (cur.len + 1) cap) ov b ∧ some b ≠ lv.ownBlock := fun b hb hF => by
    refine ⟨⟨hF.1, fun e => ?_, hF.2.2⟩, fun e => hF.2.1 e.symm⟩
    simp only [Value.ownBlock, Option.some.injEq] at e
    rcases hor with ho | ho
    · exact hF.2.1 (by rw [ho, e])
    · omega
  have hrd : some rb ≠ lv.ownBlock := fun e => by
    have := own_lt h.lo e.symm; have := h.rlt; omega
  have hlr : Rep w3 (brF w.heap.size (.slice (some ⟨g, 0, none⟩) (cur.len + 1) cap) ov) 12 cur cl := Rep.keep (fun b hb hF => (hne b hb hF).1) hg.size (fun b hb hF => hg.block b hb (hne b hb hF).2) _ _ _ h.lr
  have hx3 : Rep w3 (brF w.heap.size (.slice (some ⟨g, 0, none⟩) (cur.len + 1) cap) ov) 0 x c := Rep.keep (fun b hb hF => (hne b hb (hFx b hb hF)).1) hg.size (fun b hb hF => hg.block b hb (hne b hb (hFx b hb hF)).2) _ _ _ hx
  exact
  { rd := h.rd.keep (hg.block rb h.rd.lt hrd)
    gr := ⟨hg.os.trans h.gr.os, hg.tape.trans h.gr.tape, hg.output.trans h.gr.output, Nat.le_trans h.gr.size hg.size, fun b hb hn => (hg.block b (Nat.lt_of_lt_of_le hb h.gr.size) fun e => by have := own_lt h.lo e.symm; omega).trans (h.gr.block b hb hn)⟩
    rlt := h.rlt
    lo := by rw [T.len_snoc _ _ h.ll]; exact hown
    oo := h.oo.kept hg (by
      cases hv : ov.ownBlock with
      | none => exact .inl rfl
      | some b => exact .inr fun e => h.ne b e.symm hv)
    lr := Rep.snoc hx3 hc _ _ h.ll hlr
    orr := Rep.keep (fun b hb hF => (hne b hb hF).1) hg.size (fun b hb hF => hg.block b hb (hne b hb hF).2) _ _ _ h.orr
    ll := T.isL_snoc _ _ h.ll
    ol := h.ol
    ne := fun b hb hv => by
      simp only [Value.ownBlock, Option.some.injEq] at hb
      subst hb
      rcases hor with ho | ho
      · exact h.ne _ ho hv
      · have := own_lt h.oo hv; omega }

/-- A branch ends. -/
theorem BrI.shut (h : BrI w rb s wr p cur out cl co lv ov) {g cap : Nat}
    (hown : w3.ownsRow w.heap.size 68 1 (.slice (some ⟨g, 0, none⟩) (out.len + 1) cap) (out.len + 1) (co ++ [lv])) (hg : wr.grownBy w3 ov.ownBlock) (hor : ov.ownBlock = some g ∨ g = wr.heap.size) :
    BrI w rb s w3 p .nil (out.snoc (.lst cur)) [] (co ++ [lv]) (.slice none 0 0) (.slice (some ⟨g, 0, none⟩) (out.len + 1) cap) := by
  have hne : ∀ b, b < wr.heap.size → brF w.heap.size lv ov b → brF w.heap.size (.slice none 0 0) (.slice (some ⟨g, 0, none⟩) (out.len + 1) cap) b ∧ some b ≠ ov.ownBlock := fun b hb hF => by
    refine ⟨⟨hF.1, by simp [Value.ownBlock], fun e => ?_⟩, fun e => hF.2.2 e.symm⟩
    simp only [Value.ownBlock, Option.some.injEq] at e
    rcases hor with ho | ho
    · exact hF.2.2 (by rw [ho, e])
    · omega
  have hrd : some rb ≠ ov.ownBlock := fun e => by
    have := own_lt h.oo e.symm; have := h.rlt; omega
  have hlr : Rep w3 (brF w.heap.size (.slice none 0 0) (.slice (some ⟨g, 0, none⟩) (out.len + 1) cap)) 12 cur cl := Rep.keep (fun b hb hF => (hne b hb hF).1) hg.size (fun b hb hF => hg.block b hb (hne b hb hF).2) _ _ _ h.lr
  have hlo : w3.ownsRow w.heap.size 76 12 lv cur.len cl := h.lo.kept hg (by
      cases hv : lv.ownBlock with
      | none => exact .inl rfl
      | some b => exact .inr fun e => h.ne b hv e.symm)
  have hrow : RowIs w3 (brF w.heap.size (.slice none 0 0) (.slice (some ⟨g, 0, none⟩) (out.len + 1) cap)) lv cur.len cl := RowIs.own hlo fun b hb => by
    refine ⟨(own_lt h.lo hb).1, by simp [Value.ownBlock], fun e => ?_⟩
    simp only [Value.ownBlock, Option.some.injEq] at e
    rcases hor with ho | ho
    · exact h.ne b hb (by rw [ho, e])
    · have := own_lt h.lo hb; omega
  exact
  { rd := h.rd.keep (hg.block rb h.rd.lt hrd)
    gr := ⟨hg.os.trans h.gr.os, hg.tape.trans h.gr.tape, hg.output.trans h.gr.output, Nat.le_trans h.gr.size hg.size, fun b hb hn => (hg.block b (Nat.lt_of_lt_of_le hb h.gr.size) fun e => by have := own_lt h.oo e.symm; omega).trans (h.gr.block b hb hn)⟩
    rlt := h.rlt
    lo := World.ownsRow_nil _ _ _ _
    oo := by rw [T.len_snoc _ _ h.ol]; exact hown
    lr := rfl
    orr := Rep.snoc (x := .lst cur) (c := [lv]) ⟨lv, cl, rfl, hrow, h.lo.1, hlr⟩ rfl _ _ h.ol (Rep.keep (fun b hb hF => (hne b hb hF).1) hg.size (fun b hb hF => hg.block b hb (hne b hb hF).2) _ _ _ h.orr)
    ll := rfl
    ol := T.isL_snoc _ _ h.ol
    ne := fun b hb => by cases hb }

theorem BrI.repV (h : BrI w rb s wr p cur out cl co (.slice none 0 0) ov) : RepV wr (fun b => w.heap.size ≤ b) ov out :=
  ⟨co, RowIs.own h.oo fun b hb => (own_lt h.oo hb).1, h.oo.1, Rep.keep (fun _ _ hF => hF.1) (Nat.le_refl _) (fun _ _ _ => rfl) _ _ _ h.orr⟩

theorem BrI.start (h : Rd w rb s p.at_ p.g p.z) : BrI w rb s w p .nil .nil [] [] (.slice none 0 0) (.slice none 0 0) :=
  ⟨h, ⟨rfl, rfl, rfl, Nat.le_refl _, fun _ _ _ => rfl⟩, h.lt, World.ownsRow_nil _ _ _ _, World.ownsRow_nil _ _ _ _, rfl, rfl, rfl, rfl, fun b hb => by cases hb⟩

theorem infoPart : (Tryd.prog.info? 76).map (fun i => (i.zero, i.size, i.bytes)) = some (some (.agg #[.int .i64 0, .int .i32 0, .bool false, .int .u8 0, .bool false, .slice none 0 0, .bool false, .int .i64 0, .slice none 0 0, .int .i64 0, .int .i64 0, .int .i64 0]), 12, 112) := by kernel_rfl
theorem infoParts : (Tryd.prog.info? 68).map (fun i => (i.zero, i.size, i.bytes)) = some (some (.slice none 0 0), 1, 24) := by kernel_rfl

end Go.Proofs.YtlanodchnjojoaaDoor

namespace Go.Proofs.YtlanodchnjojoaaDoor
open Go.RowKit

/-- What holds at the label. -/
def BrJ (w : World) (rb : Nat) (s : ByteArray) (rec : PS → Option (T × Nat × PS)) (t : T) (sz : Nat) (q : PS) (k : Nat) (a : Act) (wr : World) : Prop :=
  ∃ (ov : Value) (size : Nat) (u6 u7 u8 u9 u10 u11 u12 u13 u14 u15 u16 u17 u18 u19 u20 u21 u22 u23 u24 u25 u26 u27 u28 u29 u30 u31 u32 u33 u34 u35 u36 u37 u38 u39 u40 u41 u42 u43 u44 u45 u46 u47 u48 u49 u50 u51 u52 : Value), a = { tmps := #[.pointer (some ⟨rb, 0, none⟩), undef, .slice none 0 0, .int .i64 0, ov, .int .i64 (size : Nat), u6, u7, u8, u9, u10, u11, u12, u13, u14, u15, u16, u17, u18, u19, u20, u21, u22, u23, u24, u25, u26, u27, u28, u29, u30, u31, u32, u33, u34, u35, u36, u37, u38, u39, u40, u41, u42, u43, u44, u45, u46, u47, u48, u49, u50, u51, u52], defers := [] } ∧
    ∃ p out co, BrI w rb s wr p .nil out [] co (.slice none 0 0) ov ∧ pLoop rec s k p size .nil out = some (t, sz, q) ∧ out.len + k ≤ 1000

theorem own_form {w : World} {B : Nat} {e : TypeId} {size n : Nat} {v : Value} {xs : List Value} (h : w.ownsRow B e size v n xs) : ∃ a m c, v = .slice a m c := by
  rcases h.2 with ⟨h, _⟩ | ⟨_, _, _, h, _⟩ <;> exact ⟨_, _, _, h⟩
theorem heap_alloc_new' (w : World) (o : Obj) (b : Nat) (hb : b = w.heap.size) : (w.alloc o).heap[b]? = some o := hb ▸ heap_alloc_new w o

theorem jump_ret (l : Nat) (J : Act → World → Prop) (Q : Exit → Act → World → Prop) (a : Act) (w : World) : Exit.jump l J Q .ret a w = Q .ret a w := rfl
theorem jump_goto (l : Nat) (J : Act → World → Prop) (Q : Exit → Act → World → Prop) (a : Act) (w : World) : Exit.jump l J Q (.goto l) a w = (l = l ∧ J a w) := rfl

theorem is_quiet {w : World} {rb : Nat} {s : ByteArray} {at_ g z : Nat} (h : Rd w rb s at_ g z) (hs : s.size ≤ 2000) (c : Int) (hc : 0 ≤ c ∧ c < 256) (ha : at_ ≤ s.size) {b : Bool} (hb : ((byt s at_ : Int) == c) = b) (n : Nat) :
    Calls Tryd.prog 19 #[.pointer (some ⟨rb, 0, none⟩), .int .u8 c] (w.drewN n) fun e w' => e = .returned (.bool b) ∧ ∃ m, w' = w.drewN m := by
  have := is_rdI (h.drewN n) hs c hc ha
  rw [hb] at this
  exact this.mono fun e w' ⟨h1, h2⟩ => ⟨h1, n + 1, by rw [← h2, ← World.drewN_drewN]; rfl⟩
theorem pLoop_bound {rec : PS → Option (T × Nat × PS)} {s : ByteArray} {k size : Nat} {p : PS} {cur out : T} {r : T × Nat × PS} (h : pLoop rec s k p size cur out = some r) : p.at_ ≤ s.size ∧ p.z ≤ 2048 ∧ size ≤ 2048 ∧ p.g ≤ 31 := by
  cases k with
  | zero => cases h
  | succ k =>
    unfold pLoop at h
    split at h
    · cases h
    · omega

set_option maxRecDepth 100000 in
set_option maxHeartbeats 8000000 in
theorem branches_step {s : ByteArray} {rb : Nat} {rec : PS → Option (T × Nat × PS)} (hrec : BrOK s rb rec) (ha : Asc s) (hs : s.size ≤ 2000) {w : World} {p0 : PS} {t : T} {sz : Nat} {q : PS} {K0 : Nat} (h : Rd w rb s p0.at_ p0.g p0.z) (hp : pLoop rec s K0 p0 0 .nil .nil = some (t, sz, q)) (hK : K0 ≤ 1000) :
    Calls Tryd.prog 11 #[.pointer (some ⟨rb, 0, none⟩)] w fun e w' => ∃ v, e = .returned (.tuple #[v, .int .i64 sz]) ∧ RepV w' (fun b => w.heap.size ≤ b) v t ∧ After s rb w w' q sz := by
  obtain ⟨i0, hi0, hz0, hz1, hz2⟩ := info_parts infoPart
  obtain ⟨j0, hj0, hy0, hy1, hy2⟩ := info_parts infoParts
  go_enter Tryd.func11, Tryd.ntmps11
  go_wp2_with fail
  refine wp_scope_ghost (rest := ?rest) 0 (BrJ w rb s rec t sz q) ?hf ?first ?pass
  case hf => exact rfl
  case first =>
    intro key
    go_wp2_with fail
    apply wp_label
    go_step
    rename_i HKx
    refine HKx _ _ ?_
    refine key K0 _ _ ?_
    exact ⟨_, 0, _, _, _, _, _, _, _, _, _, _, _, _, _, _, _, _, _, _, _, _, _, _, _, _, _, _, _, _, _, _, _, _, _, _, _, _, _, _, _, _, _, _, _, _, _, _, _, rfl, p0, .nil, [], BrI.start h, hp, by simp [T.len]; omega⟩
  case pass =>
    rintro n a wr ⟨ov, size, u6, u7, u8, u9, u10, u11, u12, u13, u14, u15, u16, u17, u18, u19, u20, u21, u22, u23, u24, u25, u26, u27, u28, u29, u30, u31, u32, u33, u34, u35, u36, u37, u38, u39, u40, u41, u42, u43, u44, u45, u46, u47, u48, u49, u50, u51, u52, rfl, p, out, co, hI, hL, hol⟩
    obtain ⟨oa, on, oc, rfl⟩ := own_form hI.oo
    go_wp2_with fail
    go_loopg [5, 6] n (fun k s5 s6 wx => ∃ (p : PS) (size : Nat) (cur : T) (cl : List Value), s5 = .int .i64 size ∧ BrI w rb s wx p cur out cl co s6 (.slice oa on oc) ∧ pLoop rec s k p size cur out = some (t, sz, q) ∧ cur.len + k ≤ 1000 ∧ k ≤ n)
    case atStart => exact ⟨p, size, .nil, [], rfl, hI, hL, by simp [T.len]; omega, Nat.le_refl _⟩
    case round =>
      obtain ⟨p, size, cur, cl, rfl, hI, hL, hlen, hkn⟩ := hrel
      obtain ⟨la, ln, lc, rfl⟩ := own_form hI.lo
      cases gk with
      | zero => cases hL
      | succ k =>
      unfold pLoop at hL
      split at hL
      · cases hL
      rename_i hchk
      have hc1 : p.at_ ≤ s.size := by omega
      have hc2 : p.z ≤ 2048 := by omega
      have hc3 : size ≤ 2048 := by omega
      have hc4 : p.g ≤ 31 := by omega
      have hlw := hI.gr.size
      obtain ⟨d0, d1, d2, d3⟩ := hI.rd.cells
      have w2 : IntKind.i64.wrap ((p.at_ : Int) + 1) = (p.at_ : Int) + 1 := by rw [IntKind.wrap_i64]; omega
      by_cases hgo : p.at_ < s.size ∧ byt s p.at_ ≠ 124 ∧ byt s p.at_ ≠ 41
      · rw [if_pos hgo] at hL
        split at hL
        · cases hL
        rename_i x psz q1 hP
        obtain ⟨e1, e2, e3, e4⟩ := pLoop_bound hL
        have hlI : (p.at_ : Int) < (s.size : Int) := by omega
        have q124 := is_quiet hI.rd hs 124 (by omega) hc1 (b := false) (by rw [beq_eq_false_iff_ne]; omega)
        have q41 := is_quiet hI.rd hs 41 (by omega) hc1 (b := false) (by rw [beq_eq_false_iff_ne]; omega)
        go_wp2_with fail
        go_quiet (first | (go_at_call_of 19 (Value.int IntKind.u8 124); exact q124 _) | (go_at_call_of 19 (Value.int IntKind.u8 41); exact q41 _))
        go_wp2_with fail
        refine (part_rd hrec (hI.drewN nq).rd ha hs hc2 hc4 hgo.1 hP).mono ?_
        rintro e w2 ⟨a, v, l, m, rfl, rfl, HV, HR2, hg2⟩
        obtain ⟨va, vn, vc, rfl⟩ := HV.form
        have hI2 := Lib.hid (BrI.step (hI.drewN nq) hg2 HR2)
        have hgs := hg2.size
        have hszd : (wr.drewN nq).heap.size = wr.heap.size := rfl
        have hFx : ∀ b, (wr.drewN nq).heap.size ≤ b → brF w.heap.size (.slice la ln lc) (.slice oa on oc) b := fun b hb => by
          rw [hszd] at hb
          exact ⟨by omega, fun e => by have := own_lt hI.lo e; omega, fun e => by have := own_lt hI.oo e; omega⟩
        have w5 : IntKind.i64.wrap ((size : Int) + (psz : Int)) = (size : Int) + (psz : Int) := by rw [IntKind.wrap_i64]; omega
        unfold pV
        go_wp2_with (at_builtin; refine wpList_append_lies _ (by rfl) _ _ _ (by rfl) w.heap.size 76 i0 _ 12 112 Tryd.underlying68 hi0 hz0 hz1 hz2 rfl (by omega) (.slice la ln lc) cur.len cl (by rfl) ((hI2.out.alloc _).alloc _).lo ⟨w2.heap.size + 1, 0, none⟩ 1 1 [.int .i64 a.what, .int .i32 a.r, .bool false, .int .u8 0, .bool false, .slice none 0 0, .bool false, .int .i64 a.gn, .slice va vn vc, .int .i64 l, .int .i64 m, .int .i64 psz] (by rfl) (by rfl) (World.news_of_block (cs := #[.int .i64 a.what, .int .i32 a.r, .bool false, .int .u8 0, .bool false, .slice none 0 0, .bool false, .int .i64 a.gn, .slice va vn vc, .int .i64 l, .int .i64 m, .int .i64 psz]) (t := 76) (fr := (0, 0)) (heap_alloc_new' _ _ _ (by simp))) (by simp [Value.oneCell']) (by omega) (by unfold maxLen; omega) (by omega) (by have := hI2.out.gr.size; simp; omega) (w2.heap.size + 2) (by simp) ?_; intro gg cap w4 hown1 hgrow hat hlt; have hI4 := Lib.hid (BrI.push (c := [.int .i64 a.what, .int .i32 a.r, .bool false, .int .u8 0, .bool false, .slice none 0 0, .bool false, .int .i64 a.gn, .slice va vn vc, .int .i64 l, .int .i64 m, .int .i64 psz]) ((hI2.out.alloc (.cells #[.int .i64 a.what, .int .i32 a.r, .bool false, .int .u8 0, .bool false, .slice none 0 0, .bool false, .int .i64 a.gn, .slice va vn vc, .int .i64 l, .int .i64 m, .int .i64 psz] 76)).alloc (.cells #[.int .i64 a.what, .int .i32 a.r, .bool false, .int .u8 0, .bool false, .slice none 0 0, .bool false, .int .i64 a.gn, .slice va vn vc, .int .i64 l, .int .i64 m, .int .i64 psz] 76)) (Rep.turn (AtmV.part HV l m psz) (S := fun _ => False) (((Turn.refl _ w2).alloc (.cells #[.int .i64 a.what, .int .i32 a.r, .bool false, .int .u8 0, .bool false, .slice none 0 0, .bool false, .int .i64 a.gn, .slice va vn vc, .int .i64 l, .int .i64 m, .int .i64 psz] 76)).alloc (.cells #[.int .i64 a.what, .int .i32 a.r, .bool false, .int .u8 0, .bool false, .slice none 0 0, .bool false, .int .i64 a.gn, .slice va vn vc, .int .i64 l, .int .i64 m, .int .i64 psz] 76)) (fun b hb hF => ⟨hF, id⟩)) (fun b hb hF => hFx b hF) rfl hown1 hgrow (hat.imp id fun e => by simp; omega)); have q11 : w4.cell? ⟨w2.heap.size, 11, none⟩ = some (.int .i64 psz) := (Blk.grown (Blk.alloc (Blk.new w2 76 [.int .i64 a.what, .int .i32 a.r, .bool false, .int .u8 0, .bool false, .slice none 0 0, .bool false, .int .i64 a.gn, .slice va vn vc, .int .i64 l, .int .i64 m, .int .i64 psz]) (.cells #[.int .i64 a.what, .int .i32 a.r, .bool false, .int .u8 0, .bool false, .slice none 0 0, .bool false, .int .i64 a.gn, .slice va vn vc, .int .i64 l, .int .i64 m, .int .i64 psz] 76)) hgrow (fun e => by have := own_lt hI2.out.lo e.symm; omega)).cell (j := 11) rfl; have hlt2 : w2.heap.size < w4.heap.size := (by have := hgrow.size; simp at this; omega); clear hown1 hgrow hat)
        go_roundg k
        case measure => omega
        case rel => exact ⟨q1, size + psz, cur.snoc (a.part l m psz), _, by push_cast; rfl, hI4.out, hL, by rw [T.len_snoc _ _ hI.ll]; omega, by omega⟩
      · rw [if_neg hgo] at hL
        by_cases h124 : byt s p.at_ = 124
        · rw [if_pos h124] at hL
          have hlt := byt_le h124 (by omega)
          have hlI : (p.at_ : Int) < (s.size : Int) := by omega
          have b124 : ((byt s p.at_ : Int) == 124) = true := by rw [h124]; rfl
          have q124 := is_quiet hI.rd hs 124 (by omega) hc1 (b := true) b124
          go_wp2_with fail
          go_quiet (exact q124 _)
          go_wp2_with (first | (at_builtin; refine wpList_append_lies _ (by rfl) _ _ _ (by rfl) w.heap.size 68 j0 _ 1 24 Tryd.underlying50 hj0 hy0 hy1 hy2 rfl (by omega) (.slice oa on oc) out.len co (by rfl) ((hI.drewN nq).alloc _).oo ⟨wr.heap.size, 0, none⟩ 1 1 [.slice la ln lc] (by rfl) (by rfl) (World.news_of_block (cs := #[.slice la ln lc]) (t := 68) (fr := (0, 0)) (heap_alloc_new' _ _ _ (by simp))) (by simp [Value.oneCell']) (by omega) (by unfold maxLen; omega) (by omega) (by have := hI.gr.size; simp; omega) (wr.heap.size + 1) (by simp) ?_; intro gg cap w4 hown1 hgrow hat hlt; have hI4 := Lib.hid (BrI.shut ((hI.drewN nq).alloc (.cells #[.slice la ln lc] 68)) hown1 hgrow (hat.imp id fun e => by simp; omega)); obtain ⟨k0, k1, k2, k3⟩ := hI4.out.rd.cells; have kf := Blk.frozen hI4.out.rd 1; clear hown1 hgrow hat) | (go_at_call 19; have hq := is_rdI hI4.out.rd hs 124 (by omega) (by omega); rw [b124] at hq; refine hq.mono ?_; rintro e wx ⟨rfl, rfl⟩))
          refine wp_goto ?_
          refine ⟨rfl, k, by omega, ?_⟩
          exact ⟨_, size, _, _, _, _, _, _, _, _, _, _, _, _, _, _, _, _, _, _, _, _, _, _, _, _, _, _, _, _, _, _, _, _, _, _, _, _, _, _, _, _, _, _, _, _, _, _, _, rfl, ⟨p.at_ + 1, p.g, p.z⟩, _, _, (BrI.step (q := ⟨p.at_ + 1, p.g, p.z⟩) hI4.out.drew (grown_setCell _ ⟨rb, 1, none⟩ _) (Rd.putI hI4.out.drew.rd _ (v := p.at_ + 1) (by omega))), hL, by rw [T.len_snoc _ _ hI.ol]; omega⟩
        · rw [if_neg h124] at hL
          simp only [Option.some.injEq, Prod.mk.injEq] at hL
          obtain ⟨rfl, rfl, rfl⟩ := hL
          have b124 : ((byt s p.at_ : Int) == 124) = false := by rw [beq_eq_false_iff_ne]; omega
          by_cases hlt : p.at_ < s.size
          · have hlI : (p.at_ : Int) < (s.size : Int) := by omega
            have q124 := is_quiet hI.rd hs 124 (by omega) hc1 (b := false) b124
            have q41 := is_quiet hI.rd hs 41 (by omega) hc1 (b := true) (by rw [show byt s p.at_ = 41 from by omega]; rfl)
            go_wp2_with fail
            go_quiet (first | (go_at_call_of 19 (Value.int IntKind.u8 124); exact q124 _) | (go_at_call_of 19 (Value.int IntKind.u8 41); exact q41 _))
            go_wp2_with (first | (at_builtin; refine wpList_append_lies _ (by rfl) _ _ _ (by rfl) w.heap.size 68 j0 _ 1 24 Tryd.underlying50 hj0 hy0 hy1 hy2 rfl (by omega) (.slice oa on oc) out.len co (by rfl) ((hI.drewN nq).alloc _).oo ⟨wr.heap.size, 0, none⟩ 1 1 [.slice la ln lc] (by rfl) (by rfl) (World.news_of_block (cs := #[.slice la ln lc]) (t := 68) (fr := (0, 0)) (heap_alloc_new' _ _ _ (by simp))) (by simp [Value.oneCell']) (by omega) (by unfold maxLen; omega) (by omega) (by have := hI.gr.size; simp; omega) (wr.heap.size + 1) (by simp) ?_; intro gg cap w4 hown1 hgrow hat hlt; have hI4 := Lib.hid (BrI.shut ((hI.drewN nq).alloc (.cells #[.slice la ln lc] 68)) hown1 hgrow (hat.imp id fun e => by simp; omega)); obtain ⟨k0, k1, k2, k3⟩ := hI4.out.rd.cells; have kf := Blk.frozen hI4.out.rd 1; clear hown1 hgrow hat) | (go_at_call 19; have hq := is_rdI hI4.out.rd hs 124 (by omega) (by omega); rw [b124] at hq; refine hq.mono ?_; rintro e wx ⟨rfl, rfl⟩))
            rw [jump_ret]
            refine bodyPost_ret_by (v := .tuple #[.slice (some ⟨gg, 0, none⟩) (out.len + 1) cap, .int .i64 size]) ?_ rfl ⟨_, rfl, hI4.out.drew.repV, ⟨hI4.out.drew.rd, hI4.out.drew.gr, by omega, by omega, by omega, by omega⟩⟩
            simp only [results, show Tryd.f11.results = #[.tmp 2, .tmp 3] from rfl] <;> go_simp

          · have hlI : ¬ (p.at_ : Int) < (s.size : Int) := by omega
            go_wp2_with fail
            go_quiet (fail)
            go_wp2_with (first | (at_builtin; refine wpList_append_lies _ (by rfl) _ _ _ (by rfl) w.heap.size 68 j0 _ 1 24 Tryd.underlying50 hj0 hy0 hy1 hy2 rfl (by omega) (.slice oa on oc) out.len co (by rfl) ((hI.drewN nq).alloc _).oo ⟨wr.heap.size, 0, none⟩ 1 1 [.slice la ln lc] (by rfl) (by rfl) (World.news_of_block (cs := #[.slice la ln lc]) (t := 68) (fr := (0, 0)) (heap_alloc_new' _ _ _ (by simp))) (by simp [Value.oneCell']) (by omega) (by unfold maxLen; omega) (by omega) (by have := hI.gr.size; simp; omega) (wr.heap.size + 1) (by simp) ?_; intro gg cap w4 hown1 hgrow hat hlt; have hI4 := Lib.hid (BrI.shut ((hI.drewN nq).alloc (.cells #[.slice la ln lc] 68)) hown1 hgrow (hat.imp id fun e => by simp; omega)); obtain ⟨k0, k1, k2, k3⟩ := hI4.out.rd.cells; have kf := Blk.frozen hI4.out.rd 1; clear hown1 hgrow hat) | (go_at_call 19; have hq := is_rdI hI4.out.rd hs 124 (by omega) (by omega); rw [b124] at hq; refine hq.mono ?_; rintro e wx ⟨rfl, rfl⟩))
            rw [jump_ret]
            refine bodyPost_ret_by (v := .tuple #[.slice (some ⟨gg, 0, none⟩) (out.len + 1) cap, .int .i64 size]) ?_ rfl ⟨_, rfl, hI4.out.drew.repV, ⟨hI4.out.drew.rd, hI4.out.drew.gr, by omega, by omega, by omega, by omega⟩⟩
            simp only [results, show Tryd.f11.results = #[.tmp 2, .tmp 3] from rfl] <;> go_simp


theorem brOK {s : ByteArray} {rb : Nat} (ha : Asc s) (hs : s.size ≤ 2000) : ∀ d, BrOK s rb (pB s d)
  | 0 => fun _ _ _ _ _ _ _ _ _ h => by cases h
  | d + 1 => fun _ _ _ _ _ hr _ _ _ h => branches_step (brOK ha hs d) ha hs hr h (by omega)

end Go.Proofs.YtlanodchnjojoaaDoor
