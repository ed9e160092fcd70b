/- The pattern's method add. -/
import Derived.Test.YtlanodchnjojoaaDoorLi
import Derived.Test.YtlanodchnjojoaaDoorCl
namespace Go.Proofs.YtlanodchnjojoaaDoor
open Go.RowKit

theorem add_addr (g j : Nat) : (⟨g, 0, none⟩ : Addr).add j = ⟨g, j, none⟩ := by
  cases j with
  | zero => rfl
  | succ j => simp [Addr.add]
theorem natVals_at {l : List Nat} {j x : Nat} (h : l[j]? = some x) : (natVals l)[j]? = some (.int .i64 (x : Int)) := by simp [natVals, h]

theorem clone_ins {w : World} {B : Nat} {iv : Value} {ins : List Nat} (h : w.ownsRow B 3 1 iv ins.length (natVals ins)) (hn : ins.length ≤ 100000) :
    Calls Tryd.prog 32 #[iv] w fun e w' => ∃ lv, e = .returned lv ∧ LoopsAt w' (fun b => w.heap.size ≤ b) lv ins ∧ Below w.heap.size w w' := by
  have hc := @World.ownsRow.cells _ _ _ _ _ _ _ h
  rcases h.2 with ⟨rfl, h2⟩ | ⟨g, cap, cur, rfl, h2, h3, h4, h5, h6, h7⟩
  · refine (clone_int_nil 0 0 w).mono ?_
    rintro e w' ⟨rfl, rfl⟩
    exact ⟨_, rfl, ⟨none, 0, by rw [h2], .inl (List.eq_nil_of_length_eq_zero h2)⟩, Below.refl _ _⟩
  · refine (clone_int g 0 ins.length cap (natVals ins) w (by simp [natVals]) hn (fun j u hj => by have := hc rfl j u hj; rw [add_addr] at this; simpa using this) (by intro u hu; simp only [natVals, List.mem_map] at hu; obtain ⟨x, _, rfl⟩ := hu; rfl)).mono ?_
    rintro e w' ⟨v', rfl, hown, hne, hb⟩
    have hc' := @World.ownsRow.cells _ _ _ _ _ _ _ hown
    refine ⟨v', rfl, ?_, hb⟩
    rcases hown.2 with ⟨rfl, h8⟩ | ⟨g', cap', cur', rfl, h9, h10, _⟩
    · exact (hne rfl).elim
    · exact ⟨_, cap', rfl, .inr ⟨g', rfl, h9, get_lt h10, fun j l hj => by have := hc' rfl j _ (natVals_at hj); rw [add_addr] at this; exact this⟩⟩

theorem infoStep : (Tryd.prog.info? 82).map (fun i => (i.zero, i.size, i.bytes)) = some (some (.agg #[.int .i64 0, .int .i64 0, .int .i32 0, .bool false, .int .u8 0, .bool false, .slice none 0 0, .bool false, .int .i64 0, .slice none 0 0, .int .i64 0, .int .i64 0, .int .i64 0, .slice none 0 0, .int .i64 0]), 15, 152) := by kernel_rfl

def stV (do_ what : Nat) (r : Int) (grp a : Nat) : Value := .agg #[.int .i64 do_, .int .i64 what, .int .i32 r, .bool false, .int .u8 0, .bool false, .slice none 0 0, .bool false, .int .i64 0, .slice none 0 0, .int .i64 grp, .int .i64 a, .int .i64 0, .slice none 0 0, .int .i64 0]

set_option maxRecDepth 100000 in
set_option maxHeartbeats 4000000 in
theorem add_lay {w0 w : World} {pb : Nat} {bv : Value} {ng z : Nat} {K : List (Nat × Obj)} {G : Gs} {cv iv : Value} {ls : List Value} (h : LI w0 w pb bv ng z K G cv iv ls) (hsm : G.code.length ≤ 50000) (do_ what : Nat) (r : Int) (grp a : Nat) :
    Calls Tryd.prog 23 #[.pointer (some ⟨pb, 0, none⟩), stV do_ what r grp a] w fun e w' => e = .returned (.int .i64 G.code.length) ∧ ∃ g cap ls', LI w0 w' pb bv ng z K (G.add do_ what r grp a) (.slice (some ⟨g, 0, none⟩) (G.code.length + 1) cap) iv ls' := by
  obtain ⟨i0, hi0, hz0, hz1, hz2⟩ := info_parts infoStep
  have hmx : Tryd.prog.follows .mixedOrders = true := by kernel_rfl
  have hpb := h.pbw
  obtain ⟨ca, cn, cc, rfl⟩ := own_form h.co
  have hb2 := h.b2
  have p3 := h.pat.cell (j := 3) (v := .slice ca cn cc) rfl
  have p5 := h.pat.cell (j := 5) (v := iv) rfl
  have hci := clone_ins (h.alloc (.cells #[.int .i64 do_, .int .i64 what, .int .i32 r, .bool false, .int .u8 0, .bool false, .slice none 0 0, .bool false, .int .i64 0, .slice none 0 0, .int .i64 grp, .int .i64 a, .int .i64 0, .slice none 0 0, .int .i64 0] 82)).io (by omega)
  have H := Lib.hid h
  unfold stV
  go_enter Tryd.func23, Tryd.ntmps23
  go_wp2_with fail
  refine hci.mono ?_
  rintro e w1 ⟨lv, rfl, ⟨la, lcap, rfl, hlo⟩, hb1⟩
  have X0 : Blk w1 w.heap.size 82 [.int .i64 do_, .int .i64 what, .int .i32 r, .bool false, .int .u8 0, .bool false, .slice none 0 0, .bool false, .int .i64 0, .slice none 0 0, .int .i64 grp, .int .i64 a, .int .i64 0, .slice none 0 0, .int .i64 0] := below_keeps' hb1 (Blk.new w 82 [.int .i64 do_, .int .i64 what, .int .i32 r, .bool false, .int .u8 0, .bool false, .slice none 0 0, .bool false, .int .i64 0, .slice none 0 0, .int .i64 grp, .int .i64 a, .int .i64 0, .slice none 0 0, .int .i64 0])
  have x13 := X0.cell (j := 13) rfl
  have y13 := X0.frozen 13
  have hsz1 := hb1.size
  rw [World.size_alloc] at hsz1
  have Hb := Lib.hid hb1
  have Hl := Lib.hid hlo
  have HX := Lib.hid X0
  clear hb1 hlo X0 hci
  have hgw : w.grownBy (w1.setCell ⟨w.heap.size, 13, none⟩ (.slice la G.ins.length lcap)) none :=
    ⟨Hb.out.os, Hb.out.tape, Hb.out.output, by rw [size_set]; omega, fun k hk _ => (Below.heap_setCell w1 _ _ k (by show k ≠ w.heap.size; omega)).trans ((Hb.out.block k (by rw [World.size_alloc]; omega)).trans (Below.heap_alloc w _ k hk))⟩
  have H1 := Lib.hid (H.out.keep hgw)
  have HL1 : LoopsAt (w1.setCell ⟨w.heap.size, 13, none⟩ (.slice la G.ins.length lcap)) (brK w0.heap.size (.slice ca cn cc) iv K) (.slice la G.ins.length lcap) G.ins := by
    refine ⟨la, lcap, rfl, ?_⟩
    rcases Hl.out with h2 | ⟨lb, h2, h3, h4, h5⟩
    · exact .inl h2
    · rw [World.size_alloc] at h3
      have := H.out.turn.size
      refine .inr ⟨lb, h2, ⟨⟨by omega, fun e => by have := H.out.co.lt _ e; omega, fun e => by have := H.out.io.lt _ e; omega⟩, fun o ho => by have := get_lt (H.out.kp _ _ ho).1; omega⟩, by rw [size_set]; exact h4, fun j l hj => ?_⟩
      have := h5 j l hj
      simp only [World.cell?, Below.heap_setCell w1 ⟨w.heap.size, 13, none⟩ (.slice la G.ins.length lcap) lb (by show lb ≠ w.heap.size; omega)] at this ⊢
      exact this
  have HL := Lib.hid HL1
  have X1 := HX.out.set 13 (.slice la G.ins.length lcap)
  have l0 : w.heap.size < (w1.setCell ⟨w.heap.size, 13, none⟩ (.slice la G.ins.length lcap)).heap.size := by rw [size_set]; omega
  have hszW : (w1.setCell ⟨w.heap.size, 13, none⟩ (.slice la G.ins.length lcap)).heap.size = w1.heap.size := size_set _ _ _
  clear hgw HL1
  go_wp2_with fail
  generalize w1.setCell ⟨w.heap.size, 13, none⟩ (.slice la G.ins.length lcap) = W1 at *
  have x0 := X1.cell (j := 0) rfl
  have x1 := X1.cell (j := 1) rfl
  have x2 := X1.cell (j := 2) rfl
  have x3 := X1.cell (j := 3) rfl
  have x4 := X1.cell (j := 4) rfl
  have x5 := X1.cell (j := 5) rfl
  have x6 := X1.cell (j := 6) rfl
  have x7 := X1.cell (j := 7) rfl
  have x8 := X1.cell (j := 8) rfl
  have x9 := X1.cell (j := 9) rfl
  have x10 := X1.cell (j := 10) rfl
  have x11 := X1.cell (j := 11) rfl
  have x12 := X1.cell (j := 12) rfl
  have x13 := X1.cell (j := 13) rfl
  have x14 := X1.cell (j := 14) rfl
  have p3' := H1.out.pat.cell (j := 3) (v := .slice ca cn cc) rfl
  have q3' := H1.out.pat.frozen 3
  have hpb1 := H1.out.pbw
  have c3o : ∀ o, (W1.alloc o).cell? ⟨pb, 3, none⟩ = some (.slice ca cn cc) := fun o => (H1.out.alloc o).pat.cell (j := 3) rfl
  clear hszW hsz1 X1 y13 p3 p5
  refine wp_region_app [0, 1, 2, 3] 4 [5] 6 7 [8, 9, 10] hmx (by kernel_rfl) (by intro c a d v w h; cases d <;> exact h) ?_
  simp only [pickL, List.drop_succ_cons, List.drop_zero]
  refine ⟨.pointer (some ⟨pb, 0, none⟩), .inl ⟨rfl, fun w => rfl⟩, .pointer (some ⟨pb, 0, none⟩), .inl ⟨rfl, fun w => rfl⟩, .pointer (some ⟨pb, 0, none⟩), .inl ⟨rfl, fun w => rfl⟩, .pointer (some ⟨pb, 3, none⟩), .inl ⟨rfl, fun w => by go_simp⟩,
    _, .slice ca cn cc, rfl, ⟨rfl, by go_simp, fun o => by go_simp⟩, ?_⟩
  repeat still_step
  refine wpStill_nil ?_
  have hsz2 := H1.out.turn.size
  go_wp2_with (at_builtin; refine wpList_append_lies _ (by rfl) _ _ _ (by rfl) w0.heap.size 82 i0 _ 15 152 Tryd.underlying53 hi0 hz0 hz1 hz2 rfl (by omega) (.slice ca cn cc) G.code.length (cCells G.code ls) (by rfl) ((H1.out.alloc _).drew).co ⟨W1.heap.size, 0, none⟩ 1 1 [.int .i64 do_, .int .i64 what, .int .i32 r, .bool false, .int .u8 0, .bool false, .slice none 0 0, .bool false, .int .i64 0, .slice none 0 0, .int .i64 grp, .int .i64 a, .int .i64 0, .slice la G.ins.length lcap, .int .i64 0] (by rfl) (by rfl) (World.news_of_block (cs := #[.int .i64 do_, .int .i64 what, .int .i32 r, .bool false, .int .u8 0, .bool false, .slice none 0 0, .bool false, .int .i64 0, .slice none 0 0, .int .i64 grp, .int .i64 a, .int .i64 0, .slice la G.ins.length lcap, .int .i64 0]) (t := 82) (fr := (0, 0)) (heap_alloc_new W1 _)) (by simp [Value.oneCell']) (by omega) (by unfold maxLen; omega) (by omega) (by simp; omega) (W1.heap.size + 1) (by simp) ?_; intro gg cap w4 hown1 hgrow hat hlt; have HA := Lib.hid (LI.append ((H1.out.alloc (.cells #[.int .i64 do_, .int .i64 what, .int .i32 r, .bool false, .int .u8 0, .bool false, .slice none 0 0, .bool false, .int .i64 0, .slice none 0 0, .int .i64 grp, .int .i64 a, .int .i64 0, .slice la G.ins.length lcap, .int .i64 0] 82)).drew) (LoopsAt.keep (F' := brK w0.heap.size (.slice ca cn cc) iv K) HL.out (fun _ _ h => h) (by simp) (fun b hb _ => Below.heap_alloc W1 _ b hb)) hown1 hgrow (hat.imp id fun e => by simp; omega)); have q3 : w4.cell? ⟨pb, 3, none⟩ = some (.slice ca cn cc) := (Blk.grown ((H1.out.alloc (.cells #[.int .i64 do_, .int .i64 what, .int .i32 r, .bool false, .int .u8 0, .bool false, .slice none 0 0, .bool false, .int .i64 0, .slice none 0 0, .int .i64 grp, .int .i64 a, .int .i64 0, .slice la G.ins.length lcap, .int .i64 0] 82)).drew).pat hgrow (fun e => by have := H1.out.co.lt _ e.symm; have := H1.out.pblt; omega)).cell (j := 3) rfl; have f3 := (Blk.grown ((H1.out.alloc (.cells #[.int .i64 do_, .int .i64 what, .int .i32 r, .bool false, .int .u8 0, .bool false, .slice none 0 0, .bool false, .int .i64 0, .slice none 0 0, .int .i64 grp, .int .i64 a, .int .i64 0, .slice la G.ins.length lcap, .int .i64 0] 82)).drew).pat hgrow (fun e => by have := H1.out.co.lt _ e.symm; have := H1.out.pblt; omega)).frozen 3; clear hown1 hgrow hat)
  go_ret
  exact ⟨rfl, gg, cap, _, HA.out⟩

end Go.Proofs.YtlanodchnjojoaaDoor
