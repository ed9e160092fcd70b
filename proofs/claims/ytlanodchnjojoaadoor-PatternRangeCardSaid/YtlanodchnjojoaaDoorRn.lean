/- The reader's methods now and skip. -/
import Derived.Test.YtlanodchnjojoaaDoorRd
import Derived.Test.YtlanodchnjojoaaDoorMix3
namespace Go.Proofs.YtlanodchnjojoaaDoor
open Go.RowKit

theorem wpPure_nil {P : Program} {ops : Array Oper} {K : Act → Prop} {a : Act} (h : K a) : wpPure P ops K [] a := h

set_option maxRecDepth 100000 in
set_option maxHeartbeats 2000000 in
theorem now_rd {w : World} {rb : Nat} {s : ByteArray} {at_ g z : Nat} (h : Rd w rb s at_ g z) (ha : Asc s) (hs : s.size ≤ 2000) (hi : at_ < s.size) :
    Calls Tryd.prog 41 #[.pointer (some ⟨rb, 0, none⟩)] w fun e w' => e = .returned (.tuple #[.agg #[.int .i32 (byt s at_), .bool false, .int .u8 0], .bool true]) ∧ Below w.heap.size w w' := by
  have hk : ∀ o, Rd ((w.alloc o).drew) rb s at_ g z := fun o => (Blk.alloc h o).drew
  have hk2 : ∀ o o2, Rd (((w.alloc o).alloc o2).drew) rb s at_ g z := fun o o2 => ((Blk.alloc h o).alloc o2).drew
  have c0 := fun o => (hk o).cells.1
  have c1 := fun o => (hk o).cells.2.1
  have d0 := fun o o2 => (hk2 o o2).cells.1
  have d1 := fun o o2 => (hk2 o o2).cells.2.1
  have hlt := Blk.lt h
  have hmx : Tryd.prog.follows .mixedOrders = true := by kernel_rfl
  go_enter Tryd.func41, Tryd.ntmps41
  go_wp2_with fail
  refine wp_region_calloc [0, 1, 2, 3, 4, 5, 6, 7] 8 12 [9, 10, 11] [13, 14] hmx (by kernel_rfl) (by intro c a d v w h; cases d <;> exact h) ?_
  simp only [pickL, List.drop_succ_cons, List.drop_zero]
  refine ⟨.pointer (some ⟨rb, 0, none⟩), ⟨rfl, by go_simp, fun b => by go_simp⟩, .pointer (some ⟨rb, 0, none⟩), ⟨rfl, by go_simp, fun b => by go_simp⟩, .pointer (some ⟨rb, 0, none⟩), ⟨rfl, by go_simp, fun b => by go_simp⟩, .string s, ⟨rfl, by go_simp, fun b => by go_simp⟩,
    .pointer (some ⟨rb, 0, none⟩), ⟨rfl, by go_simp, fun b => by go_simp⟩, .pointer (some ⟨rb, 0, none⟩), ⟨rfl, by go_simp, fun b => by go_simp⟩, .pointer (some ⟨rb, 1, none⟩), ⟨rfl, by go_simp, fun b => by go_simp⟩, .int .i64 at_, ⟨rfl, by go_simp, fun b => by go_simp⟩, ?_⟩
  refine ⟨?_, ?_⟩
  · go_wp2_with fail
    refine (at_rd s ha hs at_ hi _).mono ?_
    rintro e w1 ⟨rfl, hb⟩
    have hP := below_keeps' hb (Blk.new (w.alloc (.cells #[.int .i32 0, .bool false, .int .u8 0] 71)) 85 [.int .i64 0, .int .i64 0, .int .i32 0, .bool false]).drew
    rw [World.size_alloc] at hP
    have p0 := hP.cell (j := 0) rfl
    have p1 := hP.cell (j := 1) rfl
    have p2 := hP.cell (j := 2) rfl
    have p3 := hP.cell (j := 3) rfl
    have e0 := hP.frozen 0
    have e1 := hP.frozen 1
    have e2 := hP.frozen 2
    have e3 := hP.frozen 3
    have HB := Lib.hid (((((Below.refl w.heap.size w).alloc (Nat.le_refl _) _).alloc (by simp) _).drew).trans (hb.mono (by simp; omega)) : Below w.heap.size w w1)
    have HO := Lib.hid (below_keeps' hb ((Blk.new w 71 [.int .i32 0, .bool false, .int .u8 0]).alloc _).drew)
    have q0 := HO.out.cell (j := 0) rfl
    have q1 := HO.out.cell (j := 1) rfl
    have q2 := HO.out.cell (j := 2) rfl
    have r0 := HO.out.frozen 0
    have r1 := HO.out.frozen 1
    have r2 := HO.out.frozen 2
    have hlt1 := HO.out.lt
    clear hb hP
    go_wp2_with fail
    refine ⟨.tuple #[.agg #[.int .i64 at_, .int .i64 1, .int .i32 (byt s at_), .bool false], .int .i64 0], .inl ⟨rfl, fun w => by go_simp⟩, .agg #[.int .i64 at_, .int .i64 1, .int .i32 (byt s at_), .bool false], .inl ⟨rfl, fun w => by go_simp⟩, .int .i64 0, .inl ⟨rfl, fun w => by go_simp⟩, ?_⟩
    refine wpPure_nil ?_
    go_wp2
    refine bodyPost_ret_by (v := .tuple #[.agg #[.int .i32 (byt s at_), .bool false, .int .u8 0], .bool true]) ?_ rfl ⟨rfl, (((((((HB.out.setCell (p := ⟨w.heap.size + 1, 0, none⟩) (show w.heap.size ≤ w.heap.size + 1 by omega) (.int .i64 at_)).setCell (p := ⟨w.heap.size + 1, 1, none⟩) (show w.heap.size ≤ w.heap.size + 1 by omega) (.int .i64 1)).setCell (p := ⟨w.heap.size + 1, 2, none⟩) (show w.heap.size ≤ w.heap.size + 1 by omega) (.int .i32 (byt s at_))).setCell (p := ⟨w.heap.size + 1, 3, none⟩) (show w.heap.size ≤ w.heap.size + 1 by omega) (.bool false)).setCell (p := ⟨w.heap.size, 0, none⟩) (Nat.le_refl _) (.int .i32 (byt s at_))).setCell (p := ⟨w.heap.size, 1, none⟩) (Nat.le_refl _) (.bool false)).setCell (p := ⟨w.heap.size, 2, none⟩) (Nat.le_refl _) (.int .u8 0))⟩
    simp only [results, show Tryd.f41.results = #[.cell 2 71, .tmp 3] from rfl] <;> go_simp
  · go_wp2_with fail
    refine (at_rd s ha hs at_ hi _).mono ?_
    rintro e w1 ⟨rfl, hb⟩
    have HB := Lib.hid ((((Below.refl w.heap.size w).alloc (Nat.le_refl _) _).drew).trans (hb.mono (by simp)) : Below w.heap.size w w1)
    have HO := Lib.hid (below_keeps' hb (Blk.new w 71 [.int .i32 0, .bool false, .int .u8 0]).drew)
    have q0 := HO.out.cell (j := 0) rfl
    have q1 := HO.out.cell (j := 1) rfl
    have q2 := HO.out.cell (j := 2) rfl
    have r0 := HO.out.frozen 0
    have r1 := HO.out.frozen 1
    have r2 := HO.out.frozen 2
    have hlt1 := HO.out.lt
    clear hb
    go_wp2_with fail
    refine ⟨.tuple #[.agg #[.int .i64 at_, .int .i64 1, .int .i32 (byt s at_), .bool false], .int .i64 0], .inl ⟨rfl, fun w => by go_simp⟩, .agg #[.int .i64 at_, .int .i64 1, .int .i32 (byt s at_), .bool false], .inl ⟨rfl, fun w => by go_simp⟩, .int .i64 0, .inl ⟨rfl, fun w => by go_simp⟩, ?_⟩
    refine wpPure_nil ?_
    go_wp2
    refine bodyPost_ret_by (v := .tuple #[.agg #[.int .i32 (byt s at_), .bool false, .int .u8 0], .bool true]) ?_ rfl ⟨rfl, ((((HB.out.setCell (p := ⟨w.heap.size, 0, none⟩) (Nat.le_refl _) (.int .i32 (byt s at_))).setCell (p := ⟨w.heap.size, 1, none⟩) (Nat.le_refl _) (.bool false)).setCell (p := ⟨w.heap.size, 2, none⟩) (Nat.le_refl _) (.int .u8 0)).alloc (by have := HB.out.size; simp [World.setCell]; omega) (.cells #[.int .i64 at_, .int .i64 1, .int .i32 (byt s at_), .bool false] 85))⟩
    simp only [results, show Tryd.f41.results = #[.cell 2 71, .tmp 3] from rfl] <;> go_simp

set_option maxRecDepth 100000 in
set_option maxHeartbeats 2000000 in
theorem skip_rd {w : World} {rb : Nat} {s : ByteArray} {at_ g z : Nat} (h : Rd w rb s at_ g z) (ha : Asc s) (hs : s.size ≤ 2000) (hi : at_ < s.size) :
    Calls Tryd.prog 46 #[.pointer (some ⟨rb, 0, none⟩)] w fun e w' => e = .returned (.tuple #[]) ∧ Rd w' rb s (at_ + 1) g z ∧ w.grownBy w' (some rb) := by
  have hk : Rd w.drew rb s at_ g z := Blk.drew h
  have hk2 : ∀ o2, Rd ((w.alloc o2).drew) rb s at_ g z := fun o2 => (Blk.alloc h o2).drew
  have c0 := hk.cells.1
  have c1 := hk.cells.2.1
  have d0 := fun o2 => (hk2 o2).cells.1
  have d1 := fun o2 => (hk2 o2).cells.2.1
  have hlt := Blk.lt h
  have hne : rb ≠ w.heap.size := by omega
  have hmx : Tryd.prog.follows .mixedOrders = true := by kernel_rfl
  have hw1 : IntKind.i64.wrap ((at_ : Int) + 1) = (at_ : Int) + 1 := by rw [IntKind.wrap_i64]; omega
  go_enter Tryd.func46, Tryd.ntmps46
  go_wp2_with fail
  refine wp_region_calloc [0, 1, 2, 3, 4, 5, 6, 7] 8 12 [9, 10, 11] [13, 14] hmx (by kernel_rfl) (by intro c a d v w h; cases d <;> exact h) ?_
  simp only [pickL, List.drop_succ_cons, List.drop_zero]
  refine ⟨.pointer (some ⟨rb, 0, none⟩), ⟨rfl, by go_simp, fun b => by go_simp⟩, .pointer (some ⟨rb, 0, none⟩), ⟨rfl, by go_simp, fun b => by go_simp⟩, .pointer (some ⟨rb, 0, none⟩), ⟨rfl, by go_simp, fun b => by go_simp⟩, .string s, ⟨rfl, by go_simp, fun b => by go_simp⟩,
    .pointer (some ⟨rb, 0, none⟩), ⟨rfl, by go_simp, fun b => by go_simp⟩, .pointer (some ⟨rb, 0, none⟩), ⟨rfl, by go_simp, fun b => by go_simp⟩, .pointer (some ⟨rb, 1, none⟩), ⟨rfl, by go_simp, fun b => by go_simp⟩, .int .i64 at_, ⟨rfl, by go_simp, fun b => by go_simp⟩, ?_⟩
  refine ⟨?_, ?_⟩
  · go_wp2_with fail
    refine (at_rd s ha hs at_ hi _).mono ?_
    rintro e w1 ⟨rfl, hb⟩
    have hP := below_keeps' hb (Blk.new w 85 [.int .i64 0, .int .i64 0, .int .i32 0, .bool false]).drew
    have p0 := hP.cell (j := 0) rfl
    have p1 := hP.cell (j := 1) rfl
    have p2 := hP.cell (j := 2) rfl
    have p3 := hP.cell (j := 3) rfl
    have e0 := hP.frozen 0
    have e1 := hP.frozen 1
    have e2 := hP.frozen 2
    have e3 := hP.frozen 3
    have hR : Rd w1 rb s at_ g z := Blk.keep (hk2 (.cells #[.int .i64 0, .int .i64 0, .int .i32 0, .bool false] 85)) (hb.block rb (by simp; omega))
    have k0 := hR.cells.1
    have k1 := hR.cells.2.1
    have kf := Blk.frozen hR 1
    have HR := Lib.hid hR
    have HP := Lib.hid hP
    have HW := Lib.hid ((((Below.refl w.heap.size w).alloc (Nat.le_refl _) _).drew).trans (hb.mono (by simp)) : Below w.heap.size w w1)
    clear hb hP hR
    go_wp2_with fail
    refine ⟨.tuple #[.agg #[.int .i64 at_, .int .i64 1, .int .i32 (byt s at_), .bool false], .int .i64 0], .inl ⟨rfl, fun w => by go_simp⟩, .agg #[.int .i64 at_, .int .i64 1, .int .i32 (byt s at_), .bool false], .inl ⟨rfl, fun w => by go_simp⟩, .int .i64 0, .inl ⟨rfl, fun w => by go_simp⟩, ?_⟩
    refine wpPure_nil ?_
    go_wp2_with fail
    have hR2 : Rd ((((w1.setCell ⟨w.heap.size, 0, none⟩ (.int .i64 at_)).setCell ⟨w.heap.size, 1, none⟩ (.int .i64 1)).setCell ⟨w.heap.size, 2, none⟩ (.int .i32 (byt s at_))).setCell ⟨w.heap.size, 3, none⟩ (.bool false)) rb s at_ g z := (Blk.set_other (Blk.set_other (Blk.set_other (Blk.set_other HR.out (p := ⟨w.heap.size, 0, none⟩) hne (.int .i64 at_)) (p := ⟨w.heap.size, 1, none⟩) hne (.int .i64 1)) (p := ⟨w.heap.size, 2, none⟩) hne (.int .i32 (byt s at_))) (p := ⟨w.heap.size, 3, none⟩) hne (.bool false))
    have hP2 := ((((HP.out.set 0 (.int .i64 at_)).set 1 (.int .i64 1)).set 2 (.int .i32 (byt s at_))).set 3 (.bool false))
    have hW2 : Below w.heap.size w ((((w1.setCell ⟨w.heap.size, 0, none⟩ (.int .i64 at_)).setCell ⟨w.heap.size, 1, none⟩ (.int .i64 1)).setCell ⟨w.heap.size, 2, none⟩ (.int .i32 (byt s at_))).setCell ⟨w.heap.size, 3, none⟩ (.bool false)) := ((((HW.out.setCell (p := ⟨w.heap.size, 0, none⟩) (Nat.le_refl _) (.int .i64 at_)).setCell (p := ⟨w.heap.size, 1, none⟩) (Nat.le_refl _) (.int .i64 1)).setCell (p := ⟨w.heap.size, 2, none⟩) (Nat.le_refl _) (.int .i32 (byt s at_))).setCell (p := ⟨w.heap.size, 3, none⟩) (Nat.le_refl _) (.bool false))
    clear p0 p1 p2 p3 e0 e1 e2 e3 k0 k1 kf
    have k0 := hR2.cells.1
    have k1 := hR2.cells.2.1
    have kf := Blk.frozen hR2 1
    have x1 := hP2.cell (j := 1) (v := .int .i64 1) rfl
    have HR2 := Lib.hid hR2
    have HW2 := Lib.hid hW2
    clear hR2 hP2 hW2
    generalize ((((w1.setCell ⟨w.heap.size, 0, none⟩ (.int .i64 at_)).setCell ⟨w.heap.size, 1, none⟩ (.int .i64 1)).setCell ⟨w.heap.size, 2, none⟩ (.int .i32 (byt s at_))).setCell ⟨w.heap.size, 3, none⟩ (.bool false)) = W2 at *
    refine wp_region_still_tail 9 hmx (by kernel_rfl) ?_
    simp only [List.take_succ_cons, List.take_zero, List.drop_succ_cons, List.drop_zero]
    repeat still_step
    refine wpStill_nil ?_
    go_wp2
    go_end0
    exact ⟨rfl, Rd.put (w := W2.drew) HR2.out (at_ + 1), (⟨HW2.out.os, HW2.out.tape, HW2.out.output, HW2.out.size, fun k hk _ => HW2.out.block k hk⟩ : w.grownBy W2.drew (some rb)).trans (grown_setCell W2.drew ⟨rb, 1, none⟩ (.int .i64 ((at_ + 1 : Nat) : Int)))⟩
  · go_wp2_with fail
    refine (at_rd s ha hs at_ hi _).mono ?_
    rintro e w1 ⟨rfl, hb⟩
    have hR : Rd w1 rb s at_ g z := Blk.keep hk (hb.block rb hlt)
    have k0 := hR.cells.1
    have k1 := hR.cells.2.1
    have kf := Blk.frozen hR 1
    have hlt1 := Blk.lt hR
    have HR := Lib.hid hR
    have HW := Lib.hid (((Below.refl w.heap.size w).drew).trans hb : Below w.heap.size w w1)
    clear hb hR
    go_wp2_with fail
    refine ⟨.tuple #[.agg #[.int .i64 at_, .int .i64 1, .int .i32 (byt s at_), .bool false], .int .i64 0], .inl ⟨rfl, fun w => by go_simp⟩, .agg #[.int .i64 at_, .int .i64 1, .int .i32 (byt s at_), .bool false], .inl ⟨rfl, fun w => by go_simp⟩, .int .i64 0, .inl ⟨rfl, fun w => by go_simp⟩, ?_⟩
    refine wpPure_nil ?_
    go_wp2_with fail
    have hR2 : Rd (w1.alloc (.cells #[.int .i64 at_, .int .i64 1, .int .i32 (byt s at_), .bool false] 85)) rb s at_ g z := Blk.alloc HR.out _
    have hP2 := Blk.new w1 85 [.int .i64 at_, .int .i64 1, .int .i32 (byt s at_), .bool false]
    have hW2 : Below w.heap.size w (w1.alloc (.cells #[.int .i64 at_, .int .i64 1, .int .i32 (byt s at_), .bool false] 85)) := HW.out.alloc HW.out.size _
    clear k0 k1 kf
    have k0 := hR2.cells.1
    have k1 := hR2.cells.2.1
    have kf := Blk.frozen hR2 1
    have x1 := hP2.cell (j := 1) (v := .int .i64 1) rfl
    have HR2 := Lib.hid hR2
    have HW2 := Lib.hid hW2
    clear hR2 hP2 hW2
    generalize (w1.alloc (.cells #[.int .i64 at_, .int .i64 1, .int .i32 (byt s at_), .bool false] 85)) = W2 at *
    refine wp_region_still_tail 9 hmx (by kernel_rfl) ?_
    simp only [List.take_succ_cons, List.take_zero, List.drop_succ_cons, List.drop_zero]
    repeat still_step
    refine wpStill_nil ?_
    go_wp2
    go_end0
    exact ⟨rfl, Rd.put (w := W2.drew) HR2.out (at_ + 1), (⟨HW2.out.os, HW2.out.tape, HW2.out.output, HW2.out.size, fun k hk _ => HW2.out.block k hk⟩ : w.grownBy W2.drew (some rb)).trans (grown_setCell W2.drew ⟨rb, 1, none⟩ (.int .i64 ((at_ + 1 : Nat) : Int)))⟩

end Go.Proofs.YtlanodchnjojoaaDoor
