/- The package runes: the width of a rune, the piece that is read at a place. -/
import Derived.Test.YtlanodchnjojoaaDoorMem
import Derived.Laws.RangeAny
import Derived.Lib.TrimU
import Derived.Lib.RuneCountTail
import Derived.Deep.LoopGhost
namespace Go.Proofs.YtlanodchnjojoaaDoor
open Go.RowKit

def lostB : ByteArray := { data := #[239, 191, 189] }
/-- How many bytes a rune's form has. -/
def wid (r : Int) : Nat := if r != 65533 && ((Utf8.encode r).toList == lostB.toList) then 0 else (Utf8.encode r).size

set_option maxRecDepth 100000 in
theorem width_met (r : Int) (w : World) : Calls Tryd.prog 50 #[.int .i32 r] w fun e w' => e = .returned (.int .i64 (wid r)) ∧ w = w' := by
  have hl : ({ data := #[239, 191, 189] } : ByteArray) = lostB := rfl
  by_cases h : r = 65533
  · subst h
    go_enter Tryd.func50, Tryd.ntmps50
    go_wp2
    go_ret
    exact ⟨by simp [wid], rfl⟩
  · cases h2 : ((Utf8.encode r).toList == lostB.toList)
    · have hw : wid r = (Utf8.encode r).size := by simp [wid, h2]
      go_enter Tryd.func50, Tryd.ntmps50
      go_wp2
      all_goals go_ret
      all_goals exact ⟨by simp [hw], rfl⟩
    · have hw : wid r = 0 := by simp [wid, h, h2]
      go_enter Tryd.func50, Tryd.ntmps50
      go_wp2
      all_goals (first | (exfalso; simp_all; done) | skip)
      all_goals go_ret
      all_goals exact ⟨by simp [hw], rfl⟩

/-- Is what is read at a place a broken byte? -/
def brk (s : ByteArray) (at_ : Nat) : Bool := (Utf8.decode s at_).1 == 65533 && (decide (s.size - at_ < 3) || (s.extract at_ (at_ + 3)).toList != lostB.toList)
/-- The piece that is read at a place. -/
def pieceAt (s : ByteArray) (at_ : Nat) : Pc := if brk s at_ then ⟨at_, 1, 65533, true⟩ else ⟨at_, wid (Utf8.decode s at_).1, (Utf8.decode s at_).1, false⟩

theorem decode_tail (s : ByteArray) (n : Nat) : Utf8.decode (s.extract n s.size) 0 = Utf8.decode s n := by rw [Lib.tail_decode, Nat.add_zero]

/-- What the walk wants to know of a run of the string's iterator and of what is read. -/
theorem next_first (s : ByteArray) (at_ : Nat) (w : World) (hat : at_ < s.size) (o : Obj) (ty : TypeId) :
    (Instr.next (.pointer (some ⟨w.heap.size + 1, 0, none⟩)) true ty).run Tryd.prog ((w.alloc o).iter (s.extract at_ s.size) 0) =
      .ok (.tuple #[.bool true, .int .i64 0, .int .i32 (Utf8.decode s at_).1]) ((w.alloc o).iter (s.extract at_ s.size) (Utf8.decode s at_).2) := by
  have h := run_next_any (P := Tryd.prog) (w.alloc o) (s.extract at_ s.size) 0 ty (by rw [Lib.tail_size]; omega)
  rw [decode_tail, World.size_alloc] at h
  rw [h]; simp

theorem rune_le' (s : ByteArray) (n : Nat) : (Utf8.decode s n).1 ≤ 1114111 := Lib.rune_le s n

set_option maxRecDepth 100000 in
set_option maxHeartbeats 1000000 in
theorem read_met (s : ByteArray) (at_ : Nat) (w : World) (hat : at_ < s.size) (hs : s.size ≤ 100000000) : Calls Tryd.prog 35 #[.string s, .int .i64 at_] w fun e w' => e = .returned (.agg (pcCells (pieceAt s at_)).toArray) ∧ Below w.heap.size w w' := by
  have hl : ({ data := #[239, 191, 189] } : ByteArray) = lostB := rfl
  have hnx := fun o ty => next_first s at_ w hat o ty
  have hr := rune_le' s at_
  have hpc : pieceAt s at_ = if brk s at_ then ⟨at_, 1, 65533, true⟩ else ⟨at_, wid (Utf8.decode s at_).1, (Utf8.decode s at_).1, false⟩ := rfl
  have hbk : brk s at_ = ((Utf8.decode s at_).1 == 65533 && (decide (s.size - at_ < 3) || (s.extract at_ (at_ + 3)).toList != lostB.toList)) := rfl
  have HB : Below w.heap.size w ((w.alloc (.cells #[.int .i64 0, .int .i64 0, .int .i32 0, .bool false] 85)).iter (s.extract at_ s.size) (Utf8.decode s at_).2) := by
    unfold World.iter
    exact (((Below.refl _ w).alloc (Nat.le_refl _) _).alloc (by simp) _)
  generalize (Utf8.decode s at_).2 = dn at *
  generalize (Utf8.decode s at_).1 = r at *
  have hB0 : Blk ((w.alloc (.cells #[.int .i64 0, .int .i64 0, .int .i32 0, .bool false] 85)).iter (s.extract at_ s.size) dn) w.heap.size 85 [.int .i64 0, .int .i64 0, .int .i32 0, .bool false] := (Blk.new w 85 [.int .i64 0, .int .i64 0, .int .i32 0, .bool false]).alloc _
  have q0 := hB0.cell (j := 0) rfl
  have q1 := hB0.cell (j := 1) rfl
  have q2 := hB0.cell (j := 2) rfl
  have q3 := hB0.cell (j := 3) rfl
  have f0 := hB0.frozen 0
  have f1 := hB0.frozen 1
  have f2 := hB0.frozen 2
  have f3 := hB0.frozen 3
  have HB' := Lib.hid HB
  clear HB hB0
  go_enter Tryd.func35, Tryd.ntmps35
  go_wp2
  refine wp_loop_ghost (fun n a' w' => n = 0 ∧ a' = _ ∧ w' = _) 0 ⟨rfl, rfl, rfl⟩ ?_
  rintro n a' w' ⟨hn, rfl, rfl⟩
  by_cases h1 : r = 65533
  · subst h1
    by_cases h2 : s.size - at_ < 3
    · have hb : brk s at_ = true := by rw [hbk]; simp [h2]
      rw [if_pos hb] at hpc
      go_wp2_with (go_at_call 50; refine (width_met _ _).mono ?_; rintro e w2 ⟨rfl, rfl⟩)
      refine bodyPost_ret_by (v := .agg #[.int .i64 at_, .int .i64 1, .int .i32 65533, .bool true]) ?_ rfl ⟨by first | (rw [hpc]; rfl) | rfl, (((HB'.out.setCell (p := ⟨w.heap.size, 0, none⟩) (Nat.le_refl _) _).setCell (p := ⟨w.heap.size, 1, none⟩) (Nat.le_refl _) _).setCell (p := ⟨w.heap.size, 2, none⟩) (Nat.le_refl _) _).setCell (p := ⟨w.heap.size, 3, none⟩) (Nat.le_refl _) _⟩
      simp only [results, show Tryd.f35.results = #[.cell 4 85] from rfl] <;> go_simp
    · have hx : ((s.extract at_ (at_ + 3)).toList == lostB.toList) = !((s.extract at_ (at_ + 3)).toList != lostB.toList) := by simp [bne]
      cases h3 : ((s.extract at_ (at_ + 3)).toList != lostB.toList)
      · have hb : brk s at_ = false := by rw [hbk, h3]; simp; omega
        rw [if_neg (by rw [hb]; decide)] at hpc
        go_wp2_with (go_at_call 50; refine (width_met _ _).mono ?_; rintro e w2 ⟨rfl, rfl⟩)
        refine bodyPost_ret_by (v := .agg #[.int .i64 at_, .int .i64 (wid 65533), .int .i32 65533, .bool false]) ?_ rfl ⟨by first | (rw [hpc]; rfl) | rfl, (((HB'.out.setCell (p := ⟨w.heap.size, 0, none⟩) (Nat.le_refl _) _).setCell (p := ⟨w.heap.size, 1, none⟩) (Nat.le_refl _) _).setCell (p := ⟨w.heap.size, 2, none⟩) (Nat.le_refl _) _).setCell (p := ⟨w.heap.size, 3, none⟩) (Nat.le_refl _) _⟩
        simp only [results, show Tryd.f35.results = #[.cell 4 85] from rfl] <;> go_simp
      · have hb : brk s at_ = true := by rw [hbk, h3]; simp
        rw [if_pos hb] at hpc
        go_wp2_with (go_at_call 50; refine (width_met _ _).mono ?_; rintro e w2 ⟨rfl, rfl⟩)
        refine bodyPost_ret_by (v := .agg #[.int .i64 at_, .int .i64 1, .int .i32 65533, .bool true]) ?_ rfl ⟨by first | (rw [hpc]; rfl) | rfl, (((HB'.out.setCell (p := ⟨w.heap.size, 0, none⟩) (Nat.le_refl _) _).setCell (p := ⟨w.heap.size, 1, none⟩) (Nat.le_refl _) _).setCell (p := ⟨w.heap.size, 2, none⟩) (Nat.le_refl _) _).setCell (p := ⟨w.heap.size, 3, none⟩) (Nat.le_refl _) _⟩
        simp only [results, show Tryd.f35.results = #[.cell 4 85] from rfl] <;> go_simp
  · have hb : brk s at_ = false := by rw [hbk]; simp; omega
    rw [if_neg (by rw [hb]; decide)] at hpc
    go_wp2_with (go_at_call 50; refine (width_met _ _).mono ?_; rintro e w2 ⟨rfl, rfl⟩)
    refine bodyPost_ret_by (v := .agg #[.int .i64 at_, .int .i64 (wid r), .int .i32 r, .bool false]) ?_ rfl ⟨by first | (rw [hpc]; rfl) | rfl, (((HB'.out.setCell (p := ⟨w.heap.size, 0, none⟩) (Nat.le_refl _) _).setCell (p := ⟨w.heap.size, 1, none⟩) (Nat.le_refl _) _).setCell (p := ⟨w.heap.size, 2, none⟩) (Nat.le_refl _) _).setCell (p := ⟨w.heap.size, 3, none⟩) (Nat.le_refl _) _⟩
    simp only [results, show Tryd.f35.results = #[.cell 4 85] from rfl] <;> go_simp

end Go.Proofs.YtlanodchnjojoaaDoor
