/- The reader of a pattern's text: its small methods. -/
import Derived.Test.YtlanodchnjojoaaDoorRu
import Derived.StillTailTactics
namespace Go.Proofs.YtlanodchnjojoaaDoor
open Go.RowKit

theorem below_keeps' {w w' : World} (h : Below w.heap.size w w') {b : Nat} {t : TypeId} {xs : List Value} (hb : Blk w b t xs) : Blk w' b t xs := hb.keep (h.block b hb.lt)

/-- The reader in memory. -/
def rdCells (s : ByteArray) (at_ g z : Nat) : List Value := [.string s, .int .i64 at_, .int .i64 g, .int .i64 z]
abbrev Rd (w : World) (rb : Nat) (s : ByteArray) (at_ g z : Nat) : Prop := Blk w rb 49 (rdCells s at_ g z)
/-- The byte at a place; 256: there is none. -/
def byt (s : ByteArray) (i : Nat) : Nat := if h : i < s.size then (s[i]'h).toNat else 256

theorem Rd.cells {w : World} {rb : Nat} {s : ByteArray} {at_ g z : Nat} (h : Rd w rb s at_ g z) :
    w.cell? ⟨rb, 0, none⟩ = some (.string s) ∧ w.cell? ⟨rb, 1, none⟩ = some (.int .i64 at_) ∧ w.cell? ⟨rb, 2, none⟩ = some (.int .i64 g) ∧ w.cell? ⟨rb, 3, none⟩ = some (.int .i64 z) :=
  ⟨h.cell rfl, h.cell rfl, h.cell rfl, h.cell rfl⟩

theorem beq_cast (a b : Nat) : ((a : Int) == (b : Int)) = (a == b) := by
  by_cases h : a = b
  · subst h; simp
  · rw [beq_eq_false_iff_ne.2 h, beq_eq_false_iff_ne]; omega

set_option maxRecDepth 100000 in
set_option maxHeartbeats 1000000 in
theorem is_rd {w : World} {rb : Nat} {s : ByteArray} {at_ g z : Nat} (h : Rd w rb s at_ g z) (hs : s.size ≤ 2000) (c : Nat) (hc : c < 256) (ha : at_ ≤ s.size) :
    Calls Tryd.prog 19 #[.pointer (some ⟨rb, 0, none⟩), .int .u8 c] w fun e w' => e = .returned (.bool (byt s at_ == c)) ∧ w.drew = w' := by
  obtain ⟨c0, c1, c2, c3⟩ := h.cells
  by_cases hlt : at_ < s.size
  · have hb : byt s at_ = (s[at_]'hlt).toNat := by simp [byt, hlt]
    go_enter Tryd.func19, Tryd.ntmps19
    go_wp2
    go_region
    go_wp2
    go_ret
    exact ⟨by rw [hb, ← beq_cast]; rfl, rfl⟩
  · have hb : (byt s at_ == c) = false := by rw [beq_eq_false_iff_ne]; simp only [byt, hlt, dif_neg, not_false_iff]; omega
    have hlt' : ¬ ((at_ : Int) < (s.size : Int)) := by omega
    go_enter Tryd.func19, Tryd.ntmps19
    go_wp2
    go_region
    go_wp2
    go_ret
    exact ⟨by rw [hb]; rfl, rfl⟩

/-- What the reader's methods keep: all but the reader's own block. -/
theorem Rd.put {w : World} {rb : Nat} {s : ByteArray} {at_ g z : Nat} (h : Rd w rb s at_ g z) (v : Nat) : Rd (w.setCell ⟨rb, 1, none⟩ (.int .i64 (v : Int))) rb s v g z := by
  have := Blk.set h 1 (.int .i64 (v : Int))
  exact this
theorem Rd.putG {w : World} {rb : Nat} {s : ByteArray} {at_ g z : Nat} (h : Rd w rb s at_ g z) (v : Nat) : Rd (w.setCell ⟨rb, 2, none⟩ (.int .i64 (v : Int))) rb s at_ v z := Blk.set h 2 (.int .i64 (v : Int))
theorem Rd.putZ {w : World} {rb : Nat} {s : ByteArray} {at_ g z : Nat} (h : Rd w rb s at_ g z) (v : Nat) : Rd (w.setCell ⟨rb, 3, none⟩ (.int .i64 (v : Int))) rb s at_ g v := Blk.set h 3 (.int .i64 (v : Int))

set_option maxRecDepth 100000 in
set_option maxHeartbeats 1000000 in
theorem must_rd {w : World} {rb : Nat} {s : ByteArray} {at_ g z : Nat} (h : Rd w rb s at_ g z) (hs : s.size ≤ 2000) (c : Nat) (hc : c < 256) (hb : byt s at_ = c) (ha : at_ < s.size) :
    Calls Tryd.prog 48 #[.pointer (some ⟨rb, 0, none⟩), .int .u8 c] w fun e w' => e = .returned (.tuple #[]) ∧ w' = w.drew.setCell ⟨rb, 1, none⟩ (.int .i64 ((at_ + 1 : Nat) : Int)) := by
  obtain ⟨c0, c1, c2, c3⟩ := h.cells
  have f1 := Blk.frozen h 1
  have hi := is_rd h hs c hc (by omega)
  rw [hb] at hi
  have hw : IntKind.i64.wrap ((at_ : Int) + 1) = (at_ : Int) + 1 := by rw [IntKind.wrap_i64]; omega
  go_enter Tryd.func48, Tryd.ntmps48
  go_wp2_with (go_at_call 19; refine hi.mono ?_; rintro e w1 ⟨rfl, rfl⟩)
  go_end0
  exact ⟨rfl, rfl⟩

set_option maxRecDepth 100000 in
set_option maxHeartbeats 1000000 in
theorem grown_rd {w : World} {rb : Nat} {s : ByteArray} {at_ g z : Nat} (h : Rd w rb s at_ g z) (y from_ : Int) (z' : Nat) (hz : (z : Int) + y = z') (hz' : z' ≤ 2048) (hzz : z ≤ 2048) :
    Calls Tryd.prog 30 #[.pointer (some ⟨rb, 0, none⟩), .int .i64 y, .int .i64 from_] w fun e w' => e = .returned (.tuple #[]) ∧ w' = w.setCell ⟨rb, 3, none⟩ (.int .i64 (z' : Int)) := by
  obtain ⟨c0, c1, c2, c3⟩ := h.cells
  have f3 := Blk.frozen h 3
  have hw : IntKind.i64.wrap ((z : Int) + y) = (z' : Int) := by rw [IntKind.wrap_i64]; omega
  have hn : ¬ ((2048 : Int) < (z' : Int)) := by omega
  go_enter Tryd.func30, Tryd.ntmps30
  go_wp2
  go_end0
  exact ⟨rfl, rfl⟩

/-- The text is of small bytes alone. -/
def Asc (s : ByteArray) : Prop := ∀ i (h : i < s.size), (s[i]'h).toNat < 128

theorem wid_asc (c : Nat) (hc : c < 128) : wid (c : Int) = 1 := by
  have hv : Utf8.valid (c : Int) = true := by simp [Utf8.valid]; omega
  have he : Utf8.encode (c : Int) = ⟨#[UInt8.ofNat c]⟩ := by
    simp only [Utf8.encode, hv, if_true, Int.toNat_natCast]
    rw [if_pos hc]
  unfold wid
  rw [he]
  have : ((⟨#[UInt8.ofNat c]⟩ : ByteArray).toList == lostB.toList) = false := by
    rw [ByteArray.toList_eq, ByteArray.toList_eq]
    simp [lostB]
  rw [this]
  simp
  rfl

theorem byt_lt {s : ByteArray} (ha : Asc s) {i : Nat} (hi : i < s.size) : byt s i < 128 := by
  have := ha i hi
  simpa [byt, hi] using this
theorem piece_asc {s : ByteArray} (ha : Asc s) {i : Nat} (hi : i < s.size) : pieceAt s i = ⟨i, 1, (byt s i : Int), false⟩ := by
  have hd := decode_ascii s i hi (ha i hi)
  have hb := byt_lt ha hi
  have e : (s[i]'hi).toNat = byt s i := by simp [byt, hi]
  rw [e] at hd
  have hk : brk s i = false := by
    simp only [brk, hd, Bool.and_eq_false_iff]
    left
    rw [beq_eq_false_iff_ne]; omega
  simp only [pieceAt, hk, hd, Bool.false_eq_true, if_false, wid_asc _ hb]

set_option maxRecDepth 100000 in
set_option maxHeartbeats 1000000 in
theorem at_rd (s : ByteArray) (ha : Asc s) (hs : s.size ≤ 2000) (i : Nat) (hi : i < s.size) (w : World) :
    Calls Tryd.prog 54 #[.string s, .int .i64 i] w fun e w' => e = .returned (.tuple #[.agg #[.int .i64 i, .int .i64 1, .int .i32 (byt s i), .bool false], .int .i64 0]) ∧ Below w.heap.size w w' := by
  have hr := fun w' => read_met s i w' hi (by omega)
  have h0 : ¬ ((i : Int) < 0) := by omega
  have h1 : ¬ ((s.size : Int) ≤ (i : Int)) := by omega
  rw [piece_asc ha hi] at hr
  have hB0 := Blk.new w 85 [.int .i64 0, .int .i64 0, .int .i32 0, .bool false]
  go_enter Tryd.func54, Tryd.ntmps54
  go_wp2_with (go_at_call 35; refine (hr _).mono ?_; rintro e w1 ⟨rfl, hb⟩; have hB1 := below_keeps' hb hB0; have q0 := hB1.cell (j := 0) rfl; have q1 := hB1.cell (j := 1) rfl; have q2 := hB1.cell (j := 2) rfl; have q3 := hB1.cell (j := 3) rfl; have r0 := hB1.frozen 0; have r1 := hB1.frozen 1; have r2 := hB1.frozen 2; have r3 := hB1.frozen 3; have HB := Lib.hid (((Below.refl w.heap.size w).alloc (Nat.le_refl _) (.cells #[.int .i64 0, .int .i64 0, .int .i32 0, .bool false] 85)).trans (hb.mono (by simp))); unfold pcCells)
  refine bodyPost_ret_by (v := .tuple #[.agg #[.int .i64 i, .int .i64 1, .int .i32 (byt s i), .bool false], .int .i64 0]) ?_ rfl ⟨rfl, (((HB.out.setCell (p := ⟨w.heap.size, 0, none⟩) (Nat.le_refl _) _).setCell (p := ⟨w.heap.size, 1, none⟩) (Nat.le_refl _) _).setCell (p := ⟨w.heap.size, 2, none⟩) (Nat.le_refl _) _).setCell (p := ⟨w.heap.size, 3, none⟩) (Nat.le_refl _) _⟩
  simp only [results, show Tryd.f54.results = #[.cell 4 85, .tmp 5] from rfl] <;> go_simp

set_option maxRecDepth 100000 in
theorem at_rd_end (s : ByteArray) (hs : s.size ≤ 2000) (i : Nat) (hi : ¬ i < s.size) (w : World) :
    Calls Tryd.prog 54 #[.string s, .int .i64 i] w fun e w' => e = .returned (.tuple #[.agg #[.int .i64 0, .int .i64 0, .int .i32 0, .bool false], .int .i64 5]) ∧ Below w.heap.size w w' := by
  have h0 : ¬ ((i : Int) < 0) := by omega
  have h1 : (s.size : Int) ≤ (i : Int) := by omega
  go_enter Tryd.func54, Tryd.ntmps54
  go_wp2
  refine bodyPost_ret_by (v := .tuple #[.agg #[.int .i64 0, .int .i64 0, .int .i32 0, .bool false], .int .i64 5]) ?_ rfl ⟨rfl, ?_⟩
  · simp only [results, show Tryd.f54.results = #[.cell 4 85, .tmp 5] from rfl] <;> go_simp
  · exact (Below.refl _ _).alloc (Nat.le_refl _) _

end Go.Proofs.YtlanodchnjojoaaDoor
