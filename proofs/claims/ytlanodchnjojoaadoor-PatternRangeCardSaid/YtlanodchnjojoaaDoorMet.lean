/- The walk of the method met: it tells whether a step was tried at a piece, and marks it. -/
import Derived.Test.YtlanodchnjojoaaDoorRows
import Derived.WalkKit
import Derived.WalkLawsBesides
import Derived.WalkSpells
import Derived.Deep.QuietTactic
import Derived.BigQuiet
import Derived.BigRegion
import Derived.Lib.Hide
import Derived.Laws.MakeOwn
import Derived.Laws.BitsAllLaws
namespace Go.Proofs.YtlanodchnjojoaaDoor
open Go.RowKit

theorem run_make_rowN {P : Program} (t e : TypeId) (i : TypeInfo) (z : Value) (ht : P.underlying t = some (.slice e)) (hi : P.info? e = some i) (hz : i.zero = some z)
    (kl kc : IntKind) (n c : Nat) (hnc : n ≤ c) (hbytes : i.bytes * c ≤ 281474976710656) (h63 : c ≤ 9223372036854775807) (w : World) :
    (Instr.makeSlice t (.int kl (n : Int)) (.int kc (c : Int))).run P w = .ok (.slice (some ⟨w.heap.size, 0, none⟩) n c) (w.alloc (.cells (madeCells z.cells (c * i.size)) e)) := by
  have hb : (i.bytes : Int) * (c : Int) ≤ 281474976710656 := by
    have h : ((i.bytes * c : Nat) : Int) ≤ 281474976710656 := by omega
    rwa [Int.natCast_mul] at h
  have hr := run_make (P := P) w t e i z ht hi hz kl kc n c (by omega) (by omega) hb (by omega)
  simp only [Int.toNat_natCast] at hr
  exact hr
theorem Tryd.infoU64 : (Tryd.prog.info? 118).map (fun i => (i.zero, i.size, i.bytes)) = some (some (.int .u64 0), 1, 8) := by kernel_rfl

/-- How many of the first j loops began their round ahead of piece k. -/
def cnt (ls : List Nat) (bg : List Nat) (k j : Nat) : Nat := ((ls.take j).countP fun l => decide (bg[l]?.getD 0 < k))
theorem cnt_le (ls bg : List Nat) (k j : Nat) : cnt ls bg k j ≤ j := by
  unfold cnt; exact Nat.le_trans List.countP_le_length (List.length_take_le _ _)
theorem cnt_succ (ls bg : List Nat) (k j l : Nat) (h : ls[j]? = some l) : cnt ls bg k (j + 1) = cnt ls bg k j + if bg[l]?.getD 0 < k then 1 else 0 := by
  unfold cnt
  obtain ⟨hj, hl⟩ := List.getElem?_eq_some_iff.1 h
  rw [List.take_succ_eq_append_getElem hj, hl, List.countP_append]
  simp

/-- The bit of state I in the word. -/
def bitB (wd : Nat) (I : Nat) : Bool := bits .and .u64 ((wd : Int) / 2 ^ (I % 64)) 1 == 1
/-- What met leaves where the row is there. -/
def MetOld (w : World) (rb I wd : Nat) (e : Ending) (w' : World) : Prop :=
  (bitB wd I = true ∧ e = .returned (.bool true) ∧ w' = w) ∨
  (bitB wd I = false ∧ e = .returned (.bool false) ∧ w' = (w.setCell ⟨rb, I / 64, none⟩ (.int .u64 (bits .or .u64 wd (IntKind.u64.wrap (2 ^ (I % 64)))))).drew)

set_option maxRecDepth 100000 in
set_option maxHeartbeats 800000 in
theorem met_old (w : World) (mb pb cb bb gb rb lb nc capc np nl nW capl : Nat) (pc k S bs I : Nat) (la : Option Addr) (ls bg : List Nat) (wd : Nat)
    (hm0 : w.cell? ⟨mb, 0, none⟩ = some (.pointer (some ⟨pb, 0, none⟩))) (hm3 : w.cell? ⟨mb, 3, none⟩ = some (.slice (some ⟨bb, 0, none⟩) np np)) (hm6 : w.cell? ⟨mb, 6, none⟩ = some (.slice (some ⟨gb, 0, none⟩) nl nl))
    (hp3 : w.cell? ⟨pb, 3, none⟩ = some (.slice (some ⟨cb, 0, none⟩) nc capc)) (hp6 : w.cell? ⟨pb, 6, none⟩ = some (.int .i64 S))
    (hs5 : w.cell? ⟨cb, pc * 15 + 13, none⟩ = some (.slice la ls.length capl)) (hla : ∀ j, j < ls.length → la = some ⟨lb, 0, none⟩) (hs6 : w.cell? ⟨cb, pc * 15 + 14, none⟩ = some (.int .i64 bs))
    (hls : ∀ j, j < ls.length → w.cell? ⟨lb, j, none⟩ = some (.int .i64 (ls[j]?.getD 0))) (hlt : ∀ j, j < ls.length → ls[j]?.getD 0 < nl)
    (hbg : ∀ l, l < nl → w.cell? ⟨gb, l, none⟩ = some (.int .i64 (bg[l]?.getD 0)))
    (hpc : pc < nc) (hk : k < np) (hnc : nc ≤ 100000) (hnp : np ≤ 100000) (hll : ls.length ≤ 1000) (hbs : bs ≤ 100000)
    (HI : Hid (bs + cnt ls bg k ls.length = I)) (hIb : I ≤ 101000) (hrow : w.cell? ⟨bb, k, none⟩ = some (.slice (some ⟨rb, 0, none⟩) nW nW)) (hi : I / 64 < nW)
    (hfr : w.frozen? ⟨rb, I / 64, none⟩ = false) (hwd : w.cell? ⟨rb, I / 64, none⟩ = some (.int .u64 wd)) :
    Calls Tryd.prog 36 #[.pointer (some ⟨mb, 0, none⟩), .int .i64 pc, .int .i64 k] w fun e w' => MetOld w rb I wd e w' := by
  have q : ∀ (w : World) (a : Option Addr) (n c n' c' : Nat), (binOp .eql 116 (.slice a n c) (.slice none n' c')).run Tryd.prog w = .ok (.bool a.isNone) w := fun w a n c n' c' => Lib.run_eql_slice_nil w _ _ a n c n' c' Tryd.underlying116
  go_enter Tryd.func36, Tryd.ntmps36
  go_wp2
  go_loop [1, 29] (fun p j => ∃ jj : Nat, jj ≤ ls.length ∧ j = .int .i64 jj ∧ p = .int .i64 ((bs + cnt ls bg k jj : Nat) : Int)) (fun _ j => ls.length - (intOf j).toNat)
  case atStart => exact ⟨0, Nat.zero_le _, rfl, by simp [cnt]⟩
  case round =>
    obtain ⟨jj, hjj, rfl, rfl⟩ := hrel
    have hc := cnt_le ls bg k jj
    by_cases hj : jj < ls.length
    · obtain rfl := hla jj hj
      have h1 := hls jj hj
      have h2 := hlt jj hj
      have h3 := hbg _ h2
      have h4 := cnt_succ ls bg k jj _ (by rw [List.getElem?_eq_getElem hj])
      have e1 : ls[jj]?.getD 0 = ls[jj] := by simp [hj]
      rw [e1] at h1 h2 h3
      have H4 := Lib.hid h4
      clear h4 e1 hls hlt hbg hla
      go_wp2
      all_goals
        go_round
        case rel => exact ⟨jj + 1, by omega, by go_num, by rw [H4.out]; first | (rw [if_pos (by assumption)]; go_num) | (rw [if_neg (by omega)]; go_num)⟩
        case measure => simp [intOf]; omega
    · obtain rfl : jj = ls.length := by omega
      clear hls hlt hbg hj hjj hla
      rw [HI.out] at *
      go_wp2
      · go_ret
        exact .inl ⟨by assumption, rfl, rfl⟩
      · go_region
        go_wp2
        go_ret
        exact .inr ⟨by assumption, rfl, rfl⟩

/-- What met leaves where the row was not there. -/
def MetNew (w : World) (bb k nW I : Nat) (e : Ending) (w' : World) : Prop :=
  e = .returned (.bool false) ∧ w' = ((w.setCell ⟨bb, k, none⟩ (.slice (some ⟨w.heap.size, 0, none⟩) nW nW)).alloc (.cells ((madeCells #[.int .u64 0] nW).setIfInBounds (I / 64) (.int .u64 (bits .or .u64 0 (IntKind.u64.wrap (2 ^ (I % 64)))))) 118)).drew.drew

set_option maxRecDepth 100000 in
set_option maxHeartbeats 800000 in
theorem met_new (w : World) (mb pb cb bb gb lb nc capc np nl capl : Nat) (pc k S bs I : Nat) (la : Option Addr) (ls bg : List Nat)
    (hm0 : w.cell? ⟨mb, 0, none⟩ = some (.pointer (some ⟨pb, 0, none⟩))) (hm3 : w.cell? ⟨mb, 3, none⟩ = some (.slice (some ⟨bb, 0, none⟩) np np)) (hm6 : w.cell? ⟨mb, 6, none⟩ = some (.slice (some ⟨gb, 0, none⟩) nl nl))
    (hp3 : w.cell? ⟨pb, 3, none⟩ = some (.slice (some ⟨cb, 0, none⟩) nc capc)) (hp6 : w.cell? ⟨pb, 6, none⟩ = some (.int .i64 S))
    (hs5 : w.cell? ⟨cb, pc * 15 + 13, none⟩ = some (.slice la ls.length capl)) (hla : ∀ j, j < ls.length → la = some ⟨lb, 0, none⟩) (hs6 : w.cell? ⟨cb, pc * 15 + 14, none⟩ = some (.int .i64 bs))
    (hls : ∀ j, j < ls.length → w.cell? ⟨lb, j, none⟩ = some (.int .i64 (ls[j]?.getD 0))) (hlt : ∀ j, j < ls.length → ls[j]?.getD 0 < nl)
    (hbg : ∀ l, l < nl → w.cell? ⟨gb, l, none⟩ = some (.int .i64 (bg[l]?.getD 0)))
    (hpc : pc < nc) (hk : k < np) (hnc : nc ≤ 100000) (hnp : np ≤ 100000) (hll : ls.length ≤ 1000) (hbs : bs ≤ 100000) (hS : S ≤ 100000)
    (HI : Hid (bs + cnt ls bg k ls.length = I)) (hIb : I < S) (hrow : w.cell? ⟨bb, k, none⟩ = some (.slice none 0 0)) (hfr : w.frozen? ⟨bb, k, none⟩ = false) (hmb : mb ≠ bb)
    (hbb : bb < w.heap.size) (hmbs : mb < w.heap.size) :
    Calls Tryd.prog 36 #[.pointer (some ⟨mb, 0, none⟩), .int .i64 pc, .int .i64 k] w fun e w' => MetNew w bb k (S / 64 + 1) I e w' := by
  have q : ∀ (w : World) (a : Option Addr) (n c n' c' : Nat), (binOp .eql 116 (.slice a n c) (.slice none n' c')).run Tryd.prog w = .ok (.bool a.isNone) w := fun w a n c n' c' => Lib.run_eql_slice_nil w _ _ a n c n' c' Tryd.underlying116
  obtain ⟨i0, hi, hz0, hz1, hz2⟩ := info_parts Tryd.infoU64
  have hmk : ∀ W : World, (Instr.makeSlice 116 (.int .i64 ((S : Int) / 64 + 1)) (.int .i64 ((S : Int) / 64 + 1))).run Tryd.prog W = .ok (.slice (some ⟨W.heap.size, 0, none⟩) (S / 64 + 1) (S / 64 + 1)) (W.alloc (.cells (madeCells #[.int .u64 0] (S / 64 + 1)) 118)) := fun W => by
    have := run_make_rowN (P := Tryd.prog) 116 118 i0 (.int .u64 0) Tryd.underlying116 hi hz0 .i64 .i64 (S / 64 + 1) (S / 64 + 1) (Nat.le_refl _) (by rw [hz2]; omega) (by omega) W
    rw [hz1, Nat.mul_one] at this
    exact this
  clear hi hz0 hz1 hz2
  have hz9 : (madeCells #[.int .u64 0] (S / 64 + 1))[I / 64]? = some (.int .u64 0) := by
    have hI : I / 64 < S / 64 + 1 := by omega
    rw [← Array.getElem?_toList, toList_madeCells_one]; simp [hI]
  go_enter Tryd.func36, Tryd.ntmps36
  go_wp2
  go_loop [1, 29] (fun p j => ∃ jj : Nat, jj ≤ ls.length ∧ j = .int .i64 jj ∧ p = .int .i64 ((bs + cnt ls bg k jj : Nat) : Int)) (fun _ j => ls.length - (intOf j).toNat)
  case atStart => exact ⟨0, Nat.zero_le _, rfl, by simp [cnt]⟩
  case round =>
    obtain ⟨jj, hjj, rfl, rfl⟩ := hrel
    have hc := cnt_le ls bg k jj
    by_cases hj : jj < ls.length
    · obtain rfl := hla jj hj
      have h1 := hls jj hj
      have h2 := hlt jj hj
      have h3 := hbg _ h2
      have h4 := cnt_succ ls bg k jj _ (by rw [List.getElem?_eq_getElem hj])
      have e1 : ls[jj]?.getD 0 = ls[jj] := by simp [hj]
      rw [e1] at h1 h2 h3
      have H4 := Lib.hid h4
      clear h4 e1 hls hlt hbg hla hmk
      go_wp2
      all_goals
        go_round
        case rel => exact ⟨jj + 1, by omega, by go_num, by rw [H4.out]; first | (rw [if_pos (by assumption)]; go_num) | (rw [if_neg (by omega)]; go_num)⟩
        case measure => simp [intOf]; omega
    · obtain rfl : jj = ls.length := by omega
      clear hls hlt hbg hj hjj hla
      rw [HI.out] at *
      go_wp2
      go_region
      go_wp2
      go_region
      go_wp2
      go_ret
      exact ⟨rfl, rfl⟩

end Go.Proofs.YtlanodchnjojoaaDoor
