/- The reader's method number. -/
import Derived.Test.YtlanodchnjojoaaDoorRn
import Derived.LoopTactic
import Derived.Deep.QuietTactic
import Derived.BigQuiet
namespace Go.Proofs.YtlanodchnjojoaaDoor
open Go.RowKit

/-- The digits of a number, from a place on. -/
def digOk (s : ByteArray) (fr at_ : Nat) : Bool := decide (48 ≤ byt s at_) && (decide (byt s at_ ≤ 57) && (at_ == fr || byt s fr != 48))
def numL (s : ByteArray) (fr : Nat) : Nat → Nat → Nat → Option (Nat × Nat)
  | 0, _, _ => none
  | f + 1, at_, n => if digOk s fr at_ then (if 255 < 10 * n + (byt s at_ - 48) then none else numL s fr f (at_ + 1) (10 * n + (byt s at_ - 48))) else if at_ = fr then none else some (n, at_)

theorem grown_drewN (w : World) (n : Nat) (r : Option Nat) : w.grownBy (w.drewN n) r := by
  have h : Below w.heap.size w (w.drewN n) := below_drewN (Below.refl _ _) n
  exact ⟨h.os, h.tape, h.output, h.size, fun k hk _ => h.block k hk⟩
theorem Rd.drewN {w : World} {rb : Nat} {s : ByteArray} {at_ g z : Nat} (h : Rd w rb s at_ g z) (n : Nat) : Rd (w.drewN n) rb s at_ g z := Blk.keep h ((below_drewN (Below.refl _ w) n).block rb h.lt)

set_option maxRecDepth 100000 in
set_option maxHeartbeats 4000000 in
theorem number_rd {w : World} {rb : Nat} {s : ByteArray} {at_ g z : Nat} (h : Rd w rb s at_ g z) (hs : s.size ≤ 2000) {f n atz : Nat} (hn : numL s at_ f at_ 0 = some (n, atz)) (hi : at_ < s.size) :
    Calls Tryd.prog 47 #[.pointer (some ⟨rb, 0, none⟩)] w fun e w' => e = .returned (.tuple #[.int .i64 n, .int .i64 at_]) ∧ Rd w' rb s atz g z ∧ w.grownBy w' (some rb) ∧ n ≤ 255 ∧ atz ≤ s.size := by
  obtain ⟨c0, c1, c2, c3⟩ := h.cells
  have hfr : byt s at_ = (s[at_]'hi).toNat := by simp [byt, hi]
  go_enter Tryd.func47, Tryd.ntmps47
  go_wp2
  go_loopw [5] (fun s5 wr => ∃ (f at1 n1 : Nat), s5 = .int .i64 n1 ∧ numL s at_ f at1 n1 = some (n, atz) ∧ Rd wr rb s at1 g z ∧ w.grownBy wr (some rb) ∧ n1 ≤ 255 ∧ at_ ≤ at1 ∧ at1 ≤ s.size)
    (fun _ wr => match wr.cell? ⟨rb, 1, none⟩ with | some (.int _ x) => s.size - x.toNat | _ => 0)
  case atStart => exact ⟨f, at_, 0, rfl, hn, h, ⟨rfl, rfl, rfl, Nat.le_refl _, fun _ _ _ => rfl⟩, by omega, by omega, by omega⟩
  case round =>
    obtain ⟨f, at1, n1, rfl, hn, hR, hg, h255, hlo, hle⟩ := hrel
    obtain ⟨d0, d1, d2, d3⟩ := hR.cells
    have f1 := Blk.frozen hR 1
    cases f with
    | zero => cases hn
    | succ f =>
    unfold numL at hn
    by_cases hdig : digOk s at_ at1 = true
    · rw [if_pos hdig] at hn
      unfold digOk at hdig
      simp only [Bool.and_eq_true, Bool.or_eq_true, decide_eq_true_eq, bne_iff_ne, ne_eq, beq_iff_eq] at hdig
      obtain ⟨h48, h57, h0⟩ := hdig
      have hlt : at1 < s.size := by
        apply Decidable.byContradiction; intro hc
        simp only [byt, hc, dif_neg, not_false_iff] at h57; omega
      have hb : byt s at1 = (s[at1]'hlt).toNat := by simp [byt, hlt]
      have hlI : (at1 : Int) < (s.size : Int) := by omega
      have i48 : (48 : Int) ≤ ((s[at1]'hlt).toNat : Int) := by rw [hb] at h48; omega
      have i57 : ((s[at1]'hlt).toNat : Int) ≤ 57 := by rw [hb] at h57; omega
      by_cases hbig : 255 < 10 * n1 + (byt s at1 - 48)
      · rw [if_pos hbig] at hn; cases hn
      · rw [if_neg hbig] at hn
        rw [hb] at hbig hn
        have w1 : IntKind.u8.wrap (((s[at1]'hlt).toNat : Int) - 48) = ((s[at1]'hlt).toNat : Int) - 48 := by rw [IntKind.wrap_u8]; omega
        have w2 : IntKind.i64.wrap (10 * (n1 : Int)) = 10 * (n1 : Int) := by rw [IntKind.wrap_i64]; omega
        have w3 : IntKind.i64.wrap (((s[at1]'hlt).toNat : Int) - 48) = ((s[at1]'hlt).toNat : Int) - 48 := by rw [IntKind.wrap_i64]; omega
        have w4 : IntKind.i64.wrap (10 * (n1 : Int) + (((s[at1]'hlt).toNat : Int) - 48)) = 10 * (n1 : Int) + (((s[at1]'hlt).toNat : Int) - 48) := by rw [IntKind.wrap_i64]; omega
        have w5 : ¬ (255 : Int) < 10 * (n1 : Int) + (((s[at1]'hlt).toNat : Int) - 48) := by omega
        have w6 : IntKind.i64.wrap ((at1 : Int) + 1) = (at1 : Int) + 1 := by rw [IntKind.wrap_i64]; omega
        by_cases hs0 : at1 = at_
        · subst hs0
          go_wp2
          go_quiet (fail)
          go_wp2
          go_region
          go_wp2
          refine ⟨⟨f, at1 + 1, 10 * n1 + ((s[at1]'hlt).toNat - 48), ?_, hn, Rd.put (hR.drewN (nq + 1)) (at1 + 1), (hg.trans (grown_drewN _ _ _)).trans (grown_setCell _ ⟨rb, 1, none⟩ (.int .i64 ((at1 + 1 : Nat) : Int))), by omega, by omega, by omega⟩, ?_⟩
          · congr 1; omega
          · have e1 : ((wr.drewN (nq + 1)).setCell ⟨rb, 1, none⟩ (.int .i64 ((at1 : Int) + 1))).cell? ⟨rb, 1, none⟩ = some (.int .i64 ((at1 : Int) + 1)) := (Rd.put (hR.drewN (nq + 1)) (at1 + 1)).cells.2.1
            rw [e1, d1]
            show s.size - ((at1 : Int) + 1).toNat < s.size - (at1 : Int).toNat
            omega
        · have hne : ((at1 : Int) == (at_ : Int)) = false := by rw [beq_eq_false_iff_ne]; omega
          have hz : ((((s[at_]'hi).toNat : Int)) == 48) = false := by rw [beq_eq_false_iff_ne]; rcases h0 with h0 | h0 <;> omega
          go_wp2
          go_quiet (fail)
          go_wp2
          go_region
          go_wp2
          refine ⟨⟨f, at1 + 1, 10 * n1 + ((s[at1]'hlt).toNat - 48), ?_, hn, Rd.put (hR.drewN (nq + 1)) (at1 + 1), (hg.trans (grown_drewN _ _ _)).trans (grown_setCell _ ⟨rb, 1, none⟩ (.int .i64 ((at1 + 1 : Nat) : Int))), by omega, by omega, by omega⟩, ?_⟩
          · congr 1; omega
          · have e1 : ((wr.drewN (nq + 1)).setCell ⟨rb, 1, none⟩ (.int .i64 ((at1 : Int) + 1))).cell? ⟨rb, 1, none⟩ = some (.int .i64 ((at1 : Int) + 1)) := (Rd.put (hR.drewN (nq + 1)) (at1 + 1)).cells.2.1
            rw [e1, d1]
            show s.size - ((at1 : Int) + 1).toNat < s.size - (at1 : Int).toNat
            omega
    · rw [if_neg hdig] at hn
      by_cases he : at1 = at_
      · rw [if_pos he] at hn; cases hn
      · rw [if_neg he] at hn
        cases hn
        have hne : ((atz : Int) == (at_ : Int)) = false := by rw [beq_eq_false_iff_ne]; omega
        unfold digOk at hdig
        by_cases hlt : atz < s.size
        · have hb : byt s atz = (s[atz]'hlt).toNat := by simp [byt, hlt]
          have hlI : (atz : Int) < (s.size : Int) := by omega
          by_cases h48 : 48 ≤ byt s atz
          · have i48 : (48 : Int) ≤ ((s[atz]'hlt).toNat : Int) := by rw [hb] at h48; omega
            by_cases h57 : byt s atz ≤ 57
            · have i57 : ((s[atz]'hlt).toNat : Int) ≤ 57 := by rw [hb] at h57; omega
              have hz : ((((s[at_]'hi).toNat : Int)) == 48) = true := by
                simp only [h48, h57, decide_true, Bool.true_and, Bool.or_eq_true, bne_iff_ne, beq_iff_eq, not_or, Decidable.not_not] at hdig
                rw [beq_iff_eq]; omega
              go_wp2
              go_quiet (fail)
              go_wp2
              refine bodyPost_ret_by (v := .tuple #[.int .i64 n, .int .i64 at_]) ?_ rfl ⟨rfl, hR.drewN _, hg.trans (grown_drewN _ _ _), h255, hle⟩
              simp only [results, show Tryd.f47.results = #[.tmp 2, .tmp 3] from rfl] <;> go_simp
            · have i57 : decide (((s[atz]'hlt).toNat : Int) ≤ 57) = false := by rw [hb] at h57; rw [decide_eq_false_iff_not]; omega
              go_wp2
              go_quiet (fail)
              go_wp2
              refine bodyPost_ret_by (v := .tuple #[.int .i64 n, .int .i64 at_]) ?_ rfl ⟨rfl, hR.drewN _, hg.trans (grown_drewN _ _ _), h255, hle⟩
              simp only [results, show Tryd.f47.results = #[.tmp 2, .tmp 3] from rfl] <;> go_simp
          · have i48 : decide ((48 : Int) ≤ ((s[atz]'hlt).toNat : Int)) = false := by rw [hb] at h48; rw [decide_eq_false_iff_not]; omega
            go_wp2
            go_quiet (fail)
            go_wp2
            refine bodyPost_ret_by (v := .tuple #[.int .i64 n, .int .i64 at_]) ?_ rfl ⟨rfl, hR.drewN _, hg.trans (grown_drewN _ _ _), h255, hle⟩
            simp only [results, show Tryd.f47.results = #[.tmp 2, .tmp 3] from rfl] <;> go_simp
        · have hlI : ¬ (atz : Int) < (s.size : Int) := by omega
          go_wp2
          go_quiet (fail)
          go_wp2
          refine bodyPost_ret_by (v := .tuple #[.int .i64 n, .int .i64 at_]) ?_ rfl ⟨rfl, hR.drewN _, hg.trans (grown_drewN _ _ _), h255, hle⟩
          simp only [results, show Tryd.f47.results = #[.tmp 2, .tmp 3] from rfl] <;> go_simp

end Go.Proofs.YtlanodchnjojoaaDoor
