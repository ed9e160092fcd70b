/- The law PatternSoon, from its beginning to its end. -/
import Derived.Test.YtlanodchnjojoaaDoorSn
namespace Go.Proofs.YtlanodchnjojoaaDoor
open Go.RowKit

theorem Fs.of {xs : Array Value} {n sb : Nat} (sz : xs.size = 115) (h0 : Sl xs 0 (.int .i64 (n : Int))) (h3 : Sl xs 3 (.slice (some ⟨sb, 0, none⟩) n n)) : Fs xs n sb := ⟨sz, h0, h3⟩
theorem fillL_zero (n : Nat) : fillL 0 n = List.replicate n (.int .u8 0) := by simp [fillL]
theorem fillL_all (n : Nat) : fillL n n = List.replicate n (.int .u8 97) := by simp [fillL]

set_option maxRecDepth 100000 in
set_option maxHeartbeats 4000000 in
theorem soon_out {n sb : Nat} {w : World} {xs : Array Value} (hf : Fs xs n sb) (h5 : ∃ p, Sl xs 5 (.slice p 5 5)) (h6 : Sl xs 6 (.int .i64 5)) {Q : Exit → Act → World → Prop} (hQ : ∀ xs, Fs xs n sb → Q (.exit 2) ⟨xs, []⟩ w) : Code.wp Tryd.prog soonBody Q ⟨xs, []⟩ w := by
  have HF := Lib.hid hf
  have HQ := Lib.hid hQ
  obtain ⟨sz, g0, g3⟩ := hf
  obtain ⟨p, h5⟩ := h5
  unfold Sl at h5 h6
  clear hQ
  conv => arg 2; whnf
  repeat (first | go_skip | go_guarded | ((with_reducible refine wp_cond_true ?_ ?_); focus (simp [Act.eval, sz]; done)) | ((with_reducible refine wp_cond_false ?_ ?_); focus (simp [Act.eval, sz]; done)) | ((fail_if_success (with_reducible refine wp_cond_true ?_ ?_)); go_step) | go_upon)
  exact HQ.out _ (by repeat (first | (with_reducible exact HF.out) | (with_reducible refine Fs.set ?_ _ _ (by decide))))

/-- A round, whichever pattern is at hand. -/
theorem soon_any {n sb lb i : Nat} {w : World} {xs : Array Value} (hf : Fs xs n sb) (h5 : Sl xs 5 (.slice (some ⟨lb, 0, none⟩) 5 5)) (h6 : Sl xs 6 (.int .i64 (i : Int))) (hi : i < 5) (hn : n ≤ 3000)
    (hSB : Blk w sb 5 (List.replicate n (.int .u8 97))) (hLB : Blk w lb 9 [.string x0, .string x1, .string x2, .string x3, .string x4]) {Q : Exit → Act → World → Prop}
    (hnext : ∀ xs w', Fs xs n sb → Sl xs 5 (.slice (some ⟨lb, 0, none⟩) 5 5) → Sl xs 6 (.int .i64 ((i : Int) + 1)) → Below w.heap.size w w' → Q .normal ⟨xs, []⟩ w') : Code.wp Tryd.prog soonBody Q ⟨xs, []⟩ w := by
  have : i = 0 ∨ i = 1 ∨ i = 2 ∨ i = 3 ∨ i = 4 := by omega
  rcases this with rfl | rfl | rfl | rfl | rfl
  · exact soon_round hf h5 h6 hi hn hSB (hLB.cell (j := 0) rfl) soon0 hnext
  · exact soon_round hf h5 h6 hi hn hSB (hLB.cell (j := 1) rfl) soon1 hnext
  · exact soon_round hf h5 h6 hi hn hSB (hLB.cell (j := 2) rfl) soon2 hnext
  · exact soon_round hf h5 h6 hi hn hSB (hLB.cell (j := 3) rfl) soon3 hnext
  · exact soon_round hf h5 h6 hi hn hSB (hLB.cell (j := 4) rfl) soon4 hnext

set_option maxRecDepth 100000 in
set_option maxHeartbeats 4000000 in
theorem soon_all {N : Int} {w : World} {xs : Array Value} (hsz : xs.size = 115) (h0 : Sl xs 0 (.int .i64 N)) {Q : Exit → Act → World → Prop}
    (hQ : ∀ xs w', xs.size = 115 → Sl xs 2 (.bool true) → Below w.heap.size w w' → Q .ret ⟨xs, []⟩ w') : Code.wp Tryd.prog (Tryd.f3.body.getD .skip) Q ⟨xs, []⟩ w := by
  have HQ := Lib.hid hQ
  have H0 := Lib.hid h0
  have sz := hsz
  have HSZ := Lib.hid hsz
  clear hQ
  obtain ⟨n, hnn⟩ : ∃ n : Nat, n = (N.tmod 3000).natAbs := ⟨_, rfl⟩
  have hn : n < 3000 := by rw [hnn, Int.natAbs_tmod]; exact Nat.mod_lt _ (by decide)
  obtain ⟨LL, hLL⟩ : ∃ LL : List Value, LL = List.replicate n (.int .u8 0) := ⟨_, rfl⟩
  have hmk : ∀ W, (Instr.makeSlice 23 (.int .i64 (n : Int)) (.int .i64 (n : Int))).run Tryd.prog W = .ok (.slice (some ⟨W.heap.size, 0, none⟩) n n) (W.alloc (.cells LL.toArray 5)) := fun W => by
    have := run_make_row' 23 5 (.int .u8 0) 1 Tryd.underlying23 (by kernel_rfl) rfl .i64 .i64 n (by omega) (by omega) W
    have e : madeCells #[Value.int .u8 0] n = LL.toArray := by
      rw [hLL]; apply Array.toList_inj.1; rw [toList_madeCells_one]
    rw [e] at this
    exact this
  have HLL := Lib.hid hLL
  have hwn : IntKind.i64.wrap (n : Int) = (n : Int) := by rw [IntKind.wrap_i64]; omega
  unfold Sl at h0
  clear hLL
  by_cases hneg : N.tmod 3000 < 0
  · have hmod : N.tmod 3000 = -(n : Int) := by omega
    have hpos : 0 < n := by omega
    clear hnn hneg
    conv => arg 2; whnf
    repeat (first | go_skip | go_guarded | ((with_reducible refine wp_cond_true ?_ ?_); focus (simp [Act.eval, sz]; done)) | ((with_reducible refine wp_cond_false ?_ ?_); focus (simp [Act.eval, sz]; done)) | ((fail_if_success (with_reducible refine wp_cond_true ?_ ?_)); go_step) | go_upon)
    refine (wakes_met _).mono ?_
    rintro e w1 ⟨rfl, hb1⟩
    have HB1 := Lib.hid hb1
    clear hb1
    go_simp
    repeat (first | go_skip | go_guarded | ((with_reducible refine wp_cond_true ?_ ?_); focus (simp [Act.eval, sz]; done)) | ((with_reducible refine wp_cond_false ?_ ?_); focus (simp [Act.eval, sz]; done)) | ((fail_if_success (with_reducible refine wp_cond_true ?_ ?_)); go_step) | go_upon)
    refine wp_of_eq (c := Code.loop fillBody) (by kernel_rfl) ?_
    refine wp_loop_ghost (fun k a w' => ∃ (xs : Array Value) (i : Nat), a = ⟨xs, []⟩ ∧ Fs xs n w1.heap.size ∧ Sl xs 4 (.int .i64 (i : Int)) ∧ i ≤ n ∧ Blk w' w1.heap.size 5 (fillL i n) ∧ Below w1.heap.size w1 w' ∧ k = n - i) n
      ⟨_, 0, rfl, Fs.of (by simp [HSZ.out]) (by repeat (first | (with_reducible exact Sl.same _) | (with_reducible exact H0.out) | (with_reducible refine Sl.ne ?_ (by decide)))) (by repeat (first | (with_reducible exact Sl.same _) | (with_reducible exact H0.out) | (with_reducible refine Sl.ne ?_ (by decide)))), (show Sl _ 4 (.int .i64 0) from (by repeat (first | (with_reducible exact Sl.same _) | (with_reducible exact H0.out) | (with_reducible refine Sl.ne ?_ (by decide))))), Nat.zero_le _, (by rw [fillL_zero, ← HLL.out]; exact Blk.new w1 5 LL), (Below.refl _ _).alloc (Nat.le_refl _) _, rfl⟩ ?_
    rintro k a w' ⟨xs1, i, rfl, hf1, h41, hi1, hB1, hbl1, hk1⟩
    refine fill_round hf1 h41 hi1 (by omega) hB1 ?_ ?_
    · intro xs2 hf2 h42 hlt
      exact ⟨n - (i + 1), by omega, xs2, i + 1, rfl, hf2, by simpa using h42, hlt, by rw [← fillL_set hlt]; exact hB1.set i _, hbl1.setCell (p := ⟨w1.heap.size, i, none⟩) (Nat.le_refl _) _, rfl⟩
    · intro xs2 hf2 hin
      rw [hin, fillL_all] at hB1
      have HB := Lib.hid hB1
      have HBL := Lib.hid hbl1
      have HF := Lib.hid hf2
      have sz2 := hf2.sz
      have hzz := hbl1.size
      have hl1 := hB1.lt
      clear hB1 hbl1 hf1 h41 hmk HLL hin hi1 hk1
      obtain ⟨sz, g0, g3⟩ := hf2
      repeat (first | go_skip | go_guarded | ((with_reducible refine wp_cond_true ?_ ?_); focus (simp [Act.eval, sz]; done)) | ((with_reducible refine wp_cond_false ?_ ?_); focus (simp [Act.eval, sz]; done)) | ((fail_if_success (with_reducible refine wp_cond_true ?_ ?_)); go_step) | go_upon)
      refine wp_of_eq (c := Code.loop soonBody) (by kernel_rfl) ?_
      refine wp_loop_ghost (fun k a W => ∃ (xs : Array Value) (i : Nat), a = ⟨xs, []⟩ ∧ Fs xs n w1.heap.size ∧ Sl xs 5 (.slice (some ⟨w'.heap.size, 0, none⟩) 5 5) ∧ Sl xs 6 (.int .i64 (i : Int)) ∧ i ≤ 5 ∧ Blk W w1.heap.size 5 (List.replicate n (.int .u8 97)) ∧ Blk W w'.heap.size 9 [.string x0, .string x1, .string x2, .string x3, .string x4] ∧ Below w1.heap.size w1 W ∧ k = 5 - i) 5
        ⟨_, 0, rfl, (by repeat (first | (with_reducible exact HF.out) | (with_reducible refine Fs.set ?_ _ _ (by decide)))), (by repeat (first | (with_reducible exact Sl.same _) | (with_reducible exact HF.out) | (with_reducible refine Sl.ne ?_ (by decide)))), (show Sl _ 6 (.int .i64 0) from (by repeat (first | (with_reducible exact Sl.same _) | (with_reducible exact HF.out) | (with_reducible refine Sl.ne ?_ (by decide))))), by omega, HB.out.alloc _, Blk.new w' 9 [.string x0, .string x1, .string x2, .string x3, .string x4], HBL.out.alloc hzz _, rfl⟩ ?_
      rintro k a W ⟨xs3, i, rfl, hf3, h53, h63, hi3, hB3, hL3, hbl3, hk3⟩
      by_cases h5 : i < 5
      · refine soon_any hf3 h53 h63 h5 (by omega) hB3 hL3 ?_
        intro xs4 w4 hf4 h54 h64 hb4
        exact ⟨5 - (i + 1), by omega, xs4, i + 1, rfl, hf4, h54, by simpa using h64, h5, below_keeps' hb4 hB3, below_keeps' hb4 hL3, hbl3.trans (hb4.mono hbl3.size), rfl⟩
      · have hi5 : i = 5 := by omega
        subst hi5
        refine soon_out hf3 ⟨_, h53⟩ h63 ?_
        intro xs4 hf4
        have HF4 := Lib.hid hf4.sz
        have HB3 := Lib.hid hbl3
        have sz := hf4.sz
        clear hf3 h53 h63 hB3 hL3 hbl3 hf4
        repeat (first | go_skip | go_guarded | ((with_reducible refine wp_cond_true ?_ ?_); focus (simp [Act.eval, sz]; done)) | ((with_reducible refine wp_cond_false ?_ ?_); focus (simp [Act.eval, sz]; done)) | ((fail_if_success (with_reducible refine wp_cond_true ?_ ?_)); go_step) | go_upon)
        exact HQ.out _ _ (by simp [HF4.out]) (by repeat (first | (with_reducible exact Sl.same _) | (with_reducible exact H0.out) | (with_reducible refine Sl.ne ?_ (by decide)))) (HB1.out.trans (HB3.out.mono HB1.out.size))
  · have hmod : N.tmod 3000 = (n : Int) := by omega
    have hpos : ¬ (n : Int) < 0 := by omega
    clear hnn hneg
    conv => arg 2; whnf
    repeat (first | go_skip | go_guarded | ((with_reducible refine wp_cond_true ?_ ?_); focus (simp [Act.eval, sz]; done)) | ((with_reducible refine wp_cond_false ?_ ?_); focus (simp [Act.eval, sz]; done)) | ((fail_if_success (with_reducible refine wp_cond_true ?_ ?_)); go_step) | go_upon)
    refine (wakes_met _).mono ?_
    rintro e w1 ⟨rfl, hb1⟩
    have HB1 := Lib.hid hb1
    clear hb1
    go_simp
    repeat (first | go_skip | go_guarded | ((with_reducible refine wp_cond_true ?_ ?_); focus (simp [Act.eval, sz]; done)) | ((with_reducible refine wp_cond_false ?_ ?_); focus (simp [Act.eval, sz]; done)) | ((fail_if_success (with_reducible refine wp_cond_true ?_ ?_)); go_step) | go_upon)
    refine wp_of_eq (c := Code.loop fillBody) (by kernel_rfl) ?_
    refine wp_loop_ghost (fun k a w' => ∃ (xs : Array Value) (i : Nat), a = ⟨xs, []⟩ ∧ Fs xs n w1.heap.size ∧ Sl xs 4 (.int .i64 (i : Int)) ∧ i ≤ n ∧ Blk w' w1.heap.size 5 (fillL i n) ∧ Below w1.heap.size w1 w' ∧ k = n - i) n
      ⟨_, 0, rfl, Fs.of (by simp [HSZ.out]) (by repeat (first | (with_reducible exact Sl.same _) | (with_reducible exact H0.out) | (with_reducible refine Sl.ne ?_ (by decide)))) (by repeat (first | (with_reducible exact Sl.same _) | (with_reducible exact H0.out) | (with_reducible refine Sl.ne ?_ (by decide)))), (show Sl _ 4 (.int .i64 0) from (by repeat (first | (with_reducible exact Sl.same _) | (with_reducible exact H0.out) | (with_reducible refine Sl.ne ?_ (by decide))))), Nat.zero_le _, (by rw [fillL_zero, ← HLL.out]; exact Blk.new w1 5 LL), (Below.refl _ _).alloc (Nat.le_refl _) _, rfl⟩ ?_
    rintro k a w' ⟨xs1, i, rfl, hf1, h41, hi1, hB1, hbl1, hk1⟩
    refine fill_round hf1 h41 hi1 (by omega) hB1 ?_ ?_
    · intro xs2 hf2 h42 hlt
      exact ⟨n - (i + 1), by omega, xs2, i + 1, rfl, hf2, by simpa using h42, hlt, by rw [← fillL_set hlt]; exact hB1.set i _, hbl1.setCell (p := ⟨w1.heap.size, i, none⟩) (Nat.le_refl _) _, rfl⟩
    · intro xs2 hf2 hin
      rw [hin, fillL_all] at hB1
      have HB := Lib.hid hB1
      have HBL := Lib.hid hbl1
      have HF := Lib.hid hf2
      have sz2 := hf2.sz
      have hzz := hbl1.size
      have hl1 := hB1.lt
      clear hB1 hbl1 hf1 h41 hmk HLL hin hi1 hk1
      obtain ⟨sz, g0, g3⟩ := hf2
      repeat (first | go_skip | go_guarded | ((with_reducible refine wp_cond_true ?_ ?_); focus (simp [Act.eval, sz]; done)) | ((with_reducible refine wp_cond_false ?_ ?_); focus (simp [Act.eval, sz]; done)) | ((fail_if_success (with_reducible refine wp_cond_true ?_ ?_)); go_step) | go_upon)
      refine wp_of_eq (c := Code.loop soonBody) (by kernel_rfl) ?_
      refine wp_loop_ghost (fun k a W => ∃ (xs : Array Value) (i : Nat), a = ⟨xs, []⟩ ∧ Fs xs n w1.heap.size ∧ Sl xs 5 (.slice (some ⟨w'.heap.size, 0, none⟩) 5 5) ∧ Sl xs 6 (.int .i64 (i : Int)) ∧ i ≤ 5 ∧ Blk W w1.heap.size 5 (List.replicate n (.int .u8 97)) ∧ Blk W w'.heap.size 9 [.string x0, .string x1, .string x2, .string x3, .string x4] ∧ Below w1.heap.size w1 W ∧ k = 5 - i) 5
        ⟨_, 0, rfl, (by repeat (first | (with_reducible exact HF.out) | (with_reducible refine Fs.set ?_ _ _ (by decide)))), (by repeat (first | (with_reducible exact Sl.same _) | (with_reducible exact HF.out) | (with_reducible refine Sl.ne ?_ (by decide)))), (show Sl _ 6 (.int .i64 0) from (by repeat (first | (with_reducible exact Sl.same _) | (with_reducible exact HF.out) | (with_reducible refine Sl.ne ?_ (by decide))))), by omega, HB.out.alloc _, Blk.new w' 9 [.string x0, .string x1, .string x2, .string x3, .string x4], HBL.out.alloc hzz _, rfl⟩ ?_
      rintro k a W ⟨xs3, i, rfl, hf3, h53, h63, hi3, hB3, hL3, hbl3, hk3⟩
      by_cases h5 : i < 5
      · refine soon_any hf3 h53 h63 h5 (by omega) hB3 hL3 ?_
        intro xs4 w4 hf4 h54 h64 hb4
        exact ⟨5 - (i + 1), by omega, xs4, i + 1, rfl, hf4, h54, by simpa using h64, h5, below_keeps' hb4 hB3, below_keeps' hb4 hL3, hbl3.trans (hb4.mono hbl3.size), rfl⟩
      · have hi5 : i = 5 := by omega
        subst hi5
        refine soon_out hf3 ⟨_, h53⟩ h63 ?_
        intro xs4 hf4
        have HF4 := Lib.hid hf4.sz
        have HB3 := Lib.hid hbl3
        have sz := hf4.sz
        clear hf3 h53 h63 hB3 hL3 hbl3 hf4
        repeat (first | go_skip | go_guarded | ((with_reducible refine wp_cond_true ?_ ?_); focus (simp [Act.eval, sz]; done)) | ((with_reducible refine wp_cond_false ?_ ?_); focus (simp [Act.eval, sz]; done)) | ((fail_if_success (with_reducible refine wp_cond_true ?_ ?_)); go_step) | go_upon)
        exact HQ.out _ _ (by simp [HF4.out]) (by repeat (first | (with_reducible exact Sl.same _) | (with_reducible exact H0.out) | (with_reducible refine Sl.ne ?_ (by decide)))) (HB1.out.trans (HB3.out.mono HB1.out.size))

theorem soon_met (N : Int) (w : World) : Calls Tryd.prog 3 #[.int .i64 N] w fun e w' => e = .returned (.bool true) ∧ Below w.heap.size w w' := by
  go_enter Tryd.func3, Tryd.ntmps3
  refine wp_of_eq (c := Tryd.f3.body.getD .skip) (by kernel_rfl) ?_
  refine soon_all (N := N) (by simp) (fun _ => by simp) ?_
  intro xs w' sz h2 hb
  have h := h2 (by rw [sz]; decide)
  have hs : 2 < xs.size := by rw [sz]; decide
  exact bodyPost_ret (v := .bool true) ((results_tmp (t := 2) rfl _ _ _).trans (by simp [h, hs])) rfl ⟨rfl, hb⟩

end Go.Proofs.YtlanodchnjojoaaDoor
