/- The law PatternRange, from its beginning to its end. -/
import Derived.Test.YtlanodchnjojoaaDoorRr
namespace Go.Proofs.YtlanodchnjojoaaDoor
open Go.RowKit

def fstC : Code → Code
  | .seq a _ => a
  | c => c
noncomputable def bodyR : Code := Tryd.f4.body.getD .skip
noncomputable def r0C : Code := fstC bodyR
noncomputable def wkC : Code := fstC (sndC bodyR)
noncomputable def lnC : Code := fstC (sndC (sndC bodyR))
noncomputable def clC : Code := fstC (sndC (sndC (sndC bodyR)))

set_option maxRecDepth 100000 in
set_option maxHeartbeats 2000000 in
theorem r0_met {s : ByteArray} {r : Int} {w : World} {xs : Array Value} (hsz : xs.size = 161) (h0 : Sl xs 0 (.string s)) (h1 : Sl xs 1 (.int .i32 r)) {Q : Exit → Act → World → Prop}
    (hQ : ∀ xs', Fg xs' w.heap.size → Q .normal ⟨xs', []⟩ (((w.alloc (.cells #[.string s] 9)).alloc (.cells #[.int .i32 r] 21)).alloc (.cells #[.bool false] 4))) : Code.wp Tryd.prog r0C Q ⟨xs, []⟩ w := by
  have HQ := Lib.hid hQ
  have H0 := Lib.hid h0
  have sz := hsz
  have HSZ := Lib.hid hsz
  unfold Sl at h0 h1
  clear hQ
  conv => arg 2; whnf
  repeat (first | go_skip | go_guarded | ((with_reducible refine wp_cond_true ?_ ?_); focus (simp [Act.eval, sz]; done)) | ((with_reducible refine wp_cond_false ?_ ?_); focus (simp [Act.eval, sz]; done)) | ((fail_if_success (with_reducible refine wp_cond_true ?_ ?_)); go_step) | go_upon)
  exact HQ.out _ (Fg.of (by simp [HSZ.out]) (by repeat (first | (with_reducible exact Sl.same _) | (with_reducible exact H0.out) | (with_reducible refine Sl.ne ?_ (by decide)))) (by repeat (first | (with_reducible exact Sl.same _) | (with_reducible exact H0.out) | (with_reducible refine Sl.ne ?_ (by decide)))) (by repeat (first | (with_reducible exact Sl.same _) | (with_reducible exact H0.out) | (with_reducible refine Sl.ne ?_ (by decide)))))

set_option maxRecDepth 100000 in
set_option maxHeartbeats 2000000 in
theorem wk_met {b0 : Nat} {w : World} {xs : Array Value} (hf : Fg xs b0) {Q : Exit → Act → World → Prop} (hQ : ∀ xs' w', Fg xs' b0 → Below w.heap.size w w' → Q .normal ⟨xs', []⟩ w') : Code.wp Tryd.prog wkC Q ⟨xs, []⟩ w := by
  have HQ := Lib.hid hQ
  have HF := Lib.hid hf
  obtain ⟨sz, g2, g3, g4⟩ := hf
  clear hQ
  conv => arg 2; whnf
  repeat (first | go_skip | go_guarded | ((with_reducible refine wp_cond_true ?_ ?_); focus (simp [Act.eval, sz]; done)) | ((with_reducible refine wp_cond_false ?_ ?_); focus (simp [Act.eval, sz]; done)) | ((fail_if_success (with_reducible refine wp_cond_true ?_ ?_)); go_step) | go_upon)
  refine (wakes_met _).mono ?_
  rintro e w1 ⟨rfl, hb1⟩
  have HB1 := Lib.hid hb1
  clear hb1
  go_simp
  repeat (first | go_skip | go_guarded | ((with_reducible refine wp_cond_true ?_ ?_); focus (simp [Act.eval, sz]; done)) | ((with_reducible refine wp_cond_false ?_ ?_); focus (simp [Act.eval, sz]; done)) | ((fail_if_success (with_reducible refine wp_cond_true ?_ ?_)); go_step) | go_upon)
  exact HQ.out _ _ (by repeat (first | (with_reducible exact HF.out) | (with_reducible refine Fg.set ?_ _ _ (by decide)))) HB1.out

set_option maxRecDepth 100000 in
set_option maxHeartbeats 2000000 in
theorem ln_met {b0 : Nat} {s : ByteArray} {w : World} {xs : Array Value} (hf : Fg xs b0) (B0 : Blk w b0 9 [.string s]) (B2 : Blk w (b0 + 2) 4 [.bool false]) {Q : Exit → Act → World → Prop} (hQ0 : ∀ xs', Fg xs' b0 → Q .ret ⟨xs', []⟩ (w.setCell ⟨b0 + 2, 0, none⟩ (.bool true)))
    (hQ1 : s.size ≤ 3000 → ∀ xs', Fg xs' b0 → Q .normal ⟨xs', []⟩ w) : Code.wp Tryd.prog lnC Q ⟨xs, []⟩ w := by
  have HQ0 := Lib.hid hQ0
  have HQ1 := Lib.hid hQ1
  have HF := Lib.hid hf
  obtain ⟨sz, g2, g3, g4⟩ := hf
  have c0 := B0.cell (j := 0) rfl
  have c2 := B2.cell (j := 0) rfl
  have u2 := B2.frozen 0
  clear hQ0 hQ1 B0 B2
  by_cases hs : 3000 < s.size
  · have hsI : (3000 : Int) < (s.size : Int) := by omega
    conv => arg 2; whnf
    repeat (first | go_skip | go_guarded | ((with_reducible refine wp_cond_true ?_ ?_); focus (simp [Act.eval, sz]; done)) | ((with_reducible refine wp_cond_false ?_ ?_); focus (simp [Act.eval, sz]; done)) | ((fail_if_success (with_reducible refine wp_cond_true ?_ ?_)); go_step) | go_upon)
    exact HQ0.out _ (by repeat (first | (with_reducible exact HF.out) | (with_reducible refine Fg.set ?_ _ _ (by decide))))
  · have hsI : ¬ (3000 : Int) < (s.size : Int) := by omega
    conv => arg 2; whnf
    repeat (first | go_skip | go_guarded | ((with_reducible refine wp_cond_true ?_ ?_); focus (simp [Act.eval, sz]; done)) | ((with_reducible refine wp_cond_false ?_ ?_); focus (simp [Act.eval, sz]; done)) | ((fail_if_success (with_reducible refine wp_cond_true ?_ ?_)); go_step) | go_upon)
    exact HQ1.out (by omega) _ (by repeat (first | (with_reducible exact HF.out) | (with_reducible refine Fg.set ?_ _ _ (by decide))))

set_option maxRecDepth 100000 in
set_option maxHeartbeats 8000000 in
theorem cl_met {b0 : Nat} {r : Int} {w : World} {xs : Array Value} (hf : Fg xs b0) (B1 : Blk w (b0 + 1) 21 [.int .i32 r]) {Q : Exit → Act → World → Prop}
    (hQ : ∀ xs' w' R, Fg xs' b0 → okR R → Blk w' (b0 + 1) 21 [.int .i32 (R : Int)] → Turn (fun b => b = b0 + 1) w w' → Q .normal ⟨xs', []⟩ w') : Code.wp Tryd.prog clC Q ⟨xs, []⟩ w := by
  have HQ := Lib.hid hQ
  have HF := Lib.hid hf
  obtain ⟨sz, g2, g3, g4⟩ := hf
  have c1 := B1.cell (j := 0) rfl
  have u1 := B1.frozen 0
  have HB := Lib.hid B1
  clear hQ B1
  by_cases h1 : r < 0
  · conv => arg 2; whnf
    repeat (first | (focus (rename_i hA hB; cases hA; done)) | go_skip | go_guarded | ((with_reducible refine wp_cond_true ?_ ?_); focus (simp [Act.eval, sz]; done)) | ((with_reducible refine wp_cond_false ?_ ?_); focus (simp [Act.eval, sz]; done)) | ((fail_if_success (with_reducible refine wp_cond_true ?_ ?_)); go_step) | go_upon)
    exact HQ.out _ _ 65533 (by repeat (first | (with_reducible exact HF.out) | (with_reducible refine Fg.set ?_ _ _ (by decide)))) ⟨by decide, by decide⟩ (HB.out.set 0 _) (Turn.set (S := fun b => b = b0 + 1) (Turn.refl _ w) (p := ⟨b0 + 1, 0, none⟩) rfl _)
  · by_cases h2 : 55296 ≤ r
    · by_cases h3 : r < 57344
      · conv => arg 2; whnf
        repeat (first | (focus (rename_i hA hB; cases hA; done)) | go_skip | go_guarded | ((with_reducible refine wp_cond_true ?_ ?_); focus (simp [Act.eval, sz]; done)) | ((with_reducible refine wp_cond_false ?_ ?_); focus (simp [Act.eval, sz]; done)) | ((fail_if_success (with_reducible refine wp_cond_true ?_ ?_)); go_step) | go_upon)
        exact HQ.out _ _ 65533 (by repeat (first | (with_reducible exact HF.out) | (with_reducible refine Fg.set ?_ _ _ (by decide)))) ⟨by decide, by decide⟩ (HB.out.set 0 _) (Turn.set (S := fun b => b = b0 + 1) (Turn.refl _ w) (p := ⟨b0 + 1, 0, none⟩) rfl _)
      · by_cases h4 : 1114111 < r
        · conv => arg 2; whnf
          repeat (first | (focus (rename_i hA hB; cases hA; done)) | go_skip | go_guarded | ((with_reducible refine wp_cond_true ?_ ?_); focus (simp [Act.eval, sz]; done)) | ((with_reducible refine wp_cond_false ?_ ?_); focus (simp [Act.eval, sz]; done)) | ((fail_if_success (with_reducible refine wp_cond_true ?_ ?_)); go_step) | go_upon)
          exact HQ.out _ _ 65533 (by repeat (first | (with_reducible exact HF.out) | (with_reducible refine Fg.set ?_ _ _ (by decide)))) ⟨by decide, by decide⟩ (HB.out.set 0 _) (Turn.set (S := fun b => b = b0 + 1) (Turn.refl _ w) (p := ⟨b0 + 1, 0, none⟩) rfl _)
        · obtain ⟨R, hR⟩ : ∃ R : Nat, r = (R : Int) := ⟨r.toNat, by omega⟩
          have HRR := Lib.hid hR
          have HOK := Lib.hid (show okR R from ⟨by omega, by omega⟩)
          clear hR
          conv => arg 2; whnf
          repeat (first | (focus (rename_i hA hB; cases hA; done)) | go_skip | go_guarded | ((with_reducible refine wp_cond_true ?_ ?_); focus (simp [Act.eval, sz]; done)) | ((with_reducible refine wp_cond_false ?_ ?_); focus (simp [Act.eval, sz]; done)) | ((fail_if_success (with_reducible refine wp_cond_true ?_ ?_)); go_step) | go_upon)
          exact HQ.out _ _ R (by repeat (first | (with_reducible exact HF.out) | (with_reducible refine Fg.set ?_ _ _ (by decide)))) HOK.out (by have := HB.out; rw [HRR.out] at this; exact this) (Turn.refl _ w)
    · have h4 : ¬ 1114111 < r := by omega
      obtain ⟨R, hR⟩ : ∃ R : Nat, r = (R : Int) := ⟨r.toNat, by omega⟩
      have HRR := Lib.hid hR
      have HOK := Lib.hid (show okR R from ⟨by omega, by omega⟩)
      clear hR
      conv => arg 2; whnf
      repeat (first | (focus (rename_i hA hB; cases hA; done)) | go_skip | go_guarded | ((with_reducible refine wp_cond_true ?_ ?_); focus (simp [Act.eval, sz]; done)) | ((with_reducible refine wp_cond_false ?_ ?_); focus (simp [Act.eval, sz]; done)) | ((fail_if_success (with_reducible refine wp_cond_true ?_ ?_)); go_step) | go_upon)
      exact HQ.out _ _ R (by repeat (first | (with_reducible exact HF.out) | (with_reducible refine Fg.set ?_ _ _ (by decide)))) HOK.out (by have := HB.out; rw [HRR.out] at this; exact this) (Turn.refl _ w)

theorem range_all {s : ByteArray} {r : Int} {w : World} {xs : Array Value} (hsz : xs.size = 161) (h0 : Sl xs 0 (.string s)) (h1 : Sl xs 1 (.int .i32 r)) {Q : Exit → Act → World → Prop}
    (hQ0 : ∀ xs w', Fg xs w.heap.size → Blk w' (w.heap.size + 2) 4 [.bool true] → Below w.heap.size w w' → Q .ret ⟨xs, []⟩ w')
    (hQ1 : ∀ xs D w', Fg xs w.heap.size → Blk w' (w.heap.size + 2) 4 [.bool true] → Below w.heap.size w w' → w'.heap[D]? = some (.deferred (some [])) → w.heap.size + 2 < D → Q .ret ⟨xs, [{ target := .collected D, args := #[] }]⟩ w') :
    Code.wp Tryd.prog bodyR Q ⟨xs, []⟩ w := by
  refine wp_of_eq (c := .seq r0C (.seq wkC (.seq lnC (.seq clC restC)))) (by kernel_rfl) ?_
  apply wp_seq_k
  intro K1 hK1
  refine r0_met hsz h0 h1 fun xs1 hf1 => hK1 _ _ ?_
  have A0 := ((Blk.new w 9 [.string s]).alloc (.cells #[.int .i32 r] 21)).alloc (.cells #[.bool false] 4)
  have A1 := (Blk.newAt (w := w.alloc (.cells #[.string s] 9)) (b := w.heap.size + 1) (by simp) 21 [.int .i32 r]).alloc (.cells #[.bool false] 4)
  have A2 := Blk.newAt (w := (w.alloc (.cells #[.string s] 9)).alloc (.cells #[.int .i32 r] 21)) (b := w.heap.size + 2) (by simp) 4 [.bool false]
  have AB : Below w.heap.size w (((w.alloc (.cells #[.string s] 9)).alloc (.cells #[.int .i32 r] 21)).alloc (.cells #[.bool false] 4)) := (((Below.refl _ w).alloc (Nat.le_refl _) _).alloc (by simp) _).alloc (by simp; omega) _
  have Az : (((w.alloc (.cells #[.string s] 9)).alloc (.cells #[.int .i32 r] 21)).alloc (.cells #[.bool false] 4)).heap.size = w.heap.size + 3 := by simp
  generalize (((w.alloc (.cells #[.string s] 9)).alloc (.cells #[.int .i32 r] 21)).alloc (.cells #[.bool false] 4)) = wA at *
  apply wp_seq_k
  intro K2 hK2
  refine wk_met hf1 fun xs2 w2 hf2 hb2 => hK2 _ _ ?_
  have B0 := below_keeps' hb2 A0
  have B1 := below_keeps' hb2 A1
  have B2 := below_keeps' hb2 A2
  have BB : Below w.heap.size w w2 := AB.trans (hb2.mono (by omega))
  apply wp_seq_k
  intro K3 hK3
  refine ln_met hf2 B0 B2 (fun xs3 hf3 => ?_) fun hs xs3 hf3 => hK3 _ _ ?_
  · exact hQ0 _ _ hf3 (B2.set 0 _) (BB.setCell (p := ⟨w.heap.size + 2, 0, none⟩) (Nat.le_add_right _ _) _)
  · apply wp_seq_k
    intro K4 hK4
    refine cl_met hf3 B1 fun xs4 w4 R hf4 hR B1' hT => hK4 _ _ ?_
    exact range_rest hf4 hR hs rfl (hT.keep B0 (by omega)) B1' (hT.keep B2 (by omega)) (BB.trans (turn_below hT BB.size fun b h => by omega)) hQ1

set_option maxRecDepth 100000 in
theorem results_R {xs : Array Value} {W : World} {b0 : Nat} (hf : Fg xs b0) (hc : W.cell? ⟨b0 + 2, 0, none⟩ = some (.bool true)) : (results Tryd.f4 xs).run Tryd.prog W = .ok (.bool true) W := by
  have e4 := hf.h4 (by rw [hf.sz]; decide)
  have sz := hf.sz
  simp only [results, show Tryd.f4.results = #[.cell 4 4] from rfl]
  go_simp

set_option maxRecDepth 100000 in
theorem range_met (s : ByteArray) (r : Int) (w : World) : Calls Tryd.prog 4 #[.string s, .int .i32 r] w fun e w' => e = .returned (.bool true) ∧ Below w.heap.size w w' := by
  refine (callsIn_wide (n := 4)).1 ?_
  refine callsIn_of_wp_marks Tryd.func4 rfl trivial ?_ rfl
  simp only [Tryd.ntmps4, List.size_toArray, List.length_cons, List.length_nil, Nat.reduceAdd, Nat.reduceSub, Array.replicate_succ, Array.replicate_zero, List.push_toArray, List.append_toArray, List.nil_append, List.cons_append]
  refine wpIn_wide.2 ?_
  refine wp_of_eq (c := bodyR) (by kernel_rfl) ?_
  refine range_all (s := s) (r := r) (by simp) (fun _ => by simp) (fun _ => by simp) ?_ ?_
  · intro xs w' hf hB hw
    exact ⟨.bool true, results_R hf (hB.cell rfl), rfl, hw⟩
  · intro xs D w' hf hB hw hdef hD
    refine ⟨by simp, .inl ⟨_, _, rfl, run_takeDeferred hdef, ?_⟩⟩
    have hc : (w'.putObj D (.deferred none)).cell? ⟨w.heap.size + 2, 0, none⟩ = some (.bool true) := by
      rw [← hB.cell (j := 0) (v := .bool true) rfl]
      simp only [World.cell?, World.putObj_heap_other (show w.heap.size + 2 ≠ D by omega)]
    exact ⟨.bool true, results_R hf hc, rfl, hw.trans (put_below w' (by omega) hw.size _)⟩

end Go.Proofs.YtlanodchnjojoaaDoor
