/- The method at of a matcher, the whole of it. -/
import Derived.Test.YtlanodchnjojoaaDoorAt5
import Derived.Test.YtlanodchnjojoaaDoorCl
namespace Go.Proofs.YtlanodchnjojoaaDoor
open Go.RowKit


theorem made_ints (n : Nat) : madeCells #[Value.int .i64 0] n = (i64s (List.replicate n 0)).toArray := by
  apply Array.ext'
  rw [toList_madeCells_one]; simp [i64s]
theorem made_nats (n : Nat) : madeCells #[Value.int .i64 0] n = (natVals (List.replicate n 0)).toArray := by
  apply Array.ext'
  rw [toList_madeCells_one]; simp [natVals]
theorem made_spans (n : Nat) : madeCells #[Value.int .i64 0, Value.int .i64 0] (n * 2) = (i64s (List.replicate (2 * n) 0)).toArray := by
  apply Array.ext'
  simp only [madeCells, i64s]
  apply List.ext_getElem
  · simp; omega
  · intro i h1 h2
    rcases Nat.mod_two_eq_zero_or_one i with h | h <;> simp [h]

/-- What the method may come to. -/
structure AtFin (Q : Exit → Act → World → Prop) (G : Geo) (X : Cx) : Prop where
  none : ∀ xs w, Fr xs G.mb → Sl xs 6 (.int .i64 (-1)) → OutD G X w → Q .ret ⟨xs, []⟩ w
  pan : ∀ c a (d : Option Tmp) v w, Q (.panic c) (a.put d v) w → Q (.panic c) a w
  ret : ∀ xs w k, Fr xs G.mb → Sl xs 6 (.int .i64 ((k : Nat) : Int)) → Got G X k w → Q .ret ⟨xs, []⟩ w

set_option maxRecDepth 100000 in
set_option maxHeartbeats 2000000 in
theorem at_body {w : World} {G : Geo} {D : Dyn} {bit : Nat → Nat → Bool} (h : Mat0 w G D bit) {xs : Array Value} {k0 k : Nat} (hk : k ≤ G.ps.length) (hclo : Clo G.C G.ps (visOf G.C bit) k0 fun _ => False) (hf : Fr xs G.mb) (h1 : Sl xs 1 (.int .i64 (k : Int))) {Q : Exit → Act → World → Prop} (hQ : AtFin Q G (G.cx k0 k)) :
    Code.wp Tryd.prog (Tryd.f26.body.getD .skip) Q ⟨xs, []⟩ w := by
  have hp1 := h.pat.c1
  have hp4 := h.pat.c4
  obtain ⟨v4, v5, v6, hm⟩ := h.m
  have hm0 := hm.cell (j := 0) (v := .pointer (some ⟨G.pb, 0, none⟩)) rfl
  have hB := h.Bsize
  have b1 := hm.alloc (Obj.cells (i64s (List.replicate (2 * G.ng) 0)).toArray 32)
  have b2 := b1.set 4 (.slice (some ⟨w.heap.size, 0, none⟩) G.ng G.ng)
  have b3 := b2.alloc (Obj.cells (i64s (List.replicate G.ng 0)).toArray 3)
  have b4 := b3.set 5 (.slice (some ⟨w.heap.size + 1, 0, none⟩) G.ng G.ng)
  have b5 := b4.alloc (Obj.cells (natVals (List.replicate G.nl 0)).toArray 3)
  have kA : Below G.B w ((w.alloc (Obj.cells (i64s (List.replicate (2 * G.ng) 0)).toArray 32)).setCell ⟨G.mb, 4, none⟩ (.slice (some ⟨w.heap.size, 0, none⟩) G.ng G.ng)) := ((Below.refl _ _).alloc hB _).setCell (p := ⟨G.mb, 4, none⟩) h.lm _
  have kB : Below G.B w ((((w.alloc (Obj.cells (i64s (List.replicate (2 * G.ng) 0)).toArray 32)).setCell ⟨G.mb, 4, none⟩ (.slice (some ⟨w.heap.size, 0, none⟩) G.ng G.ng)).alloc (Obj.cells (i64s (List.replicate G.ng 0)).toArray 3)).setCell ⟨G.mb, 5, none⟩ (.slice (some ⟨w.heap.size + 1, 0, none⟩) G.ng G.ng)) := (kA.alloc (by simp [World.setCell]; omega) _).setCell (p := ⟨G.mb, 5, none⟩) h.lm _
  have q4 : (w.alloc (Obj.cells (i64s (List.replicate (2 * G.ng) 0)).toArray 32)).cell? ⟨G.mb, 4, none⟩ = some v4 := b1.cell rfl
  have r4 : (w.alloc (Obj.cells (i64s (List.replicate (2 * G.ng) 0)).toArray 32)).frozen? ⟨G.mb, 4, none⟩ = false := b1.frozen 4
  have q0 : ((w.alloc (Obj.cells (i64s (List.replicate (2 * G.ng) 0)).toArray 32)).setCell ⟨G.mb, 4, none⟩ (.slice (some ⟨w.heap.size, 0, none⟩) G.ng G.ng)).cell? ⟨G.mb, 0, none⟩ = some (.pointer (some ⟨G.pb, 0, none⟩)) := b2.cell rfl
  have q1 : ((w.alloc (Obj.cells (i64s (List.replicate (2 * G.ng) 0)).toArray 32)).setCell ⟨G.mb, 4, none⟩ (.slice (some ⟨w.heap.size, 0, none⟩) G.ng G.ng)).cell? ⟨G.pb, 1, none⟩ = some (.int .i64 G.ng) := (kA.cell (p := ⟨G.pb, 1, none⟩) h.pat.pbB).trans hp1
  have q5 : (((w.alloc (Obj.cells (i64s (List.replicate (2 * G.ng) 0)).toArray 32)).setCell ⟨G.mb, 4, none⟩ (.slice (some ⟨w.heap.size, 0, none⟩) G.ng G.ng)).alloc (Obj.cells (i64s (List.replicate G.ng 0)).toArray 3)).cell? ⟨G.mb, 5, none⟩ = some v5 := b3.cell rfl
  have r5 : (((w.alloc (Obj.cells (i64s (List.replicate (2 * G.ng) 0)).toArray 32)).setCell ⟨G.mb, 4, none⟩ (.slice (some ⟨w.heap.size, 0, none⟩) G.ng G.ng)).alloc (Obj.cells (i64s (List.replicate G.ng 0)).toArray 3)).frozen? ⟨G.mb, 5, none⟩ = false := b3.frozen 5
  have q02 : ((((w.alloc (Obj.cells (i64s (List.replicate (2 * G.ng) 0)).toArray 32)).setCell ⟨G.mb, 4, none⟩ (.slice (some ⟨w.heap.size, 0, none⟩) G.ng G.ng)).alloc (Obj.cells (i64s (List.replicate G.ng 0)).toArray 3)).setCell ⟨G.mb, 5, none⟩ (.slice (some ⟨w.heap.size + 1, 0, none⟩) G.ng G.ng)).cell? ⟨G.mb, 0, none⟩ = some (.pointer (some ⟨G.pb, 0, none⟩)) := b4.cell rfl
  have q41 : ((((w.alloc (Obj.cells (i64s (List.replicate (2 * G.ng) 0)).toArray 32)).setCell ⟨G.mb, 4, none⟩ (.slice (some ⟨w.heap.size, 0, none⟩) G.ng G.ng)).alloc (Obj.cells (i64s (List.replicate G.ng 0)).toArray 3)).setCell ⟨G.mb, 5, none⟩ (.slice (some ⟨w.heap.size + 1, 0, none⟩) G.ng G.ng)).cell? ⟨G.pb, 4, none⟩ = some (.int .i64 G.nl) := (kB.cell (p := ⟨G.pb, 4, none⟩) h.pat.pbB).trans hp4
  have q6 : (((((w.alloc (Obj.cells (i64s (List.replicate (2 * G.ng) 0)).toArray 32)).setCell ⟨G.mb, 4, none⟩ (.slice (some ⟨w.heap.size, 0, none⟩) G.ng G.ng)).alloc (Obj.cells (i64s (List.replicate G.ng 0)).toArray 3)).setCell ⟨G.mb, 5, none⟩ (.slice (some ⟨w.heap.size + 1, 0, none⟩) G.ng G.ng)).alloc (Obj.cells (natVals (List.replicate G.nl 0)).toArray 3)).cell? ⟨G.mb, 6, none⟩ = some v6 := b5.cell rfl
  have r6 : (((((w.alloc (Obj.cells (i64s (List.replicate (2 * G.ng) 0)).toArray 32)).setCell ⟨G.mb, 4, none⟩ (.slice (some ⟨w.heap.size, 0, none⟩) G.ng G.ng)).alloc (Obj.cells (i64s (List.replicate G.ng 0)).toArray 3)).setCell ⟨G.mb, 5, none⟩ (.slice (some ⟨w.heap.size + 1, 0, none⟩) G.ng G.ng)).alloc (Obj.cells (natVals (List.replicate G.nl 0)).toArray 3)).frozen? ⟨G.mb, 6, none⟩ = false := b5.frozen 6
  have hz1 : ((w.alloc (Obj.cells (i64s (List.replicate (2 * G.ng) 0)).toArray 32)).setCell ⟨G.mb, 4, none⟩ (.slice (some ⟨w.heap.size, 0, none⟩) G.ng G.ng)).heap.size = w.heap.size + 1 := by simp [World.setCell]
  have hz2 : ((((w.alloc (Obj.cells (i64s (List.replicate (2 * G.ng) 0)).toArray 32)).setCell ⟨G.mb, 4, none⟩ (.slice (some ⟨w.heap.size, 0, none⟩) G.ng G.ng)).alloc (Obj.cells (i64s (List.replicate G.ng 0)).toArray 3)).setCell ⟨G.mb, 5, none⟩ (.slice (some ⟨w.heap.size + 1, 0, none⟩) G.ng G.ng)).heap.size = w.heap.size + 2 := by simp [World.setCell]
  obtain ⟨D1, d1, d2, hM⟩ := h.start rfl
  have m4 : ((((((w.alloc (Obj.cells (i64s (List.replicate (2 * G.ng) 0)).toArray 32)).setCell ⟨G.mb, 4, none⟩ (.slice (some ⟨w.heap.size, 0, none⟩) G.ng G.ng)).alloc (Obj.cells (i64s (List.replicate G.ng 0)).toArray 3)).setCell ⟨G.mb, 5, none⟩ (.slice (some ⟨w.heap.size + 1, 0, none⟩) G.ng G.ng)).alloc (Obj.cells (natVals (List.replicate G.nl 0)).toArray 3)).setCell ⟨G.mb, 6, none⟩ (.slice (some ⟨w.heap.size + 2, 0, none⟩) G.nl G.nl)).cell? ⟨G.mb, 4, none⟩ = some (.slice (some ⟨D1.sb, 0, none⟩) G.ng G.ng) := hM.m.cell rfl
  have hsb : D1.sb = w.heap.size := by
    have e := (b5.set 6 (.slice (some ⟨w.heap.size + 2, 0, none⟩) G.nl G.nl)).cell (j := 4) (v := .slice (some ⟨w.heap.size, 0, none⟩) G.ng G.ng) rfl
    rw [m4] at e
    simpa using e
  have m4' : ((((((w.alloc (Obj.cells (i64s (List.replicate (2 * G.ng) 0)).toArray 32)).setCell ⟨G.mb, 4, none⟩ (.slice (some ⟨w.heap.size, 0, none⟩) G.ng G.ng)).alloc (Obj.cells (i64s (List.replicate G.ng 0)).toArray 3)).setCell ⟨G.mb, 5, none⟩ (.slice (some ⟨w.heap.size + 1, 0, none⟩) G.ng G.ng)).alloc (Obj.cells (natVals (List.replicate G.nl 0)).toArray 3)).setCell ⟨G.mb, 6, none⟩ (.slice (some ⟨w.heap.size + 2, 0, none⟩) G.nl G.nl)).cell? ⟨G.mb, 4, none⟩ = some (.slice (some ⟨w.heap.size, 0, none⟩) G.ng G.ng) := by rw [m4, hsb]
  have HM := Lib.hid hM
  have HD1 := Lib.hid d1
  have HD2 := Lib.hid d2
  have HSB := Lib.hid hsb
  clear hM d1 d2 m4 hsb
  clear kA kB b1 b2 b3 b4 b5
  have hsm := h.wf.small
  have hmk1 : ∀ W : World, (Instr.makeSlice 33 (.int .i64 (G.ng : Int)) (.int .i64 (G.ng : Int))).run Tryd.prog W = .ok (.slice (some ⟨W.heap.size, 0, none⟩) G.ng G.ng) (W.alloc (.cells (i64s (List.replicate (2 * G.ng) 0)).toArray 32)) := fun W => by
    obtain ⟨i0, hi, hz0, hz1, hz2⟩ := info_parts Tryd.infoSpan
    have := run_make_rowN (P := Tryd.prog) 33 32 i0 (.agg #[.int .i64 0, .int .i64 0]) Tryd.underlying33 hi hz0 .i64 .i64 G.ng G.ng (Nat.le_refl _) (by rw [hz2]; omega) (by omega) W
    rw [hz1] at this
    rw [← made_spans]
    exact this
  have hmk2 : ∀ (n : Nat), n ≤ 100000 → ∀ W : World, (Instr.makeSlice 54 (.int .i64 (n : Int)) (.int .i64 (n : Int))).run Tryd.prog W = .ok (.slice (some ⟨W.heap.size, 0, none⟩) n n) (W.alloc (.cells (madeCells #[.int .i64 0] n) 3)) := fun n hn W => by
    obtain ⟨i0, hi, hz0, hz1, hz2⟩ := info_parts Tryd.infoInt
    have := run_make_rowN (P := Tryd.prog) 54 3 i0 (.int .i64 0) Tryd.underlying54 hi hz0 .i64 .i64 n n (Nat.le_refl _) (by rw [hz2]; omega) (by omega) W
    rw [hz1, Nat.mul_one] at this
    exact this
  have hmk3 := hmk2 G.ng (by omega)
  have hmk4 := hmk2 G.nl (by omega)
  rw [made_ints] at hmk3
  rw [made_nats] at hmk4
  clear hmk2
  have HF := Lib.hid hf
  have H1 := Lib.hid h1
  obtain ⟨sz, g0, g2⟩ := hf
  unfold Sl at h1
  have H := Lib.hid h
  have HQ := Lib.hid hQ
  have HC := Lib.hid hclo
  have jc := h.jc
  have hnp := h.np
  have hwf := h.wf
  clear h hm hQ hclo
  conv => arg 2; whnf
  repeat (first | go_skip | go_guarded | ((with_reducible refine wp_cond_true ?_ ?_); focus (simp [Act.eval, sz]; done)) | ((with_reducible refine wp_cond_false ?_ ?_); focus (simp [Act.eval, sz]; done)) | ((fail_if_success (with_reducible refine wp_cond_true ?_ ?_)); go_step) | go_upon)
  apply wp_scope_straight
  repeat (first | go_skip | go_guarded | ((with_reducible refine wp_cond_true ?_ ?_); focus (simp [Act.eval, sz]; done)) | ((with_reducible refine wp_cond_false ?_ ?_); focus (simp [Act.eval, sz]; done)) | ((fail_if_success (with_reducible refine wp_cond_true ?_ ?_)); go_step) | go_upon)
  clear q4 r4 q0 q1 q5 r5 q02 q41 q6 r6 hz1 hz2 m4' hmk1 hmk3 hmk4 hm0 hp1 hp4
  generalize hw0 : ((((((w.alloc (Obj.cells (i64s (List.replicate (2 * G.ng) 0)).toArray 32)).setCell ⟨G.mb, 4, none⟩ (.slice (some ⟨w.heap.size, 0, none⟩) G.ng G.ng)).alloc (Obj.cells (i64s (List.replicate G.ng 0)).toArray 3)).setCell ⟨G.mb, 5, none⟩ (.slice (some ⟨w.heap.size + 1, 0, none⟩) G.ng G.ng)).alloc (Obj.cells (natVals (List.replicate G.nl 0)).toArray 3)).setCell ⟨G.mb, 6, none⟩ (.slice (some ⟨w.heap.size + 2, 0, none⟩) G.nl G.nl)) = w0 at *
  clear hw0 HSB
  refine wp_loop_ghost (fun n a w' => ∃ xs' i, a = ⟨xs', []⟩ ∧ Fr xs' G.mb ∧ Sl xs' 1 (.int .i64 (k : Int)) ∧ Sl xs' 49 (.int .i64 (G.ng : Int)) ∧ Sl xs' 50 (.int .i64 ((i : Nat) : Int)) ∧ i ≤ G.ng ∧ n = G.ng - i ∧ ∃ D', D'.jm = D.jm ∧ D'.jv = D.jv ∧ Mat w' G D' bit [] (List.replicate G.nl 0)) G.ng ⟨_, 0, rfl, (by repeat (first | (with_reducible exact HF.out) | (with_reducible refine Fr.set ?_ _ _ (by decide)))), (by repeat (first | (with_reducible exact Sl.same _) | (with_reducible exact H1.out) | (with_reducible refine Sl.ne ?_ (by decide)))), (by repeat (first | (with_reducible exact Sl.same _) | (with_reducible exact H1.out) | (with_reducible refine Sl.ne ?_ (by decide)))), (show Sl _ 50 (.int .i64 0) from (by repeat (first | (with_reducible exact Sl.same _) | (with_reducible exact H1.out) | (with_reducible refine Sl.ne ?_ (by decide))))), Nat.zero_le _, rfl, D1, HD1.out, HD2.out, HM.out⟩ ?_
  clear HM HD1 HD2 D1 g0 g2 sz HF H1 h1 xs w0 H
  rintro n a w' ⟨xs, i, rfl, hf, h1, h49, h50, hi, hn, D', d1, d2, hM⟩
  have HF := Lib.hid hf
  have H1 := Lib.hid h1
  have H49 := Lib.hid h49
  have H50 := Lib.hid h50
  have HN := Lib.hid hn
  obtain ⟨sz, g0, g2⟩ := hf
  unfold Sl at h1 h49 h50
  have m4 : w'.cell? ⟨G.mb, 4, none⟩ = some (.slice (some ⟨D'.sb, 0, none⟩) G.ng G.ng) := hM.m.cell rfl
  have HM := Lib.hid hM
  have HD1 := Lib.hid d1
  have HD2 := Lib.hid d2
  clear d1 d2 hn
  by_cases hlt : i < G.ng
  · have cs0 := hM.sp.cell (i64s_get D'.xs (i * 2) (by rw [hM.xl]; omega))
    have cs1 := hM.sp.cell (i64s_get D'.xs (i * 2 + 1) (by rw [hM.xl]; omega))
    have fs0 := hM.sp.frozen (i * 2)
    have fs1 := hM.sp.frozen (i * 2 + 1)
    have hwi : IntKind.i64.wrap ((i : Int) + 1) = (i : Int) + 1 := by rw [IntKind.wrap_i64]; omega
    clear hM
    repeat (first | go_skip | go_guarded | ((with_reducible refine wp_cond_true ?_ ?_); focus (simp [Act.eval, sz]; done)) | ((with_reducible refine wp_cond_false ?_ ?_); focus (simp [Act.eval, sz]; done)) | ((fail_if_success (with_reducible refine wp_cond_true ?_ ?_)); go_step) | go_upon)
    refine ⟨G.ng - (i + 1), by have := HN.out; omega, _, i + 1, rfl, (by repeat (first | (with_reducible exact HF.out) | (with_reducible refine Fr.set ?_ _ _ (by decide)))), (by repeat (first | (with_reducible exact Sl.same _) | (with_reducible exact H1.out) | (with_reducible refine Sl.ne ?_ (by decide)))), (by repeat (first | (with_reducible exact Sl.same _) | (with_reducible exact H49.out) | (with_reducible refine Sl.ne ?_ (by decide)))), (show Sl _ 50 (.int .i64 ((i : Int) + 1)) from (by repeat (first | (with_reducible exact Sl.same _) | (with_reducible exact H1.out) | (with_reducible refine Sl.ne ?_ (by decide))))), by omega, rfl, _, ?_, ?_, ((HM.out.setSpan (i * 2) (-1)).setSpan (i * 2 + 1) (-1))⟩
    · exact HD1.out
    · exact HD2.out
  · have m7 : w'.cell? ⟨G.mb, 7, none⟩ = some D'.jm := hM.m.cell rfl
    obtain ⟨i0, hi0, hz0, hz1, hz2⟩ := info_parts Tryd.infoJob
    have hown := hM.jo
    have hB := hM.Bsize
    have lm := hM.m.lt
    rw [HD1.out] at m7
    clear hM
    rcases jc with ⟨j1, j2⟩ | ⟨gj, nj, capj, j1, j3, j2⟩
    · rw [j1] at m7
      have hjv : D'.jv = .slice none 0 0 := by rw [HD2.out, j2]
      repeat (first | go_skip | go_guarded | ((with_reducible refine wp_cond_true ?_ ?_); focus (simp [Act.eval, sz]; done)) | ((with_reducible refine wp_cond_false ?_ ?_); focus (simp [Act.eval, sz]; done)) | (at_builtin; refine wpList_append_lies _ (by rfl) _ _ _ (by rfl) G.B 102 i0 _ 8 56 Tryd.underlying64 hi0 hz0 hz1 hz2 rfl (by omega) D'.jv 0 [] (by simp [Act.eval, sz, hjv]) (hown.alloc _) ⟨w'.heap.size, 0, none⟩ 1 1 (jobCells (.try_ 0 k)) (by simp [Act.eval, sz]) (by rfl) (World.news_of_block (cs := (jobCells (.try_ 0 k)).toArray) (t := 102) (fr := (0, 0)) (heap_alloc_new w' _)) (by simp [Value.oneCell', jobCells]) (by omega) (by unfold maxLen; omega) (by omega) (by simp; omega) (w'.heap.size + 1) (by simp) ?_; intro gg cap w1 hown1 hgrow hat hlt2; obtain ⟨tag, hM1⟩ := (HM.out.alloc (.cells (jobCells (.try_ 0 k)).toArray 102)).push (.try_ 0 k) hown1 hgrow (hat.imp id fun e => by simp; omega); have q7 : w1.cell? ⟨G.mb, 7, none⟩ = some D'.jm := hM1.m.cell rfl; have r7 := hM1.m.frozen 7; have H1M := Lib.hid hM1; clear hM1 hown1 hgrow hat m7 hown) | ((fail_if_success (with_reducible refine wp_cond_true ?_ ?_)); go_step) | go_upon)
      apply wp_label
      repeat (first | go_skip | go_guarded | ((with_reducible refine wp_cond_true ?_ ?_); focus (simp [Act.eval, sz]; done)) | ((with_reducible refine wp_cond_false ?_ ?_); focus (simp [Act.eval, sz]; done)) | ((fail_if_success (with_reducible refine wp_cond_true ?_ ?_)); go_step) | go_upon)
      refine wp_of_eq (c := Code.loop outBody) (by kernel_rfl) ?_
      refine out_whole (k0 := k0) (ks := k) (n := left G bit [.try_ 0 k]) ?_ ⟨_, bit, _, _, H1M.out.setJm (.slice (some ⟨gg, 0, none⟩) 1 cap), rfl, OI.begin (ps := G.ps) (S := G.S) hwf hk HC.out, Nat.le_refl _, fun g x y z hm => by simp at hm⟩ (by repeat (first | (with_reducible exact HF.out) | (with_reducible refine Fr.set ?_ _ _ (by decide)))) ⟨?_, ?_, ?_⟩
      · have := unv_le bit G.S (G.ps.length + 1)
        have h2 : G.S * (G.ps.length + 1) ≤ 100000 * 65537 := Nat.mul_le_mul hsm.2.2 (by omega)
        simp only [left, List.length_cons, List.length_nil]; omega
      · intro xs' w2 hf' hD
        clear sz g0 g2 h1 h49 h50 HF H1 H49 H50
        have HF := Lib.hid hf'
        obtain ⟨sz, g0, g2⟩ := hf'
        repeat (first | go_skip | go_guarded | ((with_reducible refine wp_cond_true ?_ ?_); focus (simp [Act.eval, sz]; done)) | ((with_reducible refine wp_cond_false ?_ ?_); focus (simp [Act.eval, sz]; done)) | ((fail_if_success (with_reducible refine wp_cond_true ?_ ?_)); go_step) | go_upon)
        exact HQ.out.none _ _ (by repeat (first | (with_reducible exact HF.out) | (with_reducible refine Fr.set ?_ _ _ (by decide)))) (show Sl _ 6 _ from (by repeat (first | (with_reducible exact Sl.same _) | (with_reducible exact HF.out) | (with_reducible refine Sl.ne ?_ (by decide))))) hD
      · intro c a d v w h
        exact HQ.out.pan c a d v w h
      · intro xs' w2 k' hf' h6 hR
        exact HQ.out.ret _ _ _ hf' h6 hR
    · rw [j1] at m7
      have hjv : D'.jv = .slice (some ⟨gj, 0, none⟩) 0 capj := by rw [HD2.out, j2]
      repeat (first | go_skip | go_guarded | ((with_reducible refine wp_cond_true ?_ ?_); focus (simp [Act.eval, sz]; done)) | ((with_reducible refine wp_cond_false ?_ ?_); focus (simp [Act.eval, sz]; done)) | (at_builtin; refine wpList_append_lies _ (by rfl) _ _ _ (by rfl) G.B 102 i0 _ 8 56 Tryd.underlying64 hi0 hz0 hz1 hz2 rfl (by omega) D'.jv 0 [] (by simp [Act.eval, sz, hjv]) (hown.alloc _) ⟨w'.heap.size, 0, none⟩ 1 1 (jobCells (.try_ 0 k)) (by simp [Act.eval, sz]) (by rfl) (World.news_of_block (cs := (jobCells (.try_ 0 k)).toArray) (t := 102) (fr := (0, 0)) (heap_alloc_new w' _)) (by simp [Value.oneCell', jobCells]) (by omega) (by unfold maxLen; omega) (by omega) (by simp; omega) (w'.heap.size + 1) (by simp) ?_; intro gg cap w1 hown1 hgrow hat hlt2; obtain ⟨tag, hM1⟩ := (HM.out.alloc (.cells (jobCells (.try_ 0 k)).toArray 102)).push (.try_ 0 k) hown1 hgrow (hat.imp id fun e => by simp; omega); have q7 : w1.cell? ⟨G.mb, 7, none⟩ = some D'.jm := hM1.m.cell rfl; have r7 := hM1.m.frozen 7; have H1M := Lib.hid hM1; clear hM1 hown1 hgrow hat m7 hown) | ((fail_if_success (with_reducible refine wp_cond_true ?_ ?_)); go_step) | go_upon)
      apply wp_label
      repeat (first | go_skip | go_guarded | ((with_reducible refine wp_cond_true ?_ ?_); focus (simp [Act.eval, sz]; done)) | ((with_reducible refine wp_cond_false ?_ ?_); focus (simp [Act.eval, sz]; done)) | ((fail_if_success (with_reducible refine wp_cond_true ?_ ?_)); go_step) | go_upon)
      refine wp_of_eq (c := Code.loop outBody) (by kernel_rfl) ?_
      refine out_whole (k0 := k0) (ks := k) (n := left G bit [.try_ 0 k]) ?_ ⟨_, bit, _, _, H1M.out.setJm (.slice (some ⟨gg, 0, none⟩) 1 cap), rfl, OI.begin (ps := G.ps) (S := G.S) hwf hk HC.out, Nat.le_refl _, fun g x y z hm => by simp at hm⟩ (by repeat (first | (with_reducible exact HF.out) | (with_reducible refine Fr.set ?_ _ _ (by decide)))) ⟨?_, ?_, ?_⟩
      · have := unv_le bit G.S (G.ps.length + 1)
        have h2 : G.S * (G.ps.length + 1) ≤ 100000 * 65537 := Nat.mul_le_mul hsm.2.2 (by omega)
        simp only [left, List.length_cons, List.length_nil]; omega
      · intro xs' w2 hf' hD
        clear sz g0 g2 h1 h49 h50 HF H1 H49 H50
        have HF := Lib.hid hf'
        obtain ⟨sz, g0, g2⟩ := hf'
        repeat (first | go_skip | go_guarded | ((with_reducible refine wp_cond_true ?_ ?_); focus (simp [Act.eval, sz]; done)) | ((with_reducible refine wp_cond_false ?_ ?_); focus (simp [Act.eval, sz]; done)) | ((fail_if_success (with_reducible refine wp_cond_true ?_ ?_)); go_step) | go_upon)
        exact HQ.out.none _ _ (by repeat (first | (with_reducible exact HF.out) | (with_reducible refine Fr.set ?_ _ _ (by decide)))) (show Sl _ 6 _ from (by repeat (first | (with_reducible exact Sl.same _) | (with_reducible exact HF.out) | (with_reducible refine Sl.ne ?_ (by decide))))) hD
      · intro c a d v w h
        exact HQ.out.pan c a d v w h
      · intro xs' w2 k' hf' h6 hR
        exact HQ.out.ret _ _ _ hf' h6 hR

end Go.Proofs.YtlanodchnjojoaaDoor
