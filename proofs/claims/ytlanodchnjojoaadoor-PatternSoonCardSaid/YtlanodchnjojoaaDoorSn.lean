/- The law PatternSoon, walked: for every number it returns true. -/
import Derived.Test.YtlanodchnjojoaaDoorSo
import Derived.Deep.OwnRows
import Derived.Lib.SlBytesRow
namespace Go.Proofs.YtlanodchnjojoaaDoor
open Go.RowKit

theorem nothing_metD (w : World) : Calls Tryd.prog 8 #[.agg #[.int .i64 0, .int .i64 0, .slice none 0 0]] w fun e w' => e = .returned (.bool true) ∧ Below w.heap.size w w' := by
  go_enter Tryd.func8, Tryd.ntmps8
  go_wp2
  go_ret
  exact ⟨rfl, (Below.refl _ _).alloc (Nat.le_refl _) _⟩

/-- The frame of the law. -/
structure Fs (xs : Array Value) (n sb : Nat) : Prop where
  sz : xs.size = 115
  h0 : ∀ h : 0 < xs.size, xs[0] = .int .i64 (n : Int)
  h3 : ∀ h : 3 < xs.size, xs[3] = .slice (some ⟨sb, 0, none⟩) n n
theorem Fs.set {xs : Array Value} {n sb : Nat} (h : Fs xs n sb) (d : Nat) (v : Value) (hd : 4 ≤ d ∨ d = 2 ∨ d = 1) : Fs (xs.setIfInBounds d v) n sb where
  sz := by simp [h.sz]
  h0 := Sl.ne (show Sl xs 0 _ from h.h0) (by omega)
  h3 := Sl.ne (show Sl xs 3 _ from h.h3) (by omega)
theorem Sl.get {xs : Array Value} {t : Nat} {v : Value} (h : Sl xs t v) : ∀ h : t < xs.size, xs[t] = v := h

noncomputable def fillBody : Code := ((Tryd.f3.body.bind firstLoop)).getD .skip
noncomputable def soonBody : Code := ((Tryd.f3.body.bind pastLoop).bind firstLoop).getD .skip

def fillL (i n : Nat) : List Value := List.replicate i (.int .u8 97) ++ List.replicate (n - i) (.int .u8 0)
theorem fillL_set {i n : Nat} (h : i < n) : (fillL i n).set i (.int .u8 97) = fillL (i + 1) n := by
  unfold fillL
  obtain ⟨m, hm⟩ : ∃ m, n - i = m + 1 := ⟨n - i - 1, by omega⟩
  rw [hm, show n - (i + 1) = m by omega, List.replicate_succ, List.set_append_right _ _ (by simp)]
  simp only [List.length_replicate, Nat.sub_self, List.set_cons_zero, List.replicate_succ']
  simp
theorem fillL_get {i n : Nat} (h : i < n) : (fillL i n)[i]? = some (.int .u8 0) := by
  unfold fillL
  rw [List.getElem?_append_right (by simp)]
  simp only [List.length_replicate, Nat.sub_self, List.getElem?_replicate]
  rw [if_pos (by omega)]

set_option maxRecDepth 100000 in
set_option maxHeartbeats 2000000 in
theorem fill_round {n sb i : Nat} {w : World} {xs : Array Value} (hf : Fs xs n sb) (h4 : Sl xs 4 (.int .i64 (i : Int))) (hi : i ≤ n) (hn : n ≤ 3000) (hB : Blk w sb 5 (fillL i n)) {Q : Exit → Act → World → Prop}
    (hnext : ∀ xs, Fs xs n sb → Sl xs 4 (.int .i64 ((i : Int) + 1)) → i < n → Q .normal ⟨xs, []⟩ (w.setCell ⟨sb, i, none⟩ (.int .u8 97))) (hout : ∀ xs, Fs xs n sb → i = n → Q (.exit 0) ⟨xs, []⟩ w) : Code.wp Tryd.prog fillBody Q ⟨xs, []⟩ w := by
  have HF := Lib.hid hf
  obtain ⟨sz, g0, g3⟩ := hf
  have HN := Lib.hid hnext
  have HO := Lib.hid hout
  clear hnext hout
  unfold Sl at h4
  by_cases hlt : i < n
  · have hlt' : (i : Int) < (n : Int) := by omega
    have hw1 : IntKind.i64.wrap ((i : Int) + 1) = (i : Int) + 1 := by rw [IntKind.wrap_i64]; omega
    have hc := hB.cell (fillL_get hlt)
    have hfz := hB.frozen i
    conv => arg 2; whnf
    repeat (first | go_skip | go_guarded | ((with_reducible refine wp_cond_true ?_ ?_); focus (simp [Act.eval, sz]; done)) | ((with_reducible refine wp_cond_false ?_ ?_); focus (simp [Act.eval, sz]; done)) | ((fail_if_success (with_reducible refine wp_cond_true ?_ ?_)); go_step) | go_upon)
    exact HN.out _ (by repeat (first | (with_reducible exact HF.out) | (with_reducible refine Fs.set ?_ _ _ (by decide)))) (by repeat (first | (with_reducible exact Sl.same _) | (with_reducible exact HF.out) | (with_reducible refine Sl.ne ?_ (by decide)))) hlt
  · have hlt' : ¬ (i : Int) < (n : Int) := by omega
    conv => arg 2; whnf
    repeat (first | go_skip | go_guarded | ((with_reducible refine wp_cond_true ?_ ?_); focus (simp [Act.eval, sz]; done)) | ((with_reducible refine wp_cond_false ?_ ?_); focus (simp [Act.eval, sz]; done)) | ((fail_if_success (with_reducible refine wp_cond_true ?_ ?_)); go_step) | go_upon)
    exact HO.out _ (by repeat (first | (with_reducible exact HF.out) | (with_reducible refine Fs.set ?_ _ _ (by decide)))) (by omega)

def leastOf (i : Nat) : Nat := if i = 2 then 1 else if i = 3 then 40 else 0


theorem conv_aS {n sb : Nat} (w : World) (h : Blk w sb 5 (List.replicate n (.int .u8 97))) : (convert 23 9 (.slice (some ⟨sb, 0, none⟩) n n)).run Tryd.prog w = .ok (.string (aS n)) w := by
  have := Lib.run_convert_whole (P := Tryd.prog) w 23 5 9 Tryd.underlying23 Tryd.underlying5 Tryd.underlying9 sb 0 (aS n) (fun i hi => by
    rw [Nat.zero_add]
    have hi' : i < n := by rw [aS_size] at hi; exact hi
    rw [h.cell (j := i) (v := .int .u8 97) (by rw [List.getElem?_replicate, if_pos hi']), aS_get]
    rfl) n
  rw [aS_size] at this
  exact this

set_option maxRecDepth 100000 in
set_option maxHeartbeats 4000000 in
theorem soon_round {n sb lb i : Nat} {s : ByteArray} {w : World} {xs : Array Value} (hf : Fs xs n sb) (h5 : Sl xs 5 (.slice (some ⟨lb, 0, none⟩) 5 5)) (h6 : Sl xs 6 (.int .i64 (i : Int))) (hi : i < 5) (hn : n ≤ 3000)
    (hSB : Blk w sb 5 (List.replicate n (.int .u8 97))) (hLB : w.cell? ⟨lb, i, none⟩ = some (.string s)) (hS : ∀ w, Soon s i (leastOf i) w) {Q : Exit → Act → World → Prop}
    (hnext : ∀ xs w', Fs xs n sb → Sl xs 5 (.slice (some ⟨lb, 0, none⟩) 5 5) → Sl xs 6 (.int .i64 ((i : Int) + 1)) → Below w.heap.size w w' → Q .normal ⟨xs, []⟩ w') : Code.wp Tryd.prog soonBody Q ⟨xs, []⟩ w := by
  have HF := Lib.hid hf
  have H5 := Lib.hid h5
  have H6 := Lib.hid h6
  have HN := Lib.hid hnext
  have HS := Lib.hid (hS w)
  have HB := Lib.hid hSB
  obtain ⟨sz, g0, g3⟩ := hf
  unfold Sl at h5 h6
  have hi' : (i : Int) < 5 := by omega
  have hw1 : IntKind.i64.wrap ((i : Int) + 1) = (i : Int) + 1 := by rw [IntKind.wrap_i64]; omega
  clear hnext hS hSB
  conv => arg 2; whnf
  repeat (first | go_skip | go_guarded | ((with_reducible refine wp_cond_true ?_ ?_); focus (simp [Act.eval, sz]; done)) | ((with_reducible refine wp_cond_false ?_ ?_); focus (simp [Act.eval, sz]; done)) | ((fail_if_success (with_reducible refine wp_cond_true ?_ ?_)); go_step) | go_upon)
  refine HS.out.mono ?_
  rintro e w1 ⟨⟨pb, rfl, hF⟩, hb1⟩
  have hSB1 : Blk (w1.alloc (.cells #[.int .i64 0, .int .i64 0] 28)) sb 5 (List.replicate n (.int .u8 97)) := (below_keeps' hb1 HB.out).alloc _
  have e1 := conv_aS _ hSB1
  have hf1 := (hF (w1.alloc (.cells #[.int .i64 0, .int .i64 0] 28)) (by simp) ((Below.refl _ _).alloc (Nat.le_refl _) _) n hn).1
  have HF1 := Lib.hid hf1
  have HFF := Lib.hid hF
  have HSB1 := Lib.hid hSB1
  have HB1 := Lib.hid hb1
  clear hF hb1 hSB1 hf1 HS HB
  go_simp
  repeat (first | go_skip | go_guarded | ((with_reducible refine wp_cond_true ?_ ?_); focus (simp [Act.eval, sz]; done)) | ((with_reducible refine wp_cond_false ?_ ?_); focus (simp [Act.eval, sz]; done)) | ((fail_if_success (with_reducible refine wp_cond_true ?_ ?_)); go_step) | go_upon)
  refine HF1.out.mono ?_
  rintro e w2 ⟨rfl, hb2⟩
  clear HF1 e1
  unfold matchV
  have hz2 := hb2.size
  simp only [World.size_alloc] at hz2
  have hSB2 := below_keeps' hb2 HSB1.out
  have HSB2 := Lib.hid hSB2
  have HB2 := Lib.hid hb2
  have HX := Lib.hid (Blk.new w2 35 [.int .i64 0, .int .i64 0, .slice none 0 0])
  clear hSB2 hb2 HSB1
  go_simp
  repeat (first | go_skip | go_guarded | ((with_reducible refine wp_cond_true ?_ ?_); focus (simp [Act.eval, sz]; done)) | ((with_reducible refine wp_cond_false ?_ ?_); focus (simp [Act.eval, sz]; done)) | ((fail_if_success (with_reducible refine wp_cond_true ?_ ?_)); go_step) | go_upon)
  refine (nothing_metD _).mono ?_
  rintro e w3 ⟨rfl, hb3⟩
  have hz3 := hb3.size
  simp only [World.size_alloc] at hz3
  have hSB3 := below_keeps' hb3 (HSB2.out.alloc (.cells #[.int .i64 0, .int .i64 0, .slice none 0 0] 35))
  have e3 := conv_aS _ hSB3
  have hb13 : Below w1.heap.size w1 w3 := ((((Below.refl _ w1).alloc (Nat.le_refl _) (.cells #[.int .i64 0, .int .i64 0] 28)).trans (HB2.out.mono (by simp))).alloc (by omega) (.cells #[.int .i64 0, .int .i64 0, .slice none 0 0] 35)).trans (hb3.mono (by simp; omega))
  have hf3 := (HFF.out w3 (by omega) hb13 n hn).2
  have HF3 := Lib.hid hf3
  have HX3 := Lib.hid (below_keeps' hb3 HX.out)
  have HB3 := Lib.hid (HB1.out.trans (hb13.mono HB1.out.size))
  have hcl : (aS n).size + 1 ≤ 9223372036854775807 := by rw [aS_size]; omega
  clear hSB3 hb13 hf3 hb3 HX HSB2 HB2 HFF
  go_simp
  repeat (first | go_skip | go_guarded | ((with_reducible refine wp_cond_true ?_ ?_); focus (simp [Act.eval, sz]; done)) | ((with_reducible refine wp_cond_false ?_ ?_); focus (simp [Act.eval, sz]; done)) | ((fail_if_success (with_reducible refine wp_cond_true ?_ ?_)); go_step) | go_upon)
  refine HF3.out.mono ?_
  rintro e w4 ⟨hcase, hb4⟩
  clear HF3 e3
  have hX4 := below_keeps' hb4 HX3.out
  have x0 := hX4.cell (j := 0) rfl
  have x1 := hX4.cell (j := 1) rfl
  have x2 := hX4.cell (j := 2) rfl
  have u0 := hX4.frozen 0
  have u1 := hX4.frozen 1
  have u2 := hX4.frozen 2
  have l4 := hX4.lt
  have HX4 := Lib.hid hX4
  have HB4 := Lib.hid (HB3.out.trans (hb4.mono HB3.out.size))
  have hz1 := HB1.out.size
  clear hb4 hX4 HX3 HB3 HB1
  unfold matchV at hcase
  have hw2 : IntKind.i64.wrap ((n : Int) + 1) = (n : Int) + 1 := by rw [IntKind.wrap_i64]; omega
  rcases hcase with ⟨hlt, rfl⟩ | ⟨hle, x, a, m, c, rfl, hx0⟩
  · by_cases h2 : i = 2
    · have c2 : ((i : Int) == 2) = true := by rw [beq_iff_eq]; omega
      have c3 : ((i : Int) == 3) = false := by rw [beq_eq_false_iff_ne]; omega
      have d3 : ((i : Int) != 3) = true := by simp only [bne, c3]; rfl
      have hl : (n : Int) < 1 := by simp only [leastOf, if_pos h2] at hlt; omega
      clear hlt h2
      go_simp
      repeat (first | go_skip | go_guarded | ((with_reducible refine wp_cond_true ?_ ?_); focus (simp [Act.eval, sz]; done)) | ((with_reducible refine wp_cond_false ?_ ?_); focus (simp [Act.eval, sz]; done)) | ((fail_if_success (with_reducible refine wp_cond_true ?_ ?_)); go_step) | go_upon)
      exact HN.out _ _ (by repeat (first | (with_reducible exact HF.out) | (with_reducible refine Fs.set ?_ _ _ (by decide)))) (by repeat (first | (with_reducible exact Sl.same _) | (with_reducible exact H5.out) | (with_reducible refine Sl.ne ?_ (by decide)))) (by repeat (first | (with_reducible exact Sl.same _) | (with_reducible exact H6.out) | (with_reducible refine Sl.ne ?_ (by decide)))) (((HB4.out.setCell (p := ⟨w2.heap.size, 0, none⟩) (show w.heap.size ≤ w2.heap.size by omega) _).setCell (p := ⟨w2.heap.size, 1, none⟩) (show w.heap.size ≤ w2.heap.size by omega) _).setCell (p := ⟨w2.heap.size, 2, none⟩) (show w.heap.size ≤ w2.heap.size by omega) _)
    · by_cases h3 : i = 3
      · have c2 : ((i : Int) == 2) = false := by rw [beq_eq_false_iff_ne]; omega
        have c3 : ((i : Int) == 3) = true := by rw [beq_iff_eq]; omega
        have d3 : ((i : Int) != 3) = false := by simp only [bne, c3]; rfl
        have hl : (n : Int) < 40 := by simp only [leastOf, if_neg h2, if_pos h3] at hlt; omega
        clear hlt h2 h3
        go_simp
        repeat (first | go_skip | go_guarded | ((with_reducible refine wp_cond_true ?_ ?_); focus (simp [Act.eval, sz]; done)) | ((with_reducible refine wp_cond_false ?_ ?_); focus (simp [Act.eval, sz]; done)) | ((fail_if_success (with_reducible refine wp_cond_true ?_ ?_)); go_step) | go_upon)
        exact HN.out _ _ (by repeat (first | (with_reducible exact HF.out) | (with_reducible refine Fs.set ?_ _ _ (by decide)))) (by repeat (first | (with_reducible exact Sl.same _) | (with_reducible exact H5.out) | (with_reducible refine Sl.ne ?_ (by decide)))) (by repeat (first | (with_reducible exact Sl.same _) | (with_reducible exact H6.out) | (with_reducible refine Sl.ne ?_ (by decide)))) (((HB4.out.setCell (p := ⟨w2.heap.size, 0, none⟩) (show w.heap.size ≤ w2.heap.size by omega) _).setCell (p := ⟨w2.heap.size, 1, none⟩) (show w.heap.size ≤ w2.heap.size by omega) _).setCell (p := ⟨w2.heap.size, 2, none⟩) (show w.heap.size ≤ w2.heap.size by omega) _)
      · exfalso
        simp only [leastOf, if_neg h2, if_neg h3] at hlt
        omega
  · by_cases h2 : i = 2
    · have c2 : ((i : Int) == 2) = true := by rw [beq_iff_eq]; omega
      have c3 : ((i : Int) == 3) = false := by rw [beq_eq_false_iff_ne]; omega
      have d3 : ((i : Int) != 3) = true := by simp only [bne, c3]; rfl
      have hl : ¬ (n : Int) < 1 := by simp only [leastOf, if_pos h2] at hle; omega
      obtain rfl := hx0 (by omega)
      clear hle h2 hx0
      go_simp
      repeat (first | go_skip | go_guarded | ((with_reducible refine wp_cond_true ?_ ?_); focus (simp [Act.eval, sz]; done)) | ((with_reducible refine wp_cond_false ?_ ?_); focus (simp [Act.eval, sz]; done)) | ((fail_if_success (with_reducible refine wp_cond_true ?_ ?_)); go_step) | go_upon)
      exact HN.out _ _ (by repeat (first | (with_reducible exact HF.out) | (with_reducible refine Fs.set ?_ _ _ (by decide)))) (by repeat (first | (with_reducible exact Sl.same _) | (with_reducible exact H5.out) | (with_reducible refine Sl.ne ?_ (by decide)))) (by repeat (first | (with_reducible exact Sl.same _) | (with_reducible exact H6.out) | (with_reducible refine Sl.ne ?_ (by decide)))) (((HB4.out.setCell (p := ⟨w2.heap.size, 0, none⟩) (show w.heap.size ≤ w2.heap.size by omega) _).setCell (p := ⟨w2.heap.size, 1, none⟩) (show w.heap.size ≤ w2.heap.size by omega) _).setCell (p := ⟨w2.heap.size, 2, none⟩) (show w.heap.size ≤ w2.heap.size by omega) _)
    · by_cases h3 : i = 3
      · have c2 : ((i : Int) == 2) = false := by rw [beq_eq_false_iff_ne]; omega
        have c3 : ((i : Int) == 3) = true := by rw [beq_iff_eq]; omega
        have d3 : ((i : Int) != 3) = false := by simp only [bne, c3]; rfl
        have hl : ¬ (n : Int) < 40 := by simp only [leastOf, if_neg h2, if_pos h3] at hle; omega
        clear hle h2 h3 hx0
        go_simp
        repeat (first | go_skip | go_guarded | ((with_reducible refine wp_cond_true ?_ ?_); focus (simp [Act.eval, sz]; done)) | ((with_reducible refine wp_cond_false ?_ ?_); focus (simp [Act.eval, sz]; done)) | ((fail_if_success (with_reducible refine wp_cond_true ?_ ?_)); go_step) | go_upon)
        iterate 7 (
          (all_goals (try (rename_i hA hB; first | (cases hA; done) | (cases hB; done))))
          repeat (first | go_skip | go_guarded | ((with_reducible refine wp_cond_true ?_ ?_); focus (simp [Act.eval, sz]; done)) | ((with_reducible refine wp_cond_false ?_ ?_); focus (simp [Act.eval, sz]; done)) | ((fail_if_success (with_reducible refine wp_cond_true ?_ ?_)); go_step) | go_upon))
        exact HN.out _ _ (by repeat (first | (with_reducible exact HF.out) | (with_reducible refine Fs.set ?_ _ _ (by decide)))) (by repeat (first | (with_reducible exact Sl.same _) | (with_reducible exact H5.out) | (with_reducible refine Sl.ne ?_ (by decide)))) (by repeat (first | (with_reducible exact Sl.same _) | (with_reducible exact H6.out) | (with_reducible refine Sl.ne ?_ (by decide)))) (((HB4.out.setCell (p := ⟨w2.heap.size, 0, none⟩) (show w.heap.size ≤ w2.heap.size by omega) _).setCell (p := ⟨w2.heap.size, 1, none⟩) (show w.heap.size ≤ w2.heap.size by omega) _).setCell (p := ⟨w2.heap.size, 2, none⟩) (show w.heap.size ≤ w2.heap.size by omega) _)
      · have c2 : ((i : Int) == 2) = false := by rw [beq_eq_false_iff_ne]; omega
        have c3 : ((i : Int) == 3) = false := by rw [beq_eq_false_iff_ne]; omega
        have d3 : ((i : Int) != 3) = true := by simp only [bne, c3]; rfl
        have hl : ¬ (n : Int) < 0 := by omega
        obtain rfl := hx0 h3
        clear hle h2 h3 hx0
        go_simp
        repeat (first | go_skip | go_guarded | ((with_reducible refine wp_cond_true ?_ ?_); focus (simp [Act.eval, sz]; done)) | ((with_reducible refine wp_cond_false ?_ ?_); focus (simp [Act.eval, sz]; done)) | ((fail_if_success (with_reducible refine wp_cond_true ?_ ?_)); go_step) | go_upon)
        exact HN.out _ _ (by repeat (first | (with_reducible exact HF.out) | (with_reducible refine Fs.set ?_ _ _ (by decide)))) (by repeat (first | (with_reducible exact Sl.same _) | (with_reducible exact H5.out) | (with_reducible refine Sl.ne ?_ (by decide)))) (by repeat (first | (with_reducible exact Sl.same _) | (with_reducible exact H6.out) | (with_reducible refine Sl.ne ?_ (by decide)))) (((HB4.out.setCell (p := ⟨w2.heap.size, 0, none⟩) (show w.heap.size ≤ w2.heap.size by omega) _).setCell (p := ⟨w2.heap.size, 1, none⟩) (show w.heap.size ≤ w2.heap.size by omega) _).setCell (p := ⟨w2.heap.size, 2, none⟩) (show w.heap.size ≤ w2.heap.size by omega) _)

end Go.Proofs.YtlanodchnjojoaaDoor
