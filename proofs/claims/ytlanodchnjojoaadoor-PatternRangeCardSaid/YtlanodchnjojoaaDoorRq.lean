/- The law PatternRange: the text of its pattern. -/
import Derived.Test.YtlanodchnjojoaaDoorRx
import Derived.Deep.OwnRows
import Derived.Lib.SlBytesRow
import Derived.Laws.BitsLemmas
namespace Go.Proofs.YtlanodchnjojoaaDoor
open Go.RowKit

def sndC : Code → Code
  | .seq _ b => b
  | c => c
/-- What follows where the rune is one with a form. -/
noncomputable def restC : Code := sndC (sndC (sndC (sndC (Tryd.f4.body.getD .skip))))
noncomputable def textBody : Code := (firstLoop restC).getD .skip

/-- The frame of the law. -/
structure Fg (xs : Array Value) (b0 : Nat) : Prop where
  sz : xs.size = 161
  h2 : ∀ h : 2 < xs.size, xs[2] = .pointer (some ⟨b0, 0, none⟩)
  h3 : ∀ h : 3 < xs.size, xs[3] = .pointer (some ⟨b0 + 1, 0, none⟩)
  h4 : ∀ h : 4 < xs.size, xs[4] = .pointer (some ⟨b0 + 2, 0, none⟩)
theorem Fg.set {xs : Array Value} {b0 : Nat} (h : Fg xs b0) (d : Nat) (v : Value) (hd : 5 ≤ d) : Fg (xs.setIfInBounds d v) b0 where
  sz := by simp [h.sz]
  h2 := Sl.ne (show Sl xs 2 _ from h.h2) (by omega)
  h3 := Sl.ne (show Sl xs 3 _ from h.h3) (by omega)
  h4 := Sl.ne (show Sl xs 4 _ from h.h4) (by omega)
theorem Fg.of {xs : Array Value} {b0 : Nat} (sz : xs.size = 161) (h2 : Sl xs 2 (.pointer (some ⟨b0, 0, none⟩))) (h3 : Sl xs 3 (.pointer (some ⟨b0 + 1, 0, none⟩))) (h4 : Sl xs 4 (.pointer (some ⟨b0 + 2, 0, none⟩))) : Fg xs b0 := ⟨sz, h2, h3, h4⟩

def hexS : ByteArray := ⟨#[48, 49, 50, 51, 52, 53, 54, 55, 56, 57, 97, 98, 99, 100, 101, 102]⟩

theorem wraps_i64_62 (n : Int) (h₀ : 0 ≤ n) (h₁ : n < 2 ^ 62) : IntKind.i64.wrap n = n := by rw [IntKind.wrap_i64]; omega
theorem and15 (z : Int) (h0 : 0 ≤ z) (h1 : z < 2 ^ 62) : bits .and .i64 z 15 = z % 16 := bits_mask .i64 62 (by decide) wraps_i64_62 4 (by decide) z h0 h1

/-- Six digits in the frame. -/
structure Ft (xs : Array Value) (b0 : Nat) : Prop where
  g : Fg xs b0
  h5 : Sl xs 5 (.string ⟨#[48, 49, 50, 51, 52, 53, 54, 55, 56, 57, 97, 98, 99, 100, 101, 102]⟩)
theorem Ft.set {xs : Array Value} {b0 : Nat} (h : Ft xs b0) (d : Nat) (v : Value) (hd : 6 ≤ d) : Ft (xs.setIfInBounds d v) b0 := ⟨h.g.set d v (by omega), h.h5.ne (by omega)⟩

theorem conv1 (d : Nat) (w : World) : (convert 23 9 (.slice (some ⟨w.heap.size, 0, none⟩) 1 1)).run Tryd.prog (w.alloc (.cells #[.int .u8 (((dch d).toNat : Nat) : Int)] 5)) = .ok (.string (one1 d)) (w.alloc (.cells #[.int .u8 (((dch d).toNat : Nat) : Int)] 5)) :=
  Lib.run_convert_whole (P := Tryd.prog) _ 23 5 9 Tryd.underlying23 Tryd.underlying5 Tryd.underlying9 w.heap.size 0 (one1 d) (fun i hi => by
    have hi0 : i = 0 := by have : (one1 d).size = 1 := rfl; omega
    subst hi0
    exact (Blk.new w 5 [.int .u8 (((dch d).toNat : Nat) : Int)]).cell (j := 0) rfl) 1

set_option maxRecDepth 100000 in
set_option maxHeartbeats 2000000 in
theorem text_0 {b0 R : Nat} {w : World} {xs : Array Value} {t : ByteArray} (hf : Ft xs b0) (h6 : Sl xs 6 (.string t)) (h7 : Sl xs 7 (.int .i64 20)) (hR : R < 16777216) (ht : t.size ≤ 100) (hc : w.cell? ⟨b0 + 1, 0, none⟩ = some (.int .i32 (R : Int)))
    {Q : Exit → Act → World → Prop} (hQ : ∀ xs, Ft xs b0 → Sl xs 6 (.string (t ++ one1 (R / 1048576 % 16))) → Sl xs 7 (.int .i64 16) → Q .normal ⟨xs, []⟩ (w.alloc (.cells #[.int .u8 (((dch (R / 1048576 % 16)).toNat : Nat) : Int)] 5))) : Code.wp Tryd.prog textBody Q ⟨xs, []⟩ w := by
  have HF := Lib.hid hf
  have HQ := Lib.hid hQ
  obtain ⟨⟨sz, g2, g3, g4⟩, h5⟩ := hf
  unfold Sl at h5 h6 h7
  obtain ⟨d, hd⟩ : ∃ d, d = R / 1048576 % 16 := ⟨_, rfl⟩
  have hd16 : d < 16 := by omega
  have hb : bits BinOp.and IntKind.i64 ((R : Int) / 1048576) 15 = (d : Int) := by rw [and15 _ (by omega) (by omega)]; omega
  have hdI : (d : Int) < 16 := by omega
  have hix := fun h => hexIdx d h
  have hcv := conv1 d w
  have hcl : t.size + (one1 d).size ≤ 9223372036854775807 := by have : (one1 d).size = 1 := rfl; omega
  have HD := Lib.hid hd
  clear hQ hd
  conv => arg 2; whnf
  repeat (first | go_skip | go_guarded | ((with_reducible refine wp_cond_true ?_ ?_); focus (simp [Act.eval, sz]; done)) | ((with_reducible refine wp_cond_false ?_ ?_); focus (simp [Act.eval, sz]; done)) | ((fail_if_success (with_reducible refine wp_cond_true ?_ ?_)); go_step) | go_upon)
  have hq := HQ.out
  rw [← HD.out] at hq
  exact hq _ (by repeat (first | (with_reducible exact HF.out) | (with_reducible refine Ft.set ?_ _ _ (by decide)))) (by repeat (first | (with_reducible exact Sl.same _) | (with_reducible exact HF.out) | (with_reducible refine Sl.ne ?_ (by decide)))) (by repeat (first | (with_reducible exact Sl.same _) | (with_reducible exact HF.out) | (with_reducible refine Sl.ne ?_ (by decide))))

set_option maxRecDepth 100000 in
set_option maxHeartbeats 2000000 in
theorem text_1 {b0 R : Nat} {w : World} {xs : Array Value} {t : ByteArray} (hf : Ft xs b0) (h6 : Sl xs 6 (.string t)) (h7 : Sl xs 7 (.int .i64 16)) (hR : R < 16777216) (ht : t.size ≤ 100) (hc : w.cell? ⟨b0 + 1, 0, none⟩ = some (.int .i32 (R : Int)))
    {Q : Exit → Act → World → Prop} (hQ : ∀ xs, Ft xs b0 → Sl xs 6 (.string (t ++ one1 (R / 65536 % 16))) → Sl xs 7 (.int .i64 12) → Q .normal ⟨xs, []⟩ (w.alloc (.cells #[.int .u8 (((dch (R / 65536 % 16)).toNat : Nat) : Int)] 5))) : Code.wp Tryd.prog textBody Q ⟨xs, []⟩ w := by
  have HF := Lib.hid hf
  have HQ := Lib.hid hQ
  obtain ⟨⟨sz, g2, g3, g4⟩, h5⟩ := hf
  unfold Sl at h5 h6 h7
  obtain ⟨d, hd⟩ : ∃ d, d = R / 65536 % 16 := ⟨_, rfl⟩
  have hd16 : d < 16 := by omega
  have hb : bits BinOp.and IntKind.i64 ((R : Int) / 65536) 15 = (d : Int) := by rw [and15 _ (by omega) (by omega)]; omega
  have hdI : (d : Int) < 16 := by omega
  have hix := fun h => hexIdx d h
  have hcv := conv1 d w
  have hcl : t.size + (one1 d).size ≤ 9223372036854775807 := by have : (one1 d).size = 1 := rfl; omega
  have HD := Lib.hid hd
  clear hQ hd
  conv => arg 2; whnf
  repeat (first | go_skip | go_guarded | ((with_reducible refine wp_cond_true ?_ ?_); focus (simp [Act.eval, sz]; done)) | ((with_reducible refine wp_cond_false ?_ ?_); focus (simp [Act.eval, sz]; done)) | ((fail_if_success (with_reducible refine wp_cond_true ?_ ?_)); go_step) | go_upon)
  have hq := HQ.out
  rw [← HD.out] at hq
  exact hq _ (by repeat (first | (with_reducible exact HF.out) | (with_reducible refine Ft.set ?_ _ _ (by decide)))) (by repeat (first | (with_reducible exact Sl.same _) | (with_reducible exact HF.out) | (with_reducible refine Sl.ne ?_ (by decide)))) (by repeat (first | (with_reducible exact Sl.same _) | (with_reducible exact HF.out) | (with_reducible refine Sl.ne ?_ (by decide))))

set_option maxRecDepth 100000 in
set_option maxHeartbeats 2000000 in
theorem text_2 {b0 R : Nat} {w : World} {xs : Array Value} {t : ByteArray} (hf : Ft xs b0) (h6 : Sl xs 6 (.string t)) (h7 : Sl xs 7 (.int .i64 12)) (hR : R < 16777216) (ht : t.size ≤ 100) (hc : w.cell? ⟨b0 + 1, 0, none⟩ = some (.int .i32 (R : Int)))
    {Q : Exit → Act → World → Prop} (hQ : ∀ xs, Ft xs b0 → Sl xs 6 (.string (t ++ one1 (R / 4096 % 16))) → Sl xs 7 (.int .i64 8) → Q .normal ⟨xs, []⟩ (w.alloc (.cells #[.int .u8 (((dch (R / 4096 % 16)).toNat : Nat) : Int)] 5))) : Code.wp Tryd.prog textBody Q ⟨xs, []⟩ w := by
  have HF := Lib.hid hf
  have HQ := Lib.hid hQ
  obtain ⟨⟨sz, g2, g3, g4⟩, h5⟩ := hf
  unfold Sl at h5 h6 h7
  obtain ⟨d, hd⟩ : ∃ d, d = R / 4096 % 16 := ⟨_, rfl⟩
  have hd16 : d < 16 := by omega
  have hb : bits BinOp.and IntKind.i64 ((R : Int) / 4096) 15 = (d : Int) := by rw [and15 _ (by omega) (by omega)]; omega
  have hdI : (d : Int) < 16 := by omega
  have hix := fun h => hexIdx d h
  have hcv := conv1 d w
  have hcl : t.size + (one1 d).size ≤ 9223372036854775807 := by have : (one1 d).size = 1 := rfl; omega
  have HD := Lib.hid hd
  clear hQ hd
  conv => arg 2; whnf
  repeat (first | go_skip | go_guarded | ((with_reducible refine wp_cond_true ?_ ?_); focus (simp [Act.eval, sz]; done)) | ((with_reducible refine wp_cond_false ?_ ?_); focus (simp [Act.eval, sz]; done)) | ((fail_if_success (with_reducible refine wp_cond_true ?_ ?_)); go_step) | go_upon)
  have hq := HQ.out
  rw [← HD.out] at hq
  exact hq _ (by repeat (first | (with_reducible exact HF.out) | (with_reducible refine Ft.set ?_ _ _ (by decide)))) (by repeat (first | (with_reducible exact Sl.same _) | (with_reducible exact HF.out) | (with_reducible refine Sl.ne ?_ (by decide)))) (by repeat (first | (with_reducible exact Sl.same _) | (with_reducible exact HF.out) | (with_reducible refine Sl.ne ?_ (by decide))))

set_option maxRecDepth 100000 in
set_option maxHeartbeats 2000000 in
theorem text_3 {b0 R : Nat} {w : World} {xs : Array Value} {t : ByteArray} (hf : Ft xs b0) (h6 : Sl xs 6 (.string t)) (h7 : Sl xs 7 (.int .i64 8)) (hR : R < 16777216) (ht : t.size ≤ 100) (hc : w.cell? ⟨b0 + 1, 0, none⟩ = some (.int .i32 (R : Int)))
    {Q : Exit → Act → World → Prop} (hQ : ∀ xs, Ft xs b0 → Sl xs 6 (.string (t ++ one1 (R / 256 % 16))) → Sl xs 7 (.int .i64 4) → Q .normal ⟨xs, []⟩ (w.alloc (.cells #[.int .u8 (((dch (R / 256 % 16)).toNat : Nat) : Int)] 5))) : Code.wp Tryd.prog textBody Q ⟨xs, []⟩ w := by
  have HF := Lib.hid hf
  have HQ := Lib.hid hQ
  obtain ⟨⟨sz, g2, g3, g4⟩, h5⟩ := hf
  unfold Sl at h5 h6 h7
  obtain ⟨d, hd⟩ : ∃ d, d = R / 256 % 16 := ⟨_, rfl⟩
  have hd16 : d < 16 := by omega
  have hb : bits BinOp.and IntKind.i64 ((R : Int) / 256) 15 = (d : Int) := by rw [and15 _ (by omega) (by omega)]; omega
  have hdI : (d : Int) < 16 := by omega
  have hix := fun h => hexIdx d h
  have hcv := conv1 d w
  have hcl : t.size + (one1 d).size ≤ 9223372036854775807 := by have : (one1 d).size = 1 := rfl; omega
  have HD := Lib.hid hd
  clear hQ hd
  conv => arg 2; whnf
  repeat (first | go_skip | go_guarded | ((with_reducible refine wp_cond_true ?_ ?_); focus (simp [Act.eval, sz]; done)) | ((with_reducible refine wp_cond_false ?_ ?_); focus (simp [Act.eval, sz]; done)) | ((fail_if_success (with_reducible refine wp_cond_true ?_ ?_)); go_step) | go_upon)
  have hq := HQ.out
  rw [← HD.out] at hq
  exact hq _ (by repeat (first | (with_reducible exact HF.out) | (with_reducible refine Ft.set ?_ _ _ (by decide)))) (by repeat (first | (with_reducible exact Sl.same _) | (with_reducible exact HF.out) | (with_reducible refine Sl.ne ?_ (by decide)))) (by repeat (first | (with_reducible exact Sl.same _) | (with_reducible exact HF.out) | (with_reducible refine Sl.ne ?_ (by decide))))

set_option maxRecDepth 100000 in
set_option maxHeartbeats 2000000 in
theorem text_4 {b0 R : Nat} {w : World} {xs : Array Value} {t : ByteArray} (hf : Ft xs b0) (h6 : Sl xs 6 (.string t)) (h7 : Sl xs 7 (.int .i64 4)) (hR : R < 16777216) (ht : t.size ≤ 100) (hc : w.cell? ⟨b0 + 1, 0, none⟩ = some (.int .i32 (R : Int)))
    {Q : Exit → Act → World → Prop} (hQ : ∀ xs, Ft xs b0 → Sl xs 6 (.string (t ++ one1 (R / 16 % 16))) → Sl xs 7 (.int .i64 0) → Q .normal ⟨xs, []⟩ (w.alloc (.cells #[.int .u8 (((dch (R / 16 % 16)).toNat : Nat) : Int)] 5))) : Code.wp Tryd.prog textBody Q ⟨xs, []⟩ w := by
  have HF := Lib.hid hf
  have HQ := Lib.hid hQ
  obtain ⟨⟨sz, g2, g3, g4⟩, h5⟩ := hf
  unfold Sl at h5 h6 h7
  obtain ⟨d, hd⟩ : ∃ d, d = R / 16 % 16 := ⟨_, rfl⟩
  have hd16 : d < 16 := by omega
  have hb : bits BinOp.and IntKind.i64 ((R : Int) / 16) 15 = (d : Int) := by rw [and15 _ (by omega) (by omega)]; omega
  have hdI : (d : Int) < 16 := by omega
  have hix := fun h => hexIdx d h
  have hcv := conv1 d w
  have hcl : t.size + (one1 d).size ≤ 9223372036854775807 := by have : (one1 d).size = 1 := rfl; omega
  have HD := Lib.hid hd
  clear hQ hd
  conv => arg 2; whnf
  repeat (first | go_skip | go_guarded | ((with_reducible refine wp_cond_true ?_ ?_); focus (simp [Act.eval, sz]; done)) | ((with_reducible refine wp_cond_false ?_ ?_); focus (simp [Act.eval, sz]; done)) | ((fail_if_success (with_reducible refine wp_cond_true ?_ ?_)); go_step) | go_upon)
  have hq := HQ.out
  rw [← HD.out] at hq
  exact hq _ (by repeat (first | (with_reducible exact HF.out) | (with_reducible refine Ft.set ?_ _ _ (by decide)))) (by repeat (first | (with_reducible exact Sl.same _) | (with_reducible exact HF.out) | (with_reducible refine Sl.ne ?_ (by decide)))) (by repeat (first | (with_reducible exact Sl.same _) | (with_reducible exact HF.out) | (with_reducible refine Sl.ne ?_ (by decide))))

set_option maxRecDepth 100000 in
set_option maxHeartbeats 2000000 in
theorem text_5 {b0 R : Nat} {w : World} {xs : Array Value} {t : ByteArray} (hf : Ft xs b0) (h6 : Sl xs 6 (.string t)) (h7 : Sl xs 7 (.int .i64 0)) (hR : R < 16777216) (ht : t.size ≤ 100) (hc : w.cell? ⟨b0 + 1, 0, none⟩ = some (.int .i32 (R : Int)))
    {Q : Exit → Act → World → Prop} (hQ : ∀ xs, Ft xs b0 → Sl xs 6 (.string (t ++ one1 (R / 1 % 16))) → Sl xs 7 (.int .i64 (-4)) → Q .normal ⟨xs, []⟩ (w.alloc (.cells #[.int .u8 (((dch (R / 1 % 16)).toNat : Nat) : Int)] 5))) : Code.wp Tryd.prog textBody Q ⟨xs, []⟩ w := by
  have HF := Lib.hid hf
  have HQ := Lib.hid hQ
  obtain ⟨⟨sz, g2, g3, g4⟩, h5⟩ := hf
  unfold Sl at h5 h6 h7
  obtain ⟨d, hd⟩ : ∃ d, d = R / 1 % 16 := ⟨_, rfl⟩
  have hd16 : d < 16 := by omega
  have hb : bits BinOp.and IntKind.i64 ((R : Int)) 15 = (d : Int) := by rw [and15 _ (by omega) (by omega)]; omega
  have hdI : (d : Int) < 16 := by omega
  have hix := fun h => hexIdx d h
  have hcv := conv1 d w
  have hcl : t.size + (one1 d).size ≤ 9223372036854775807 := by have : (one1 d).size = 1 := rfl; omega
  have HD := Lib.hid hd
  clear hQ hd
  conv => arg 2; whnf
  repeat (first | go_skip | go_guarded | ((with_reducible refine wp_cond_true ?_ ?_); focus (simp [Act.eval, sz]; done)) | ((with_reducible refine wp_cond_false ?_ ?_); focus (simp [Act.eval, sz]; done)) | ((fail_if_success (with_reducible refine wp_cond_true ?_ ?_)); go_step) | go_upon)
  have hq := HQ.out
  rw [← HD.out] at hq
  exact hq _ (by repeat (first | (with_reducible exact HF.out) | (with_reducible refine Ft.set ?_ _ _ (by decide)))) (by repeat (first | (with_reducible exact Sl.same _) | (with_reducible exact HF.out) | (with_reducible refine Sl.ne ?_ (by decide)))) (by repeat (first | (with_reducible exact Sl.same _) | (with_reducible exact HF.out) | (with_reducible refine Sl.ne ?_ (by decide))))

end Go.Proofs.YtlanodchnjojoaaDoor
