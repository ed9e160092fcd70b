/- The law PatternRange: the rounds of its two loops over a text. -/
import Derived.Test.YtlanodchnjojoaaDoorRq
import Derived.Sort.LoopGhostIn
namespace Go.Proofs.YtlanodchnjojoaaDoor
open Go.RowKit
attribute [local go_sem] Oper.semAt_some

/-- The first range over a function in a code: what it assigns, and its body. -/
def firstRange : Code → Option (Code × Code)
  | .rangeFunc _ _ a b => some (a, b)
  | .seq a b => match firstRange a with
    | some c => some c
    | none => firstRange b
  | .block _ c => firstRange c
  | .loop c => firstRange c
  | .scope c => firstRange c
  | _ => none
noncomputable def asgC : Code := ((firstRange restC).map (·.1)).getD .skip
noncomputable def bodyC : Code := ((firstRange restC).map (·.2)).getD .skip
noncomputable def inner1 : Code := (firstLoop bodyC).getD .skip
noncomputable def inner2 : Code := ((pastLoop restC).bind firstLoop).getD .skip

/-- The frame in a round, and behind the rounds. -/
structure F1 (xs : Array Value) (b0 ab mb it : Nat) : Prop where
  g : Fg xs b0
  h10 : Sl xs 10 (.pointer (some ⟨ab, 0, none⟩))
  h11 : Sl xs 11 (.pointer (some ⟨mb, 0, none⟩))
  h70 : Sl xs 70 (.pointer (some ⟨it, 0, none⟩))
theorem F1.set {xs : Array Value} {b0 ab mb it : Nat} (h : F1 xs b0 ab mb it) (d : Nat) (v : Value) (hd : 12 ≤ d ∧ d ≠ 70) : F1 (xs.setIfInBounds d v) b0 ab mb it := ⟨h.g.set d v (by omega), h.h10.ne (by omega), h.h11.ne (by omega), h.h70.ne (by omega)⟩
structure F2 (xs : Array Value) (b0 ab mb it : Nat) : Prop where
  g : Fg xs b0
  h10 : Sl xs 10 (.pointer (some ⟨ab, 0, none⟩))
  h11 : mb = mb
  h70 : Sl xs 128 (.pointer (some ⟨it, 0, none⟩))
theorem F2.set {xs : Array Value} {b0 ab mb it : Nat} (h : F2 xs b0 ab mb it) (d : Nat) (v : Value) (hd : 11 ≤ d ∧ d ≠ 128) : F2 (xs.setIfInBounds d v) b0 ab mb it := ⟨h.g.set d v (by omega), h.h10.ne (by omega), rfl, h.h70.ne (by omega)⟩

set_option maxRecDepth 100000 in
set_option maxHeartbeats 8000000 in
theorem inner1_round {l n b0 ab mb it A pos x R : Nat} {s : ByteArray} {W w2 : World} {xs : Array Value} (hf : F1 xs b0 ab mb it) (hnx : ∀ ty, (Instr.next (.pointer (some ⟨it, 0, none⟩)) true ty).run Tryd.prog W = .ok (.tuple #[.bool true, .int .i64 (pos : Int), .int .i32 (x : Int)]) w2)
    (c0 : w2.cell? ⟨b0, 0, none⟩ = some (.string s)) (c1 : w2.cell? ⟨b0 + 1, 0, none⟩ = some (.int .i32 (R : Int))) (c2 : w2.cell? ⟨ab, 0, none⟩ = some (.int .i64 (A : Int))) (cf : w2.frozen? ⟨ab, 0, none⟩ = false)
    (hsz : s.size ≤ 3000) (hAp : A + pos < s.size) {b : Bool} (hb : b = (decide (x = R) && (decide (R ≠ 65533) || (decide (3 ≤ s.size - (A + pos)) && ((s.extract (A + pos) (A + pos + 3)).toList == lostB.toList)))))
    {Q : Exit → Act → World → Prop} (hno : b = false → ∀ xs, F1 xs b0 ab mb it → Q .normal ⟨xs, []⟩ w2) (hyes : b = true → ∀ xs, F1 xs b0 ab mb it → Q (.exit 4) ⟨xs, []⟩ (w2.setCell ⟨ab, 0, none⟩ (.int .i64 ((A : Int) + (pos : Int))))) : Code.wpIn (Fence.wide.inRound l) n Tryd.prog inner1 Q ⟨xs, []⟩ W := by
  have HF := Lib.hid hf
  have HNO := Lib.hid hno
  have HYES := Lib.hid hyes
  obtain ⟨⟨sz, g2, g3, g4⟩, g10, g11, g70⟩ := hf
  unfold Sl at g10 g11 g70
  have hl : ({ data := #[239, 191, 189] } : ByteArray) = lostB := rfl
  have w1 : IntKind.i64.wrap ((s.size : Int) - (A : Int)) = (s.size : Int) - (A : Int) := by rw [IntKind.wrap_i64]; omega
  have w3 : IntKind.i64.wrap ((s.size : Int) - (A : Int) - (pos : Int)) = (s.size : Int) - (A : Int) - (pos : Int) := by rw [IntKind.wrap_i64]; omega
  have w4 : IntKind.i64.wrap ((A : Int) + (pos : Int)) = (A : Int) + (pos : Int) := by rw [IntKind.wrap_i64]; omega
  have w5 : IntKind.i64.wrap ((A : Int) + (pos : Int) + 3) = (A : Int) + (pos : Int) + 3 := by rw [IntKind.wrap_i64]; omega
  clear hno hyes
  by_cases hx : x = R
  · have hxI : ((x : Int) == (R : Int)) = true := by rw [beq_iff_eq]; omega
    by_cases hR : R = 65533
    · have hRI : ((R : Int) != 65533) = false := by have : ((R : Int) == 65533) = true := by rw [beq_iff_eq]; omega
                                                    simp only [bne, this]; rfl
      by_cases h3 : 3 ≤ s.size - (A + pos)
      · have h3I : (3 : Int) ≤ (s.size : Int) - (A : Int) - (pos : Int) := by omega
        have h4I : (A : Int) + (pos : Int) ≤ (A : Int) + (pos : Int) + 3 := by omega
        have h5I : (A : Int) + (pos : Int) + 3 ≤ (s.size : Int) := by omega
        have h6I : (0 : Int) ≤ (A : Int) + (pos : Int) := by omega
        have h7I : (0 : Int) ≤ (A : Int) + (pos : Int) + 3 := by omega
        have h8I : (A : Int) + (pos : Int) ≤ (s.size : Int) := by omega
        have e1 : ((A : Int) + (pos : Int)).toNat = A + pos := by omega
        have e2 : ((A : Int) + (pos : Int) + 3).toNat = A + pos + 3 := by omega
        cases hE : ((s.extract (A + pos) (A + pos + 3)).toList == lostB.toList)
        · have HBV := Lib.hid (show b = false by rw [hb]; simp [hx, hR, h3, hE])
          clear hx hR h3
          clear hb
          conv => arg 4; whnf
          repeat (first | (focus (rename_i hA hB; cases hA; done)) | gi_guarded | ((with_reducible refine wpIn_cond_true ?_ ?_); focus (simp [Act.eval, sz]; done)) | ((with_reducible refine wpIn_cond_false ?_ ?_); focus (simp [Act.eval, sz]; done)) | ((fail_if_success (with_reducible refine wpIn_cond_true ?_ ?_)); gi_step) | gi_upon)
          skip
          exact HNO.out (by first | exact HBV.out | exact HBV.out) _ (by repeat (first | (with_reducible exact HF.out) | (with_reducible refine F1.set ?_ _ _ (by decide))))
        · have HBV := Lib.hid (show b = true by rw [hb]; simp [hx, hR, h3, hE])
          clear hx hR h3
          clear hb
          conv => arg 4; whnf
          repeat (first | (focus (rename_i hA hB; cases hA; done)) | gi_guarded | ((with_reducible refine wpIn_cond_true ?_ ?_); focus (simp [Act.eval, sz]; done)) | ((with_reducible refine wpIn_cond_false ?_ ?_); focus (simp [Act.eval, sz]; done)) | ((fail_if_success (with_reducible refine wpIn_cond_true ?_ ?_)); gi_step) | gi_upon)
          skip
          exact HYES.out (by first | exact HBV.out | exact HBV.out) _ (by repeat (first | (with_reducible exact HF.out) | (with_reducible refine F1.set ?_ _ _ (by decide))))
      · have h3I : ¬ (3 : Int) ≤ (s.size : Int) - (A : Int) - (pos : Int) := by omega
        have HBV := Lib.hid (show b = false by rw [hb]; simp [hx, hR, h3])
        clear hx hR h3
        clear hb
        conv => arg 4; whnf
        repeat (first | (focus (rename_i hA hB; cases hA; done)) | gi_guarded | ((with_reducible refine wpIn_cond_true ?_ ?_); focus (simp [Act.eval, sz]; done)) | ((with_reducible refine wpIn_cond_false ?_ ?_); focus (simp [Act.eval, sz]; done)) | ((fail_if_success (with_reducible refine wpIn_cond_true ?_ ?_)); gi_step) | gi_upon)
        skip
        exact HNO.out (by first | exact HBV.out | exact HBV.out) _ (by repeat (first | (with_reducible exact HF.out) | (with_reducible refine F1.set ?_ _ _ (by decide))))
    · have hRI : ((R : Int) != 65533) = true := by have : ((R : Int) == 65533) = false := by rw [beq_eq_false_iff_ne]; omega
                                                   simp only [bne, this]; rfl
      have HBV := Lib.hid (show b = true by rw [hb]; simp [hx, hR])
      clear hx hR
      clear hb
      conv => arg 4; whnf
      repeat (first | (focus (rename_i hA hB; cases hA; done)) | gi_guarded | ((with_reducible refine wpIn_cond_true ?_ ?_); focus (simp [Act.eval, sz]; done)) | ((with_reducible refine wpIn_cond_false ?_ ?_); focus (simp [Act.eval, sz]; done)) | ((fail_if_success (with_reducible refine wpIn_cond_true ?_ ?_)); gi_step) | gi_upon)
      skip
      exact HYES.out (by first | exact HBV.out | exact HBV.out) _ (by repeat (first | (with_reducible exact HF.out) | (with_reducible refine F1.set ?_ _ _ (by decide))))
  · have hxI : ((x : Int) == (R : Int)) = false := by rw [beq_eq_false_iff_ne]; omega
    have HBV := Lib.hid (show b = false by rw [hb]; simp [hx])
    clear hx
    clear hb
    conv => arg 4; whnf
    repeat (first | (focus (rename_i hA hB; cases hA; done)) | gi_guarded | ((with_reducible refine wpIn_cond_true ?_ ?_); focus (simp [Act.eval, sz]; done)) | ((with_reducible refine wpIn_cond_false ?_ ?_); focus (simp [Act.eval, sz]; done)) | ((fail_if_success (with_reducible refine wpIn_cond_true ?_ ?_)); gi_step) | gi_upon)
    skip
    exact HNO.out (by first | exact HBV.out | exact HBV.out) _ (by repeat (first | (with_reducible exact HF.out) | (with_reducible refine F1.set ?_ _ _ (by decide))))

set_option maxRecDepth 100000 in
set_option maxHeartbeats 8000000 in
theorem inner2_round {b0 ab mb it A pos x R : Nat} {s : ByteArray} {W w2 : World} {xs : Array Value} {ds : List Deferred} (hf : F2 xs b0 ab mb it) (hnx : ∀ ty, (Instr.next (.pointer (some ⟨it, 0, none⟩)) true ty).run Tryd.prog W = .ok (.tuple #[.bool true, .int .i64 (pos : Int), .int .i32 (x : Int)]) w2)
    (c0 : w2.cell? ⟨b0, 0, none⟩ = some (.string s)) (c1 : w2.cell? ⟨b0 + 1, 0, none⟩ = some (.int .i32 (R : Int))) (c2 : w2.cell? ⟨ab, 0, none⟩ = some (.int .i64 (A : Int))) (cf : w2.frozen? ⟨ab, 0, none⟩ = false)
    (hsz : s.size ≤ 3000) (hAp : A + pos < s.size) {b : Bool} (hb : b = (decide (x = R) && (decide (R ≠ 65533) || (decide (3 ≤ s.size - (A + pos)) && ((s.extract (A + pos) (A + pos + 3)).toList == lostB.toList)))))
    {Q : Exit → Act → World → Prop} (hno : b = false → ∀ xs, F2 xs b0 ab mb it → Q .normal ⟨xs, ds⟩ w2) (hyes : b = true → False) : Code.wp Tryd.prog inner2 Q ⟨xs, ds⟩ W := by
  have HF := Lib.hid hf
  have HNO := Lib.hid hno
  have HYES := Lib.hid hyes
  obtain ⟨⟨sz, g2, g3, g4⟩, g10, _, g70⟩ := hf
  unfold Sl at g10 g70
  have hl : ({ data := #[239, 191, 189] } : ByteArray) = lostB := rfl
  have w1 : IntKind.i64.wrap ((s.size : Int) - (A : Int)) = (s.size : Int) - (A : Int) := by rw [IntKind.wrap_i64]; omega
  have w3 : IntKind.i64.wrap ((s.size : Int) - (A : Int) - (pos : Int)) = (s.size : Int) - (A : Int) - (pos : Int) := by rw [IntKind.wrap_i64]; omega
  have w4 : IntKind.i64.wrap ((A : Int) + (pos : Int)) = (A : Int) + (pos : Int) := by rw [IntKind.wrap_i64]; omega
  have w5 : IntKind.i64.wrap ((A : Int) + (pos : Int) + 3) = (A : Int) + (pos : Int) + 3 := by rw [IntKind.wrap_i64]; omega
  clear hno hyes
  by_cases hx : x = R
  · have hxI : ((x : Int) == (R : Int)) = true := by rw [beq_iff_eq]; omega
    by_cases hR : R = 65533
    · have hRI : ((R : Int) != 65533) = false := by have : ((R : Int) == 65533) = true := by rw [beq_iff_eq]; omega
                                                    simp only [bne, this]; rfl
      by_cases h3 : 3 ≤ s.size - (A + pos)
      · have h3I : (3 : Int) ≤ (s.size : Int) - (A : Int) - (pos : Int) := by omega
        have h4I : (A : Int) + (pos : Int) ≤ (A : Int) + (pos : Int) + 3 := by omega
        have h5I : (A : Int) + (pos : Int) + 3 ≤ (s.size : Int) := by omega
        have h6I : (0 : Int) ≤ (A : Int) + (pos : Int) := by omega
        have h7I : (0 : Int) ≤ (A : Int) + (pos : Int) + 3 := by omega
        have h8I : (A : Int) + (pos : Int) ≤ (s.size : Int) := by omega
        have e1 : ((A : Int) + (pos : Int)).toNat = A + pos := by omega
        have e2 : ((A : Int) + (pos : Int) + 3).toNat = A + pos + 3 := by omega
        cases hE : ((s.extract (A + pos) (A + pos + 3)).toList == lostB.toList)
        · have HBV := Lib.hid (show b = false by rw [hb]; simp [hx, hR, h3, hE])
          clear hx hR h3
          clear hb
          conv => arg 2; whnf
          repeat (first | (focus (rename_i hA hB; cases hA; done)) | go_skip | go_guarded | ((with_reducible refine wp_cond_true ?_ ?_); focus (simp [Act.eval, sz]; done)) | ((with_reducible refine wp_cond_false ?_ ?_); focus (simp [Act.eval, sz]; done)) | ((fail_if_success (with_reducible refine wp_cond_true ?_ ?_)); go_step) | go_upon)
          skip
          exact HNO.out (by first | exact HBV.out | exact HBV.out) _ (by repeat (first | (with_reducible exact HF.out) | (with_reducible refine F2.set ?_ _ _ (by decide))))
        · exact (HYES.out (by rw [hb]; simp [hx, hR, h3, hE])).elim
      · have h3I : ¬ (3 : Int) ≤ (s.size : Int) - (A : Int) - (pos : Int) := by omega
        have HBV := Lib.hid (show b = false by rw [hb]; simp [hx, hR, h3])
        clear hx hR h3
        clear hb
        conv => arg 2; whnf
        repeat (first | (focus (rename_i hA hB; cases hA; done)) | go_skip | go_guarded | ((with_reducible refine wp_cond_true ?_ ?_); focus (simp [Act.eval, sz]; done)) | ((with_reducible refine wp_cond_false ?_ ?_); focus (simp [Act.eval, sz]; done)) | ((fail_if_success (with_reducible refine wp_cond_true ?_ ?_)); go_step) | go_upon)
        skip
        exact HNO.out (by first | exact HBV.out | exact HBV.out) _ (by repeat (first | (with_reducible exact HF.out) | (with_reducible refine F2.set ?_ _ _ (by decide))))
    · have hRI : ((R : Int) != 65533) = true := by have : ((R : Int) == 65533) = false := by rw [beq_eq_false_iff_ne]; omega
                                                   simp only [bne, this]; rfl
      exact (HYES.out (by rw [hb]; simp [hx, hR])).elim
  · have hxI : ((x : Int) == (R : Int)) = false := by rw [beq_eq_false_iff_ne]; omega
    have HBV := Lib.hid (show b = false by rw [hb]; simp [hx])
    clear hx
    clear hb
    conv => arg 2; whnf
    repeat (first | (focus (rename_i hA hB; cases hA; done)) | go_skip | go_guarded | ((with_reducible refine wp_cond_true ?_ ?_); focus (simp [Act.eval, sz]; done)) | ((with_reducible refine wp_cond_false ?_ ?_); focus (simp [Act.eval, sz]; done)) | ((fail_if_success (with_reducible refine wp_cond_true ?_ ?_)); go_step) | go_upon)
    skip
    exact HNO.out (by first | exact HBV.out | exact HBV.out) _ (by repeat (first | (with_reducible exact HF.out) | (with_reducible refine F2.set ?_ _ _ (by decide))))

end Go.Proofs.YtlanodchnjojoaaDoor
