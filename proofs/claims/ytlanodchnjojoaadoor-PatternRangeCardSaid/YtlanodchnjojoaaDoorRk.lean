/- The law PatternRange: the body of its range over All. -/
import Derived.Test.YtlanodchnjojoaaDoorRb
namespace Go.Proofs.YtlanodchnjojoaaDoor
open Go.RowKit
attribute [local go_sem] Oper.semAt_some

theorem wpIn_of_eq {F : Fence} {n : Nat} {P : Program} {c c' : Code} {Q : Exit → Act → World → Prop} {a : Act} {w : World} (h : c = c') (hw : Code.wpIn F n P c Q a w) : Code.wpIn F n P c' Q a w := h ▸ hw
theorem turn_put_new {S : Nat → Prop} {w w' : World} (h : Turn S w w') {D : Nat} (hD : w.heap.size ≤ D) (o : Obj) : Turn S w (w'.putObj D o) :=
  ⟨h.os, h.tape, h.output, by simpa using h.size, fun k hk hn => (World.putObj_heap_other (by omega)).trans (h.block k hk hn)⟩
theorem plcS_mono {s : ByteArray} {j : Nat} : ∀ d, j + d ≤ (pieces s).length → plcS s j ≤ plcS s (j + d)
  | 0, _ => Nat.le_refl _
  | d + 1, h => by
    have ih := plcS_mono (s := s) (j := j) d (by omega)
    obtain ⟨_, _, h3⟩ := plcS_lt (s := s) (k := j + d) (by omega)
    rw [show j + (d + 1) = j + d + 1 by omega, h3]
    omega
theorem plcS_le {s : ByteArray} {j k : Nat} (h : j ≤ k) (hk : k ≤ (pieces s).length) : plcS s j ≤ plcS s k := by
  obtain ⟨d, rfl⟩ : ∃ d, k = j + d := ⟨k - j, by omega⟩
  exact plcS_mono d hk

/-- One step of the iterator over the rest of a text. -/
theorem next_tail {s : ByteArray} {A q it : Nat} {W : World} (hA : A ≤ plcS s q) (hq : q < (pieces s).length) (h : W.heap[it]? = some (.stringIter (s.extract A s.size) (plcS s q - A))) :
    ∃ w2, (∀ ty, (Instr.next (.pointer (some ⟨it, 0, none⟩)) true ty).run Tryd.prog W = .ok (.tuple #[.bool true, .int .i64 ((plcS s q - A : Nat) : Int), .int .i32 (((Utf8.decode s (plcS s q)).1 : Nat) : Int)]) w2) ∧
      w2 = W.putObj it (.stringIter (s.extract A s.size) (plcS s (q + 1) - A)) := by
  obtain ⟨h1, _, h3⟩ := plcS_lt hq
  have hd : Utf8.decode (s.extract A s.size) (plcS s q - A) = Utf8.decode s (plcS s q) := by
    rw [Lib.tail_decode, show A + (plcS s q - A) = plcS s q by omega]
  refine ⟨_, fun ty => ?_, rfl⟩
  have := run_next_at (P := Tryd.prog) h ty (by rw [Lib.tail_size]; omega)
  rw [hd] at this
  rw [this, h3]
  congr 3
  omega

set_option maxRecDepth 100000 in
set_option maxHeartbeats 4000000 in
theorem body_met {l n b0 ab mb k j R : Nat} {s : ByteArray} {W : World} {xs : Array Value} {a : Option Addr} {m c : Nat} (hf : Fg xs b0) (h10 : Sl xs 10 (.pointer (some ⟨ab, 0, none⟩))) (h11 : Sl xs 11 (.pointer (some ⟨mb, 0, none⟩)))
    (B0 : Blk W b0 9 [.string s]) (B1 : Blk W (b0 + 1) 21 [.int .i32 (R : Int)]) (BA : Blk W ab 3 [.int .i64 ((plcS s j : Nat) : Int)]) (BM : Blk W mb 35 [.int .i64 ((plcS s k : Nat) : Int), .int .i64 ((plcS s (k + 1) : Nat) : Int), .slice a m c])
    (hjk : j ≤ k) (hno : ∀ i, j ≤ i → i < k → hitK s R i = false) (hk : hitK s R k = true) (hs : s.size ≤ 3000) (n0 : ab ≠ b0) (n1 : ab ≠ b0 + 1) (n2 : ab ≠ mb)
    {Q : Exit → Act → World → Prop} (hQ : ∀ a' W', Blk W' ab 3 [.int .i64 ((plcS s (k + 1) : Nat) : Int)] → Turn (fun b => b = ab) W W' → Q .normal a' W') :
    Code.wpIn (Fence.wide.inRound l) n Tryd.prog bodyC Q ⟨xs, []⟩ W := by
  obtain ⟨hkl, hkm⟩ := hitK_len hk
  obtain ⟨hw1, hw2⟩ := hitK_width hk
  have hjl : plcS s j ≤ s.size := by
    have := plcS_le (s := s) (j := j) (k := (pieces s).length) (by omega) (Nat.le_refl _)
    rw [plcS_end] at this; exact this
  obtain ⟨A, hA⟩ : ∃ A, A = plcS s j := ⟨_, rfl⟩
  rw [← hA] at BA hjl
  have HF := Lib.hid hf
  have H10 := Lib.hid h10
  have H11 := Lib.hid h11
  have HQ := Lib.hid hQ
  have HB0 := Lib.hid B0
  have HB1 := Lib.hid B1
  have HBA := Lib.hid BA
  have HBM := Lib.hid BM
  have HNO := Lib.hid hno
  have HA := Lib.hid hA
  have HK := Lib.hid hk
  have HW1 := Lib.hid hw1
  obtain ⟨sz, g2, g3, g4⟩ := hf
  have c0 := B0.cell (j := 0) rfl
  have c1 := B1.cell (j := 0) rfl
  have c2 := BA.cell (j := 0) rfl
  have hAI : (0 : Int) ≤ (A : Int) ∧ (A : Int) ≤ (s.size : Int) := by omega
  unfold Sl at h10 h11
  clear hQ hno B0 B1 BA BM hk hkm hw1 hA
  conv => arg 4; whnf
  repeat (first | gi_guarded | ((with_reducible refine wpIn_cond_true ?_ ?_); focus (simp [Act.eval, sz]; done)) | ((with_reducible refine wpIn_cond_false ?_ ?_); focus (simp [Act.eval, sz]; done)) | ((fail_if_success (with_reducible refine wpIn_cond_true ?_ ?_)); gi_step) | gi_upon)
  have hq0 : plcS s j - A = 0 := by have := HA.out; omega
  refine wpIn_of_eq (c := Code.loop inner1) (by kernel_rfl) ?_
  refine wpIn_loop_ghost (fun m a' W' => ∃ (xs : Array Value) (q : Nat), a' = ⟨xs, []⟩ ∧ F1 xs b0 ab mb W.heap.size ∧ j ≤ q ∧ q ≤ k ∧ W'.heap[W.heap.size]? = some (.stringIter (s.extract A s.size) (plcS s q - A)) ∧ Turn (fun _ => False) W W' ∧ m = k - q) (k - j)
    ⟨_, j, rfl, ⟨(by repeat (first | (with_reducible exact HF.out) | (with_reducible refine Fg.set ?_ _ _ (by decide)))), (by repeat (first | (with_reducible exact Sl.same _) | (with_reducible exact H10.out) | (with_reducible refine Sl.ne ?_ (by decide)))), (by repeat (first | (with_reducible exact Sl.same _) | (with_reducible exact H11.out) | (with_reducible refine Sl.ne ?_ (by decide)))), (by repeat (first | (with_reducible exact Sl.same _) | (with_reducible exact H10.out) | (with_reducible refine Sl.ne ?_ (by decide))))⟩, Nat.le_refl _, hjk, by rw [hq0]; exact World.iter_heap W _ 0, (Turn.refl _ W).alloc _, rfl⟩ ?_
  rintro m' a' W' ⟨xs1, q, rfl, hf1, hjq, hqk, hit, ht, hm⟩
  have hql : q < (pieces s).length := by omega
  have hAq : A ≤ plcS s q := by rw [HA.out]; exact plcS_le hjq (by omega)
  obtain ⟨w2, hnx, hw2e⟩ := next_tail hAq hql hit
  have hAp : A + (plcS s q - A) = plcS s q := by omega
  have hqlt := (plcS_lt hql).1
  have ht2 : Turn (fun _ => False) W w2 := by rw [hw2e]; exact turn_put_new ht (Nat.le_refl _) _
  have hitlt := (Array.getElem?_eq_some_iff.1 hit).1
  have hit2 : w2.heap[W.heap.size]? = some (.stringIter (s.extract A s.size) (plcS s (q + 1) - A)) := by rw [hw2e]; exact World.putObj_heap_same hitlt
  have b0' := ht2.keep HB0.out (fun h => h)
  have b1' := ht2.keep HB1.out (fun h => h)
  have bA' := ht2.keep HBA.out (fun h => h)
  have bM' := ht2.keep HBM.out (fun h => h)
  refine inner1_round hf1 hnx (b0'.cell rfl) (b1'.cell rfl) (bA'.cell rfl) (bA'.frozen 0) hs (by omega) (b := hitK s R q) (by rw [hAp]; unfold hitK metR; simp [hql]) ?_ ?_
  · intro hb xs2 hf2
    have hqk' : q < k := by
      rcases Nat.lt_or_ge q k with h | h
      · exact h
      · have : q = k := by omega
        subst this
        rw [HK.out] at hb; cases hb
    exact ⟨k - (q + 1), by omega, xs2, q + 1, rfl, hf2, by omega, hqk', hit2, ht2, rfl⟩
  · intro hb xs2 hf2
    have hqk' : q = k := by
      rcases Nat.lt_or_ge q k with h | h
      · rw [HNO.out q hjq h] at hb; cases hb
      · omega
    subst hqk'
    have hpI : (A : Int) + ((plcS s q - A : Nat) : Int) = ((plcS s q : Nat) : Int) := by omega
    rw [hpI]
    have BA2 : Blk (w2.setCell ⟨ab, 0, none⟩ (.int .i64 ((plcS s q : Nat) : Int))) ab 3 [.int .i64 ((plcS s q : Nat) : Int)] := bA'.set 0 _
    have BM2 : Blk (w2.setCell ⟨ab, 0, none⟩ (.int .i64 ((plcS s q : Nat) : Int))) mb 35 [.int .i64 ((plcS s q : Nat) : Int), .int .i64 ((plcS s (q + 1) : Nat) : Int), .slice a m c] := bM'.set_other (Ne.symm n2) _
    have B12 : Blk (w2.setCell ⟨ab, 0, none⟩ (.int .i64 ((plcS s q : Nat) : Int))) (b0 + 1) 21 [.int .i32 (R : Int)] := b1'.set_other (Ne.symm n1) _
    have T2 : Turn (fun b => b = ab) W (w2.setCell ⟨ab, 0, none⟩ (.int .i64 ((plcS s q : Nat) : Int))) := Turn.set (S := fun b => b = ab) (ht2.mono fun b _ h => h.elim) (p := ⟨ab, 0, none⟩) rfl _
    have d1 := B12.cell (j := 0) rfl
    have d2 := BA2.cell (j := 0) rfl
    have d3 := BM2.cell (j := 0) rfl
    have d4 := BM2.cell (j := 1) rfl
    have u2 := BA2.frozen 0
    have hlt2 := BA2.lt
    have HF2 := Lib.hid hf2
    obtain ⟨⟨sz, g2, g3, g4⟩, g10, g11, g70⟩ := hf2
    unfold Sl at g10 g11 g70
    have HBA2 := Lib.hid BA2
    have HT2 := Lib.hid T2
    have hto : ((plcS s (q + 1) : Nat) : Int) = ((plcS s q : Nat) : Int) + (((Utf8.encode (R : Int)).size : Nat) : Int) := by have := HW1.out; omega
    have hle : plcS s (q + 1) ≤ s.size := by
      have := plcS_le (s := s) (j := q + 1) (k := (pieces s).length) (by omega) (Nat.le_refl _)
      rw [plcS_end] at this; exact this
    have wT : IntKind.i64.wrap (((plcS s q : Nat) : Int) + (((Utf8.encode (R : Int)).size : Nat) : Int)) = ((plcS s q : Nat) : Int) + (((Utf8.encode (R : Int)).size : Nat) : Int) := by rw [IntKind.wrap_i64]; omega
    have HTO := Lib.hid hto
    rw [hto] at d4
    clear BA2 BM2 B12 T2 b0' b1' bA' bM' hit2 ht2 hit ht hw2e hnx hf1 hq0 hAq hAp hpI hto hm
    generalize (w2.setCell ⟨ab, 0, none⟩ (.int .i64 ((plcS s q : Nat) : Int))) = W3 at *
    repeat (first | gi_guarded | ((with_reducible refine wpIn_cond_true ?_ ?_); focus (simp [Act.eval, sz]; done)) | ((with_reducible refine wpIn_cond_false ?_ ?_); focus (simp [Act.eval, sz]; done)) | ((fail_if_success (with_reducible refine wpIn_cond_true ?_ ?_)); gi_step) | gi_upon)
    refine HQ.out _ _ ?_ (Turn.set (S := fun b => b = ab) HT2.out (p := ⟨ab, 0, none⟩) rfl _)
    rw [HTO.out]
    exact HBA2.out.set 0 _

end Go.Proofs.YtlanodchnjojoaaDoor
