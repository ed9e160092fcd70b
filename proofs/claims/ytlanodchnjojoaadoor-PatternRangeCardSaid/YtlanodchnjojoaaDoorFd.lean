/- A matcher and what lies beside it. -/
import Derived.Test.YtlanodchnjojoaaDoorAt5
import Derived.Test.YtlanodchnjojoaaDoorMt
namespace Go.Proofs.YtlanodchnjojoaaDoor
open Go.RowKit

variable {w w' : World} {G : Geo} {D : Dyn} {bit : Nat → Nat → Bool}

theorem Mat0.mlt (h : Mat0 w G D bit) : G.mb < w.heap.size := by
  obtain ⟨_, _, _, h1⟩ := h.m; exact h1.lt

theorem Mat0.keep (h : Mat0 w G D bit) (hb : Below G.B w w') (hk : ∀ b, b < w.heap.size → w'.heap[b]? = w.heap[b]?) : Mat0 w' G D bit :=
  have hg : w.grownBy w' none := ⟨hb.os, hb.tape, hb.output, hb.size, fun k hk' _ => hk k hk'⟩
  { h with
    pat := h.pat.keep hb
    below := h.below.trans hb
    m := by obtain ⟨v4, v5, v6, h1⟩ := h.m; exact ⟨v4, v5, v6, h1.keep (hk _ h1.lt)⟩
    pc := h.pc.kept hg (by cases h : G.pv.ownBlock <;> simp)
    jo := h.jo.kept hg (by cases h : D.jv.ownBlock <;> simp)
    bn := h.bn.keep (hk _ h.bn.lt)
    row := fun k hk' => Mat.rowKeep (h.row k hk') fun b hb _ => hk b hb
    kp := fun q o hq => ⟨(h.kp q o hq).1, (hk q (get_lt (h.kp q o hq).2)).trans (h.kp q o hq).2⟩ }
theorem Mat0.new (h : Mat0 w G D bit) (hb : Below w.heap.size w w') : Mat0 w' G D bit := h.keep (hb.mono h.Bsize) fun b hb' => hb.block b hb'

/-- A block more that is to be kept. -/
def Geo.with_ (G : Geo) (b : Nat) (o : Obj) : Geo := { G with kept := (b, o) :: G.kept }

theorem Mat0.fresh (h : Mat0 w G D bit) (hb : Below w.heap.size w w') {b : Nat} {o : Obj} (hge : w.heap.size ≤ b) (ho : w'.heap[b]? = some o) : ∃ D', Mat0 w' (G.with_ b o) D' bit := by
  have h' := h.new hb
  have hre : ∀ q t, q < w.heap.size → D.tag q = t → retag D.tag b 0 q = t := fun q t hq ht => by rw [retag_ne (by omega), ht]
  refine ⟨{ D with tag := retag D.tag b 0 }, ?_⟩
  exact { pat := h'.pat, below := h'.below, m := h'.m, pc := h'.pc, jc := h'.jc, jo := h'.jo, bn := h'.bn, rl := h'.rl,
          row := fun k hk => by
            rcases h.row k hk with h1 | ⟨h1, h2, h3, h4, h5⟩
            · exact .inl h1
            · exact .inr ⟨h1, h2.keep (hb.block _ h2.lt), h3, hre _ _ h2.lt h4, h5⟩,
          tm := hre _ _ h.mlt h.tm, tb := hre _ _ h.bn.lt h.tb, tp := fun q hq => hre _ _ (h.pc.lt q hq).2 (h.tp q hq), tj := fun q hq => hre _ _ (h.jo.lt q hq).2 (h.tj q hq),
          lm := h.lm, lb := h.lb, wf := h.wf, np := h.np, sz := h.sz, pcs := h.pcs, acs := h.acs,
          kp := fun q o' hq => by
            rcases List.mem_cons.1 hq with e | hq
            · cases e; exact ⟨retag_eq _ _ _, ho⟩
            · have := h.kp q o' hq
              exact ⟨hre _ _ (get_lt this.2) this.1, (hb.block q (get_lt this.2)).trans this.2⟩ }

/-- A kept block is given up, and turns. -/
theorem Mat0.turn {b : Nat} {o : Obj} (h : Mat0 w (G.with_ b o) D bit) (hB : G.B ≤ b) (hne : ∀ q o, (q, o) ∈ G.kept → q ≠ b) (hg : w.grownBy w' (some b)) : Mat0 w' G D bit := by
  have h0 := (h.kp b o (by simp [Geo.with_])).1
  have hb : Below G.B w w' := (Below.refl _ _).grown hg h.Bsize fun k hk => by cases hk; exact hB
  have hn : ∀ q t, D.tag q = t → t ≠ 0 → some q ≠ some b := fun q t ht h1 e => by cases e; exact h1 (ht.symm.trans h0)
  exact { pat := h.pat.keep hb, below := h.below.trans hb, m := by obtain ⟨v4, v5, v6, h1⟩ := h.m; exact ⟨v4, v5, v6, h1.grown hg (hn _ _ h.tm (by decide))⟩,
          pc := h.pc.kept hg (Mat.own_ne h.tp (by rw [h0]; decide)), jc := h.jc, jo := h.jo.kept hg (Mat.own_ne h.tj (by rw [h0]; decide)),
          bn := h.bn.grown hg (hn _ _ h.tb (by decide)), rl := h.rl,
          row := fun k hk => by
            rcases h.row k hk with h1 | ⟨h1, h2, h3, h4, h5⟩
            · exact .inl h1
            · exact .inr ⟨h1, h2.grown hg (hn _ _ h4 (by omega)), h3, h4, h5⟩,
          tm := h.tm, tb := h.tb, tp := h.tp, tj := h.tj, lm := h.lm, lb := h.lb, wf := h.wf, np := h.np, sz := h.sz, pcs := h.pcs, acs := h.acs,
          kp := fun q o' hq => by
            have h1 := h.kp q o' (by simp [Geo.with_, hq])
            exact ⟨h1.1, (hg.block q (get_lt h1.2) (fun e => hne q o' hq (by cases e; rfl))).trans h1.2⟩ }

end Go.Proofs.YtlanodchnjojoaaDoor

namespace Go.Proofs.YtlanodchnjojoaaDoor
open Go.RowKit

def FindPost (G : Geo) (fr : Nat) (e : Ending) (w' : World) : Prop :=
  (∃ D bit, Mat0 w' G D bit) ∧
  ((∃ k t a n c, fr ≤ k ∧ k ≤ G.ps.length ∧ t ≤ G.ps.length ∧ (∀ k', fr ≤ k' → k' < k → ∀ t, ¬ Way G.C G.ps k' t) ∧ Way G.C G.ps k t ∧ e = .returned (.tuple #[matchV (plc G k) (plc G t) (.slice a n c), .int .i64 (t : Int), .bool true])) ∨
   ((∀ k', fr ≤ k' → k' ≤ G.ps.length → ∀ t, ¬ Way G.C G.ps k' t) ∧ e = .returned (.tuple #[matchV 0 0 (.slice none 0 0), .int .i64 0, .bool false])))

/-- The frame of find. -/
structure Ff (xs : Array Value) (mb b0 : Nat) : Prop where
  sz : xs.size = 30
  h0 : ∀ h : 0 < xs.size, xs[0] = .pointer (some ⟨mb, 0, none⟩)
  h4 : ∀ h : 4 < xs.size, xs[4] = .pointer (some ⟨b0, 0, none⟩)
theorem Ff.set {xs : Array Value} {mb b0 : Nat} (h : Ff xs mb b0) (d : Nat) (v : Value) (hd : 5 ≤ d) : Ff (xs.setIfInBounds d v) mb b0 where
  sz := by simp [h.sz]
  h0 := Sl.ne (show Sl xs 0 _ from h.h0) (by omega)
  h4 := Sl.ne (show Sl xs 4 _ from h.h4) (by omega)

noncomputable def findBody : Code := (firstLoop (Tryd.f16.body.getD .skip)).getD .skip

def FindI (G : Geo) (b0 fr k : Nat) (w : World) : Prop :=
  ∃ D bit, Mat0 w (G.with_ b0 (.cells #[.int .i64 0, .int .i64 0, .slice none 0 0] 35)) D bit ∧ Clo G.C G.ps (visOf G.C bit) fr (fun _ => False) ∧ fr ≤ k ∧ k ≤ G.ps.length + 1 ∧ ∀ k', fr ≤ k' → k' < k → ∀ t, ¬ Way G.C G.ps k' t

structure FOuts (Q : Exit → Act → World → Prop) (G : Geo) (b0 fr k : Nat) : Prop where
  next : ∀ xs w, Ff xs G.mb b0 → Sl xs 7 (.int .i64 ((k : Int) + 1)) → FindI G b0 fr (k + 1) w → Q .normal ⟨xs, []⟩ w
  out : ∀ xs w, Ff xs G.mb b0 → FindI G b0 fr k w → k = G.ps.length + 1 → Q (.exit 0) ⟨xs, []⟩ w
  ret : ∀ xs w t a n c, k ≤ G.ps.length → Ff xs G.mb b0 → Sl xs 5 (.int .i64 ((t : Nat) : Int)) → Sl xs 6 (.bool true) → t ≤ G.ps.length → Way G.C G.ps k t → (∀ k', fr ≤ k' → k' < k → ∀ t, ¬ Way G.C G.ps k' t) → Blk w b0 35 [.int .i64 (plc G k), .int .i64 (plc G t), .slice a n c] → (∃ D bit, Mat0 w G D bit) → Q .ret ⟨xs, []⟩ w

set_option maxRecDepth 100000 in
set_option maxHeartbeats 2000000 in
theorem find_round {G : Geo} {b0 fr k : Nat} {w : World} {xs : Array Value} (hI : FindI G b0 fr k w) (hf : Ff xs G.mb b0) (h7 : Sl xs 7 (.int .i64 (k : Int))) {Q : Exit → Act → World → Prop} (hQ : FOuts Q G b0 fr k) (hb0 : G.B ≤ b0) (hne : ∀ q o, (q, o) ∈ G.kept → q ≠ b0) : Code.wp Tryd.prog findBody Q ⟨xs, []⟩ w := by
  have HI := Lib.hid hI
  obtain ⟨D, bit, hM, hclo, hk1, hk2, hno⟩ := hI
  have hnp : G.ps.length ≤ 65536 := hM.np
  obtain ⟨v4, v5, v6, hm⟩ := hM.m
  have hm2 := hm.cell (j := 2) (v := G.pv) rfl
  obtain ⟨pa, pn, pcap, hpv⟩ := ownsRow_form hM.pc
  have hpl : pn = G.ps.length := by
    rcases hM.pc.2 with ⟨h1, h2⟩ | ⟨g, cap, cur, h1, _⟩
    · rw [show (G.with_ b0 _).pv = G.pv from rfl] at h1 hpv; rw [h1] at hpv; cases hpv; exact h2.symm
    · rw [show (G.with_ b0 _).pv = G.pv from rfl] at h1 hpv; rw [h1] at hpv; cases hpv; rfl
  rw [show (G.with_ b0 _).pv = G.pv from rfl] at hpv
  rw [hpv, hpl] at hm2
  have hmb : (G.with_ b0 (.cells #[.int .i64 0, .int .i64 0, .slice none 0 0] 35)).mb = G.mb := rfl
  rw [hmb] at hm2
  have HF := Lib.hid hf
  have H7 := Lib.hid h7
  obtain ⟨sz, g0, g4⟩ := hf
  unfold Sl at h7
  have HQ := Lib.hid hQ
  clear hQ hpv hm
  by_cases hle : k ≤ G.ps.length
  · have hat := at_met hM (k0 := fr) hle hclo
    rw [hmb] at hat
    have HM := Lib.hid hM
    have HC := Lib.hid hclo
    have HNO := Lib.hid hno
    clear hM hclo hno
    have hw1 : IntKind.i64.wrap ((k : Int) + 1) = (k : Int) + 1 := by rw [IntKind.wrap_i64]; omega
    conv => arg 2; whnf
    repeat (first | go_skip | go_guarded | ((with_reducible refine wp_cond_true ?_ ?_); focus (simp [Act.eval, sz]; done)) | ((with_reducible refine wp_cond_false ?_ ?_); focus (simp [Act.eval, sz]; done)) | ((fail_if_success (with_reducible refine wp_cond_true ?_ ?_)); go_step) | go_upon)
    refine hat.mono ?_
    clear hat
    rintro e w1 (⟨he, hD⟩ | ⟨t, he, hG⟩)
    · subst he
      have HD := Lib.hid hD
      clear hD
      go_simp
      repeat (first | go_skip | go_guarded | ((with_reducible refine wp_cond_true ?_ ?_); focus (simp [Act.eval, sz]; done)) | ((with_reducible refine wp_cond_false ?_ ?_); focus (simp [Act.eval, sz]; done)) | ((fail_if_success (with_reducible refine wp_cond_true ?_ ?_)); go_step) | go_upon)
      obtain ⟨⟨D2, bit2, hM2, hC2⟩, hno2⟩ := HD.out.more
      exact HQ.out.next _ _ (by repeat (first | (with_reducible exact HF.out) | (with_reducible refine Ff.set ?_ _ _ (by decide)))) (by repeat (first | (with_reducible exact Sl.same _) | (with_reducible exact HF.out) | (with_reducible refine Sl.ne ?_ (by decide)))) ⟨D2, bit2, hM2, hC2, by omega, by omega, fun k' h1 h2 t => by
        by_cases e : k' = k
        · subst e; exact hno2 hk1 t
        · exact HNO.out k' h1 (by omega) t⟩
    · subst he
      obtain ⟨⟨D2, bit2, jobs2, bg2, hM2, hj2⟩, hway, htl⟩ := hG
      have hmt := match_met hM2 k t hle htl
      rw [hmb] at hmt
      have HM2 := Lib.hid hM2
      have HJ2 := Lib.hid hj2
      have HW := Lib.hid hway
      clear hM2 hj2 hway
      have hge : ¬ ((t : Int) < 0) := by omega
      go_simp
      repeat (first | go_skip | go_guarded | ((with_reducible refine wp_cond_true ?_ ?_); focus (simp [Act.eval, sz]; done)) | ((with_reducible refine wp_cond_false ?_ ?_); focus (simp [Act.eval, sz]; done)) | ((fail_if_success (with_reducible refine wp_cond_true ?_ ?_)); go_step) | go_upon)
      refine hmt.mono ?_
      clear hmt
      rintro e w2 ⟨a, n, c, he, hM3⟩
      subst he
      obtain ⟨D4, hM4⟩ := hM3.toMat0 HJ2.out
      have hB0 : Blk w2 b0 35 [.int .i64 0, .int .i64 0, .slice none 0 0] := (hM4.kp b0 _ (by simp [Geo.with_])).2
      have q0 := hB0.cell (j := 0) rfl
      have q1 := hB0.cell (j := 1) rfl
      have q2 := hB0.cell (j := 2) rfl
      have r0 := hB0.frozen 0
      have r1 := hB0.frozen 1
      have r2 := hB0.frozen 2
      have HB0 := Lib.hid hB0
      have HM4 := Lib.hid hM4
      clear hB0 hM3 hM4
      unfold matchV
      go_simp
      repeat (first | go_skip | go_guarded | ((with_reducible refine wp_cond_true ?_ ?_); focus (simp [Act.eval, sz]; done)) | ((with_reducible refine wp_cond_false ?_ ?_); focus (simp [Act.eval, sz]; done)) | ((fail_if_success (with_reducible refine wp_cond_true ?_ ?_)); go_step) | go_upon)
      refine HQ.out.ret _ _ t a n c hle (by repeat (first | (with_reducible exact HF.out) | (with_reducible refine Ff.set ?_ _ _ (by decide)))) (by repeat (first | (with_reducible exact Sl.same _) | (with_reducible exact HF.out) | (with_reducible refine Sl.ne ?_ (by decide)))) (by repeat (first | (with_reducible exact Sl.same _) | (with_reducible exact HF.out) | (with_reducible refine Sl.ne ?_ (by decide)))) htl HW.out HNO.out ?_ ?_
      · have hb3 := ((HB0.out.set 0 (.int .i64 (plc G k))).set 1 (.int .i64 (plc G t))).set 2 (.slice a n c)
        exact hb3
      · exact ⟨D4, bit2, HM4.out.turn hb0 hne (((grown_setCell _ ⟨b0, 0, none⟩ _).trans (grown_setCell _ ⟨b0, 1, none⟩ _)).trans (grown_setCell _ ⟨b0, 2, none⟩ _))⟩
  · clear hM hclo hno
    have hle' : ¬ ((k : Int) ≤ (G.ps.length : Int)) := by omega
    conv => arg 2; whnf
    repeat (first | go_skip | go_guarded | ((with_reducible refine wp_cond_true ?_ ?_); focus (simp [Act.eval, sz]; done)) | ((with_reducible refine wp_cond_false ?_ ?_); focus (simp [Act.eval, sz]; done)) | ((fail_if_success (with_reducible refine wp_cond_true ?_ ?_)); go_step) | go_upon)
    exact HQ.out.out _ _ (by repeat (first | (with_reducible exact HF.out) | (with_reducible refine Ff.set ?_ _ _ (by decide)))) HI.out (by omega)

theorem find_results {w : World} {xs : Array Value} {mb b : Nat} {u v : Value} {x y : Int} {a : Option Addr} {n c : Nat} (hf : Ff xs mb b) (h5 : Sl xs 5 u) (h6 : Sl xs 6 v) (hb : Blk w b 35 [.int .i64 x, .int .i64 y, .slice a n c]) :
    (results Tryd.f16 xs).run Tryd.prog w = .ok (.tuple #[.agg #[.int .i64 x, .int .i64 y, .slice a n c], u, v]) w := by
  have q0 := hb.cell (j := 0) rfl
  have q1 := hb.cell (j := 1) rfl
  have q2 := hb.cell (j := 2) rfl
  have e4 := hf.h4 (by rw [hf.sz]; decide)
  have e5 := h5 (by rw [hf.sz]; decide)
  have e6 := h6 (by rw [hf.sz]; decide)
  have sz := hf.sz
  simp only [results, show Tryd.f16.results = #[.cell 4 35, .tmp 5, .tmp 6] from rfl]
  go_simp

set_option maxRecDepth 100000 in
set_option maxHeartbeats 2000000 in
theorem find_met {G : Geo} {w : World} {D : Dyn} {bit : Nat → Nat → Bool} (h : Mat0 w G D bit) {fr : Nat} (hfr : fr ≤ G.ps.length) (hclo : Clo G.C G.ps (visOf G.C bit) fr fun _ => False) :
    Calls Tryd.prog 16 #[.pointer (some ⟨G.mb, 0, none⟩), .int .i64 fr] w (FindPost G fr) := by
  have hB := h.Bsize
  have hne : ∀ q o, (q, o) ∈ G.kept → q ≠ w.heap.size := fun q o hq e => by have := get_lt (h.kp q o hq).2; omega
  obtain ⟨D1, h1⟩ := h.fresh (b := w.heap.size) ((Below.refl w.heap.size w).alloc (Nat.le_refl _) (.cells #[.int .i64 0, .int .i64 0, .slice none 0 0] 35)) (Nat.le_refl _) (heap_alloc_new w _)
  have hI : FindI G w.heap.size fr fr (w.alloc (.cells #[.int .i64 0, .int .i64 0, .slice none 0 0] 35)) := ⟨D1, bit, h1, hclo, Nat.le_refl _, by omega, fun k' a b => by omega⟩
  clear h h1 hclo
  generalize hb : w.heap.size = b at *
  go_enter Tryd.func16, Tryd.ntmps16
  repeat (first | go_skip | go_guarded | ((with_reducible refine wp_cond_true ?_ ?_); focus (simp [Act.eval, sz]; done)) | ((with_reducible refine wp_cond_false ?_ ?_); focus (simp [Act.eval, sz]; done)) | ((fail_if_success (with_reducible refine wp_cond_true ?_ ?_)); go_step) | go_upon)
  refine wp_of_eq (c := Code.loop findBody) (by kernel_rfl) ?_
  refine wp_loop_ghost (fun n a w => ∃ xs k, a = ⟨xs, []⟩ ∧ Ff xs G.mb b ∧ Sl xs 7 (.int .i64 ((k : Nat) : Int)) ∧ FindI G b fr k w ∧ n = G.ps.length + 1 - k) (G.ps.length + 1 - fr) ⟨_, fr, rfl, ⟨by simp, fun _ => by simp [hb], fun _ => by simp [hb]⟩, (fun _ => by simp), hI, rfl⟩ ?_
  rintro n a w' ⟨xs, k, rfl, hf, h7, hI', hn⟩
  refine find_round hI' hf h7 ⟨?_, ?_, ?_⟩ (by omega) hne
  · intro xs' w2 hf' h7' hI2
    obtain ⟨_, _, _, _, _, hk2, _⟩ := id hI2
    exact ⟨G.ps.length + 1 - (k + 1), by omega, xs', k + 1, rfl, hf', by simpa using h7', hI2, rfl⟩
  · intro xs' w2 hf' hI2 hk
    have HF := Lib.hid hf'
    have HI2 := Lib.hid hI2
    obtain ⟨sz, g0, g4⟩ := hf'
    obtain ⟨D2, bit2, hM2, hC2, _, _, hno⟩ := hI2
    have hB0 : Blk w2 b 35 [.int .i64 0, .int .i64 0, .slice none 0 0] := (hM2.kp b _ (by simp [Geo.with_])).2
    have q0 := hB0.cell (j := 0) rfl
    have q1 := hB0.cell (j := 1) rfl
    have q2 := hB0.cell (j := 2) rfl
    have r0 := hB0.frozen 0
    have r1 := hB0.frozen 1
    have r2 := hB0.frozen 2
    have HB0 := Lib.hid hB0
    have HM2 := Lib.hid hM2
    have HNO := Lib.hid hno
    clear hM2 hC2 hno hB0
    repeat (first | go_skip | go_guarded | ((with_reducible refine wp_cond_true ?_ ?_); focus (simp [Act.eval, sz]; done)) | ((with_reducible refine wp_cond_false ?_ ?_); focus (simp [Act.eval, sz]; done)) | ((fail_if_success (with_reducible refine wp_cond_true ?_ ?_)); go_step) | go_upon)
    have hB3 := ((HB0.out.set 0 (.int .i64 0)).set 1 (.int .i64 0)).set 2 (.slice none 0 0)
    refine bodyPost_ret_by (find_results (xs := (((xs'.setIfInBounds 29 (.agg #[.int .i64 0, .int .i64 0, .slice none 0 0])).setIfInBounds 5 (.int .i64 0)).setIfInBounds 6 (.bool false))) (mb := G.mb) (b := b) (x := 0) (y := 0) (a := none) (n := 0) (c := 0) (u := .int .i64 0) (v := .bool false) (by repeat (first | (with_reducible exact HF.out) | (with_reducible refine Ff.set ?_ _ _ (by decide)))) (by repeat (first | (with_reducible exact Sl.same _) | (with_reducible exact HF.out) | (with_reducible refine Sl.ne ?_ (by decide)))) (by repeat (first | (with_reducible exact Sl.same _) | (with_reducible exact HF.out) | (with_reducible refine Sl.ne ?_ (by decide)))) (by simpa using hB3)) rfl ⟨⟨D2, bit2, HM2.out.turn (by omega) hne (((grown_setCell _ ⟨b, 0, none⟩ _).trans (grown_setCell _ ⟨b, 1, none⟩ _)).trans (grown_setCell _ ⟨b, 2, none⟩ _))⟩, .inr ⟨fun k' h1 h2 => HNO.out k' h1 (by omega), rfl⟩⟩
  · intro xs' w2 t a n c hle hf' h5 h6 htl hway hno hB0 hM
    obtain ⟨_, _, _, _, hk1, _, _⟩ := id hI'
    exact bodyPost_ret_by (find_results hf' h5 h6 hB0) rfl ⟨hM, .inl ⟨k, t, a, n, c, hk1, hle, htl, hno, hway, rfl⟩⟩

end Go.Proofs.YtlanodchnjojoaaDoor
