/- The function Compile, of a text that is a pattern. -/
import Derived.Test.YtlanodchnjojoaaDoorLw
import Derived.Defers
import Derived.Recover
import Derived.Laws.Pointers
namespace Go.Proofs.YtlanodchnjojoaaDoor
open Go.RowKit

theorem catch_idle (p1 p2 : Addr) (w : World) :
    CallsD Tryd.prog 10 #[.pointer (some p1), .pointer (some p2)] .returning w fun e u' w' => e = .returned (.tuple #[]) ∧ u' = .returning ∧ w' = w := by
  refine callsD_of_wpS Tryd.func10 rfl fun c₀ cs hu => ?_
  apply wpS_seq
  apply wpS_region
  simp [wpOpsS, go_sem, recoverD, hu, Tryd.ntmps10, Exit.thenS]
  apply wpS_seq
  apply wpS_region
  simp [wpOpsS, go_sem, Exit.thenS]
  refine wpS_cond (t := false) (by simp [Act.eval, Array.replicate]) ?_
  simp only [Bool.false_eq_true, if_false]
  refine wpS_of_wp (wp_skip ?_)
  cases c₀
  simp_all [bodyPostS, results, show Tryd.f10.results = #[] from rfl]

theorem setCell_same {w : World} {b : Nat} {t : TypeId} {xs : List Value} (h : Blk w b t xs) {j : Nat} {v : Value} (hj : xs[j]? = some v) : w.setCell ⟨b, j, none⟩ v = w := by
  have h2 := h.set j v
  have e : xs.set j v = xs := by
    apply List.ext_getElem?
    intro i
    rw [List.getElem?_set]
    split
    · rename_i h1
      subst h1
      split
      · exact hj.symm
      · rename_i h1
        rw [List.getElem?_eq_none (by omega)] at hj; cases hj
    · rfl
  rw [e] at h2
  have hh : (w.setCell ⟨b, j, none⟩ v).heap = w.heap := by
    apply Array.ext_getElem?
    intro i
    by_cases hi : i = b
    · subst hi; exact h2.trans h.symm
    · exact Below.heap_setCell w ⟨b, j, none⟩ v i hi
  cases w
  simp only [World.setCell] at hh ⊢
  rw [hh]

set_option maxRecDepth 100000 in
set_option maxHeartbeats 4000000 in
theorem compile_met {s : ByteArray} (ha : Asc s) (hs : s.size ≤ 1024) {d : Nat} {t : T} {sz : Nat} {q : PS} (hp : pB s d ⟨0, 0, 0⟩ = some (t, sz, q)) (hq : q.at_ = s.size) (hok : t.ok 0 = true) (hn : t.nodes ≤ 5000) (hsm : (lay t).code.length ≤ 5000) (hst : total (lay t).code ≤ 100000000) (w : World) :
    Calls Tryd.prog 6 #[.string s] w fun e w' => (∃ pb cb cap, e = .returned (.tuple #[.pointer (some ⟨pb, 0, none⟩), .agg #[.int .i64 0, .int .i64 0]]) ∧ PatAt w'.heap.size w' pb cb cap (theCode t) q.g (lay t).loops (total (lay t).code)) ∧ Below w.heap.size w w' := by
  have hmf : ∀ (fn : Fn) (first cap : Array Value) (w : World), (Instr.makeFunc fn first cap).run Tryd.prog w = .ok (.func fn first cap) w := fun _ _ _ _ => rfl
  have hs1 : ¬ (1024 : Int) < (s.size : Int) := by omega
  have hb := brOK (rb := w.heap.size + 1 + 1) ha (by omega) d
  go_enter_defers Tryd.func6, Tryd.ntmps6
  go_wp2_with fail
  have HR : Rd (((w.alloc (.cells #[.pointer none] 25)).alloc (.cells #[.int .i64 0, .int .i64 0] 28)).alloc (.cells #[.string s, .int .i64 0, .int .i64 0, .int .i64 0] 49)) (w.heap.size + 1 + 1) s 0 0 0 := Blk.newAt (by simp) 49 [.string s, .int .i64 0, .int .i64 0, .int .i64 0]
  refine (hb _ ⟨0, 0, 0⟩ t sz q HR (Nat.zero_le _) (Nat.zero_le _) (Nat.zero_le _) hp).mono ?_
  rintro e w1 ⟨v, rfl, HV, hA⟩
  obtain ⟨va, vn, vc, rfl⟩ := HV.form
  have hrd := hA.rd
  obtain ⟨c0, c1, c2, c3⟩ := hrd.cells
  have B0 := Lib.hid (Blk.grown (((Blk.new w 25 [.pointer none]).alloc (.cells #[.int .i64 0, .int .i64 0] 28)).alloc (.cells #[.string s, .int .i64 0, .int .i64 0, .int .i64 0] 49)) hA.gr (by simp; omega))
  have B1 := Lib.hid (Blk.grown ((Blk.newAt (b := w.heap.size + 1) (by simp) 28 [.int .i64 0, .int .i64 0]).alloc (.cells #[.string s, .int .i64 0, .int .i64 0, .int .i64 0] 49)) hA.gr (by simp))
  have T1 := Lib.hid (show Turn (fun b => w.heap.size ≤ b) w w1 from Turn.grown (((Turn.refl _ w).alloc _).alloc _ |>.alloc _) hA.gr (by show w.heap.size ≤ w.heap.size + 1 + 1; omega))
  have hq1 : ¬ ((q.at_ : Int) < (s.size : Int)) := by omega
  have x0 := B0.out.cell (j := 0) rfl
  have z0 := B0.out.frozen 0
  have l0 := B0.out.lt
  have l1 := B1.out.lt
  have HV1 := Lib.hid HV
  have hsz1 : w.heap.size + 1 + 1 < w1.heap.size := hrd.lt
  clear hA HV hrd HR hb
  go_wp2_with fail
  have HP : Blk ((w1.setCell ⟨w.heap.size, 0, none⟩ (.pointer (some ⟨w1.heap.size, 0, none⟩))).alloc (.cells #[.slice va vn vc, .int .i64 (q.g : Int), .int .i64 (sz : Int), .slice none 0 0, .int .i64 0, .slice none 0 0, .int .i64 0] 56)) w1.heap.size 56 (ptCells (.slice va vn vc) q.g sz (.slice none 0 0) 0 (.slice none 0 0) 0) := Blk.newAt (by simp [size_set]) 56 [.slice va vn vc, .int .i64 (q.g : Int), .int .i64 (sz : Int), .slice none 0 0, .int .i64 0, .slice none 0 0, .int .i64 0]
  have HVW : RepV ((w1.setCell ⟨w.heap.size, 0, none⟩ (.pointer (some ⟨w1.heap.size, 0, none⟩))).alloc (.cells #[.slice va vn vc, .int .i64 (q.g : Int), .int .i64 (sz : Int), .slice none 0 0, .int .i64 0, .slice none 0 0, .int .i64 0] 56)) (fun b => b ≠ w1.heap.size) (.slice va vn vc) t :=
    RepV.turn HV1.out (S := fun b => b = w.heap.size) (Turn.alloc (Turn.set (Turn.refl (fun b => b = w.heap.size) w1) (p := ⟨w.heap.size, 0, none⟩) rfl _) _) fun b hb hF => by
      simp at hF
      exact ⟨by omega, by omega⟩
  refine (lay_met HP HVW hok hn hsm hst).mono ?_
  rintro e w2 ⟨rfl, ⟨cb, cap, hpa⟩, hT⟩
  have D0 := hT.keep ((B0.out.set 0 (.pointer (some ⟨w1.heap.size, 0, none⟩))).alloc _) (by omega)
  have D1 := hT.keep ((B1.out.set_other (p := ⟨w.heap.size, 0, none⟩) (by show w.heap.size + 1 ≠ w.heap.size; omega) (.pointer (some ⟨w1.heap.size, 0, none⟩))).alloc _) (by omega)
  have T2 : Turn (fun b => w.heap.size ≤ b) w w2 := ((T1.out.set (p := ⟨w.heap.size, 0, none⟩) (Nat.le_refl _) _).alloc _).trans (hT.mono fun b _ h => by omega)
  have HPA := Lib.hid hpa
  have y0 := D0.cell (j := 0) (v := .pointer (some ⟨w1.heap.size, 0, none⟩)) rfl
  have g0 := D0.frozen 0
  have y1 := D1.cell (j := 0) (v := .int .i64 0) rfl
  have y2 := D1.cell (j := 1) (v := .int .i64 0) rfl
  have g1 := D1.frozen 0
  have g2 := D1.frozen 1
  have e0 := setCell_same D0 (j := 0) (v := .pointer (some ⟨w1.heap.size, 0, none⟩)) rfl
  have e1 := setCell_same D1 (j := 0) (v := .int .i64 0) rfl
  have e2 := setCell_same D1 (j := 1) (v := .int .i64 0) rfl
  have HT2 := Lib.hid T2
  have HD0 := Lib.hid D0
  have HD1 := Lib.hid D1
  clear hpa hT T2 D0 D1 HP HVW
  go_wp2_with fail
  refine leaves_cons (f := 10) (args := #[.pointer (some ⟨w.heap.size, 0, none⟩), .pointer (some ⟨w.heap.size + 1, 0, none⟩)]) (by simp) (by simp [go_sem]) ?_
  refine (catch_idle _ _ _).mono ?_
  rintro e u' w'' ⟨rfl, rfl, rfl⟩
  simp [Leaves, settle, results, show Tryd.f6.results = #[.cell 2 25, .cell 3 28] from rfl, go_sem, y0, y1, y2]
  exact ⟨⟨cb, cap, HPA.out⟩, HT2.out.toBelow (Nat.le_refl _) fun b hb hs => by omega⟩

end Go.Proofs.YtlanodchnjojoaaDoor
