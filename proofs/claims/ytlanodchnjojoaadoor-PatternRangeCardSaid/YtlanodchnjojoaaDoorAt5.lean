/- The outer loop of the method at, the whole of it. -/
import Derived.Test.YtlanodchnjojoaaDoorAt3
namespace Go.Proofs.YtlanodchnjojoaaDoor
open Go.RowKit

/-- Nothing is left to do. -/
def OutD (G : Geo) (X : Cx) (w : World) : Prop := ∃ D bit bg, Mat w G D bit [] bg ∧ D.jm = D.jv ∧ OI X bit [] bg

theorem out_round {G : Geo} {k0 ks n : Nat} (hn : n ≤ 100000000000) {w : World} {xs : Array Value} (hI : OutI G (G.cx k0 ks) n w) (hf : Fr xs G.mb) {Q : Exit → Act → World → Prop}
    (hQ : OuOuts Q G (fun w => ∃ m, m < n ∧ OutI G (G.cx k0 ks) m w) (OutD G (G.cx k0 ks)) (Got G (G.cx k0 ks))) : Code.wp Tryd.prog outBody Q ⟨xs, []⟩ w := by
  obtain ⟨D, bit, jobs, bg, hM, hj, hO, hl, hg⟩ := hI
  cases jobs with
  | nil => exact out_end hM hj hf hQ ⟨D, bit, bg, hM, hj, hO⟩
  | cons j r =>
    have hrl : r.length + 1 + 2 * unv bit G.S (G.ps.length + 1) ≤ n := by unfold left at hl; simp at hl; omega
    have hl' : left G bit r ≤ n - 1 := by unfold left; omega
    cases j with
    | try_ pc k =>
      exact out_try hM hj hf (μ := n - 1) (by omega) hO.pop_try hl' hg.tail ⟨fun xs w hf h => hQ.next xs w hf ⟨n - 1, by omega, h⟩, hQ.done, hQ.pan, hQ.ret⟩ (by omega)
    | loop l v =>
      exact out_loop hM hj hf hO.ok.1 hQ (fun w' D' h1 h2 => ⟨n - 1, by omega, D', bit, r, _, h2, h1, hO.pop_loop, hl', hg.tail⟩) (by omega)
    | grp g x y z =>
      exact out_grp hM hj hf (hg g x y z (by simp)) hQ (fun w' D' h1 h2 => ⟨n - 1, by omega, D', bit, r, _, h2, h1, hO.pop_grp, hl', hg.tail⟩) (by omega)

/-- What the outer loop may come to. -/
structure AtOuts (Q : Exit → Act → World → Prop) (G : Geo) (Dn : World → Prop) (R : Nat → World → Prop) : Prop where
  done : ∀ xs w, Fr xs G.mb → Dn w → Q (.exit 2) ⟨xs, []⟩ w
  pan : ∀ c a (d : Option Tmp) v w, Q (.panic c) (a.put d v) w → Q (.panic c) a w
  ret : ∀ xs w k, Fr xs G.mb → Sl xs 6 (.int .i64 ((k : Nat) : Int)) → R k w → Q .ret ⟨xs, []⟩ w

theorem out_whole {G : Geo} {k0 ks n : Nat} (hn : n ≤ 100000000000) {w : World} {xs : Array Value} (hI : OutI G (G.cx k0 ks) n w) (hf : Fr xs G.mb) {Q : Exit → Act → World → Prop}
    (hQ : AtOuts Q G (OutD G (G.cx k0 ks)) (Got G (G.cx k0 ks))) : Code.wp Tryd.prog (Code.loop outBody) Q ⟨xs, []⟩ w := by
  refine wp_loop_ghost (fun n a w => n ≤ 100000000000 ∧ ∃ xs, a = ⟨xs, []⟩ ∧ Fr xs G.mb ∧ OutI G (G.cx k0 ks) n w) n ⟨hn, xs, rfl, hf, hI⟩ ?_
  rintro n a w ⟨hn, xs, rfl, hf, hI⟩
  refine out_round hn hI hf ⟨?_, ?_, ?_, ?_⟩
  · rintro xs' w' hf' ⟨m, hm, hI'⟩
    exact ⟨m, hm, by omega, xs', rfl, hf', hI'⟩
  · intro xs' w' hf' hE
    exact hQ.done xs' w' hf' hE
  · intro c a d v w h
    exact hQ.pan c a d v w h
  · intro xs' w' k' hf' h6 hR
    exact hQ.ret xs' w' k' hf' h6 hR

end Go.Proofs.YtlanodchnjojoaaDoor

namespace Go.Proofs.YtlanodchnjojoaaDoor
open Go.RowKit

/-- The list of jobs as a field holds it, and cut to nothing. -/
def CutTo (a b : Value) : Prop := (a = .slice none 0 0 ∧ b = .slice none 0 0) ∨ ∃ (g : Nat) (n cap : Nat), a = .slice (some ⟨g, 0, none⟩) n cap ∧ n ≤ cap ∧ b = .slice (some ⟨g, 0, none⟩) 0 cap

/-- A matcher that may begin. -/
structure Mat0 (w : World) (G : Geo) (D : Dyn) (bit : Nat → Nat → Bool) : Prop where
  pat : PatAt G.B w G.pb G.cb G.capc G.C G.ng G.nl G.S
  below : Below G.B G.w0 w
  m : ∃ v4 v5 v6, Blk w G.mb 66 [.pointer (some ⟨G.pb, 0, none⟩), .string G.s, G.pv, .slice (some ⟨G.bb, 0, none⟩) (G.ps.length + 1) (G.ps.length + 1), v4, v5, v6, D.jm]
  pc : w.ownsRow G.B 85 4 G.pv G.ps.length (G.ps.flatMap pcCells)
  jc : CutTo D.jm D.jv
  jo : w.ownsRow G.B 102 8 D.jv 0 []
  bn : Blk w G.bb 116 D.rows
  rl : D.rows.length = G.ps.length + 1
  row : ∀ k, k ≤ G.ps.length → RowAt w G D.rows D.rb D.wd D.tag bit k
  tm : D.tag G.mb = 1
  tb : D.tag G.bb = 2
  tp : ∀ q, G.pv.ownBlock = some q → D.tag q = 3
  tj : ∀ q, D.jv.ownBlock = some q → D.tag q = 7
  lm : G.B ≤ G.mb
  lb : G.B ≤ G.bb
  wf : WF G.C G.ng G.nl G.S
  np : G.ps.length ≤ 65536
  sz : G.s.size ≤ 65536
  pcs : ∀ p ∈ G.ps, p.at_ < G.s.size
  acs : ∀ st ∈ G.C, st.dO = 0 → st.what = 0 ∨ (st.what = 1 ∧ ∀ p ∈ G.ps, simple p)
  kp : ∀ q o, (q, o) ∈ G.kept → D.tag q = 0 ∧ w.heap[q]? = some o

theorem ownsRow_cut0 {w : World} {B : Nat} {e : TypeId} {size n : Nat} {v : Value} {xs : List Value} (h : w.ownsRow B e size v n xs) : ∃ b, CutTo v b ∧ b.ownBlock = v.ownBlock ∧ w.ownsRow B e size b 0 [] := by
  rcases h.2 with ⟨h1, h2⟩ | ⟨g, cap, cur, h1, h2, h3, h4, h5, h6, h7⟩
  · exact ⟨_, .inl ⟨h1, rfl⟩, by rw [h1], by simp, .inl ⟨rfl, rfl⟩⟩
  · exact ⟨.slice (some ⟨g, 0, none⟩) 0 cap, .inr ⟨g, n, cap, h1, h4, rfl⟩, by rw [h1]; rfl, by simp, .inr ⟨g, cap, cur, rfl, h2, h3, Nat.zero_le _, h5, h6, by simp⟩⟩

theorem Mat.toMat0 {w : World} {G : Geo} {D : Dyn} {bit : Nat → Nat → Bool} {jobs : List Job} {bg : List Nat} (h : Mat w G D bit jobs bg) (hj : D.jm = D.jv) : ∃ D', Mat0 w G D' bit := by
  obtain ⟨b, h1, h2, h3⟩ := ownsRow_cut0 h.jo
  refine ⟨{ D with jv := b }, ?_⟩
  exact { pat := h.pat, below := h.below, m := ⟨_, _, _, h.m⟩, pc := h.pc, jc := by rw [show ({ D with jv := b } : Dyn).jm = D.jv from hj]; exact h1, jo := h3, bn := h.bn, rl := h.rl, row := h.row, tm := h.tm, tb := h.tb, tp := h.tp, tj := fun q hq => h.tj q (by rw [← h2]; exact hq), lm := h.lm, lb := h.lb, wf := h.wf, np := h.np, sz := h.sz, pcs := h.pcs, acs := h.acs, kp := h.kp }

theorem Mat0.Bsize {w : World} {G : Geo} {D : Dyn} {bit : Nat → Nat → Bool} (h : Mat0 w G D bit) : G.B ≤ w.heap.size := by
  obtain ⟨_, _, _, h1⟩ := h.m
  exact Nat.le_trans h.lm (Nat.le_of_lt h1.lt)

/-- Behind the makes. -/
theorem Mat0.start {w : World} {G : Geo} {D : Dyn} {bit : Nat → Nat → Bool} (h : Mat0 w G D bit) {n : Nat} (hn : n = w.heap.size) :
    ∃ D', D'.jm = D.jm ∧ D'.jv = D.jv ∧ Mat ((((((w.alloc (.cells (i64s (List.replicate (2 * G.ng) 0)).toArray 32)).setCell ⟨G.mb, 4, none⟩ (.slice (some ⟨n, 0, none⟩) G.ng G.ng)).alloc (.cells (i64s (List.replicate G.ng 0)).toArray 3)).setCell ⟨G.mb, 5, none⟩ (.slice (some ⟨n + 1, 0, none⟩) G.ng G.ng)).alloc
      (.cells (natVals (List.replicate G.nl 0)).toArray 3)).setCell ⟨G.mb, 6, none⟩ (.slice (some ⟨n + 2, 0, none⟩) G.nl G.nl)) G D' bit [] (List.replicate G.nl 0) := by
  subst hn
  obtain ⟨v4, v5, v6, hm⟩ := h.m
  have hB := h.Bsize
  have hlt := hm.lt
  have b1 := hm.alloc (.cells (i64s (List.replicate (2 * G.ng) 0)).toArray 32)
  have b2 := (b1.set 4 (.slice (some ⟨w.heap.size, 0, none⟩) G.ng G.ng)).alloc (.cells (i64s (List.replicate G.ng 0)).toArray 3)
  have b3 := (b2.set 5 (.slice (some ⟨w.heap.size + 1, 0, none⟩) G.ng G.ng)).alloc (.cells (natVals (List.replicate G.nl 0)).toArray 3)
  have b4 := b3.set 6 (.slice (some ⟨w.heap.size + 2, 0, none⟩) G.nl G.nl)
  have s1 := (((((Blk.new w 32 (i64s (List.replicate (2 * G.ng) 0))).set_other (p := ⟨G.mb, 4, none⟩) (show w.heap.size ≠ G.mb by omega) (.slice (some ⟨w.heap.size, 0, none⟩) G.ng G.ng)).alloc (.cells (i64s (List.replicate G.ng 0)).toArray 3)).set_other (p := ⟨G.mb, 5, none⟩) (show w.heap.size ≠ G.mb by omega) (.slice (some ⟨w.heap.size + 1, 0, none⟩) G.ng G.ng)).alloc (.cells (natVals (List.replicate G.nl 0)).toArray 3)).set_other (p := ⟨G.mb, 6, none⟩) (show w.heap.size ≠ G.mb by omega) (.slice (some ⟨w.heap.size + 2, 0, none⟩) G.nl G.nl)
  have z1 : ((w.alloc (.cells (i64s (List.replicate (2 * G.ng) 0)).toArray 32)).setCell ⟨G.mb, 4, none⟩ (.slice (some ⟨w.heap.size, 0, none⟩) G.ng G.ng)).heap.size = w.heap.size + 1 := by simp [World.setCell]
  have s2 := (((Blk.new ((w.alloc (.cells (i64s (List.replicate (2 * G.ng) 0)).toArray 32)).setCell ⟨G.mb, 4, none⟩ (.slice (some ⟨w.heap.size, 0, none⟩) G.ng G.ng)) 3 (i64s (List.replicate G.ng 0))).set_other (p := ⟨G.mb, 5, none⟩) (show _ ≠ G.mb by rw [z1]; omega) (.slice (some ⟨w.heap.size + 1, 0, none⟩) G.ng G.ng)).alloc (.cells (natVals (List.replicate G.nl 0)).toArray 3)).set_other (p := ⟨G.mb, 6, none⟩) (show _ ≠ G.mb by rw [z1]; omega) (.slice (some ⟨w.heap.size + 2, 0, none⟩) G.nl G.nl)
  rw [z1] at s2
  have z2 : (((w.alloc (.cells (i64s (List.replicate (2 * G.ng) 0)).toArray 32)).setCell ⟨G.mb, 4, none⟩ (.slice (some ⟨w.heap.size, 0, none⟩) G.ng G.ng)).alloc (.cells (i64s (List.replicate G.ng 0)).toArray 3) |>.setCell ⟨G.mb, 5, none⟩ (.slice (some ⟨w.heap.size + 1, 0, none⟩) G.ng G.ng)).heap.size = w.heap.size + 2 := by simp [World.setCell]
  have s3 := (Blk.new (((w.alloc (.cells (i64s (List.replicate (2 * G.ng) 0)).toArray 32)).setCell ⟨G.mb, 4, none⟩ (.slice (some ⟨w.heap.size, 0, none⟩) G.ng G.ng)).alloc (.cells (i64s (List.replicate G.ng 0)).toArray 3) |>.setCell ⟨G.mb, 5, none⟩ (.slice (some ⟨w.heap.size + 1, 0, none⟩) G.ng G.ng)) 3 (natVals (List.replicate G.nl 0))).set_other (p := ⟨G.mb, 6, none⟩) (show _ ≠ G.mb by rw [z2]; omega) (.slice (some ⟨w.heap.size + 2, 0, none⟩) G.nl G.nl)
  rw [z2] at s3
  have hg : w.grownBy ((((((w.alloc (.cells (i64s (List.replicate (2 * G.ng) 0)).toArray 32)).setCell ⟨G.mb, 4, none⟩ (.slice (some ⟨w.heap.size, 0, none⟩) G.ng G.ng)).alloc (.cells (i64s (List.replicate G.ng 0)).toArray 3)).setCell ⟨G.mb, 5, none⟩ (.slice (some ⟨w.heap.size + 1, 0, none⟩) G.ng G.ng)).alloc
      (.cells (natVals (List.replicate G.nl 0)).toArray 3)).setCell ⟨G.mb, 6, none⟩ (.slice (some ⟨w.heap.size + 2, 0, none⟩) G.nl G.nl)) (some G.mb) :=
    (((((World.grownBy_alloc w _ (some G.mb)).trans (grown_setCell _ ⟨G.mb, 4, none⟩ _)).trans (World.grownBy_alloc _ _ (some G.mb))).trans (grown_setCell _ ⟨G.mb, 5, none⟩ _)).trans (World.grownBy_alloc _ _ (some G.mb))).trans (grown_setCell _ ⟨G.mb, 6, none⟩ _)
  generalize ((((((w.alloc (.cells (i64s (List.replicate (2 * G.ng) 0)).toArray 32)).setCell ⟨G.mb, 4, none⟩ (.slice (some ⟨w.heap.size, 0, none⟩) G.ng G.ng)).alloc (.cells (i64s (List.replicate G.ng 0)).toArray 3)).setCell ⟨G.mb, 5, none⟩ (.slice (some ⟨w.heap.size + 1, 0, none⟩) G.ng G.ng)).alloc
      (.cells (natVals (List.replicate G.nl 0)).toArray 3)).setCell ⟨G.mb, 6, none⟩ (.slice (some ⟨w.heap.size + 2, 0, none⟩) G.nl G.nl)) = w' at *
  have hb : Below G.B w w' := (Below.refl _ _).grown hg h.Bsize fun k hk => by cases hk; exact h.lm
  have hne : ∀ b t, D.tag b = t → t ≠ 1 → some b ≠ some G.mb := fun b t ht h1 e => by cases e; exact h1 (ht.symm.trans h.tm)
  have hre : ∀ b t, D.tag b = t → b < w.heap.size → retag (retag (retag D.tag w.heap.size 4) (w.heap.size + 1) 5) (w.heap.size + 2) 6 b = t := fun b t ht hb => by
    rw [retag_ne (by omega), retag_ne (by omega), retag_ne (by omega), ht]
  refine ⟨{ D with sb := w.heap.size, fb := w.heap.size + 1, gb := w.heap.size + 2, xs := List.replicate (2 * G.ng) 0, fs := List.replicate G.ng 0, tag := retag (retag (retag D.tag w.heap.size 4) (w.heap.size + 1) 5) (w.heap.size + 2) 6 }, rfl, rfl, ?_⟩
  refine { pat := h.pat.keep hb, below := h.below.trans hb, m := b4, pc := h.pc.kept hg (Mat.own_ne h.tp (by rw [h.tm]; decide)), sp := s1, fr := s2, be := s3, xl := by simp, fl := by simp, bl := by simp,
           jo := h.jo.kept hg (Mat.own_ne h.tj (by rw [h.tm]; decide)), bn := h.bn.grown hg (hne _ _ h.tb (by decide)), rl := h.rl, row := fun k hk => ?_, tm := hre _ _ h.tm hlt, tb := hre _ _ h.tb h.bn.lt, tp := fun q hq => hre _ _ (h.tp q hq) (h.pc.lt q hq).2,
           ts := ?_, tf := ?_, tg := ?_, tj := fun q hq => hre _ _ (h.tj q hq) (h.jo.lt q hq).2, lm := h.lm, lb := h.lb, ls := ?_, lf := ?_, lg := ?_, wf := h.wf, np := h.np, sz := h.sz, pcs := h.pcs, acs := h.acs, kp := fun q o hq => ⟨hre _ _ (h.kp q o hq).1 (get_lt (h.kp q o hq).2), (hg.block q (get_lt (h.kp q o hq).2) (hne _ _ (h.kp q o hq).1 (by decide))).trans (h.kp q o hq).2⟩ }
  · rcases h.row k hk with h1 | ⟨h1, h2, h3, h4, h5⟩
    · exact .inl h1
    · exact .inr ⟨h1, h2.grown hg (hne _ _ h4 (by omega)), h3, hre _ _ h4 h2.lt, h5⟩
  · show retag _ _ _ w.heap.size = 4
    rw [retag_ne (by omega), retag_ne (by omega), retag_eq]
  · show retag _ _ _ (w.heap.size + 1) = 5
    rw [retag_ne (by omega), retag_eq]
  · exact retag_eq _ _ _
  · exact hB
  · show G.B ≤ w.heap.size + 1; omega
  · show G.B ≤ w.heap.size + 2; omega

end Go.Proofs.YtlanodchnjojoaaDoor
