/- The outer loop of the method at: each kind of job. -/
import Derived.Test.YtlanodchnjojoaaDoorAt2
import Derived.Test.YtlanodchnjojoaaDoorMix2
namespace Go.Proofs.YtlanodchnjojoaaDoor
open Go.RowKit

/-- What the code of one job may come to. -/
structure OuOuts (Q : Exit → Act → World → Prop) (G : Geo) (E D : World → Prop) (R : Nat → World → Prop) : Prop where
  next : ∀ xs w, Fr xs G.mb → E w → Q .normal ⟨xs, []⟩ w
  done : ∀ xs w, Fr xs G.mb → D w → Q (.exit 2) ⟨xs, []⟩ w
  pan : ∀ c a (d : Option Tmp) v w, Q (.panic c) (a.put d v) w → Q (.panic c) a w
  ret : ∀ xs w k, Fr xs G.mb → Sl xs 6 (.int .i64 ((k : Nat) : Int)) → R k w → Q .ret ⟨xs, []⟩ w

theorem wpS_nil {P : Program} {ops : Array Oper} {w : World} {K : Act → Prop} {a : Act} (h : K a) : wpS P ops w K [] a := h

theorem wp_of_eq {P : Program} {c c' : Code} {Q : Exit → Act → World → Prop} {a : Act} {w : World} (h : c = c') (hw : Code.wp P c Q a w) : Code.wp P c' Q a w := h ▸ hw

variable {w : World} {G : Geo} {D : Dyn} {bit : Nat → Nat → Bool} {jobs : List Job} {bg : List Nat} {xs : Array Value} {Q : Exit → Act → World → Prop} {E Dn : World → Prop} {R : Nat → World → Prop}

set_option maxRecDepth 100000 in
set_option maxHeartbeats 1000000 in
theorem out_end (h : Mat w G D bit [] bg) (hj : D.jm = D.jv) (hf : Fr xs G.mb) (hQ : OuOuts Q G E Dn R) (hD : Dn w) : Code.wp Tryd.prog outBody Q ⟨xs, []⟩ w := by
  obtain ⟨a, cap, hjv⟩ : ∃ a cap, D.jv = .slice a 0 cap := by
    rcases h.jo.2 with ⟨h1, _⟩ | ⟨g, cap, _, h1, _⟩
    · exact ⟨none, 0, h1⟩
    · exact ⟨_, cap, h1⟩
  have hm7 : w.cell? ⟨G.mb, 7, none⟩ = some (.slice a 0 cap) := by rw [← hjv, ← hj]; exact h.m.cell rfl
  have HF := Lib.hid hf
  obtain ⟨sz, g0, g2⟩ := hf
  have HQ := Lib.hid hQ
  clear h hj hjv hQ
  conv => arg 2; whnf
  repeat (first | go_skip | go_guarded | ((with_reducible refine wp_cond_true ?_ ?_); focus (simp [Act.eval, sz]; done)) | ((with_reducible refine wp_cond_false ?_ ?_); focus (simp [Act.eval, sz]; done)) | ((fail_if_success (with_reducible refine wp_cond_true ?_ ?_)); go_step) | go_upon)
  exact HQ.out.done _ _ (by repeat (first | (with_reducible exact HF.out) | (with_reducible refine Fr.set ?_ _ _ (by decide)))) hD

theorem jobForm (h : Mat w G D bit jobs bg) (hj : D.jm = D.jv) {j : Job} {r : List Job} (e : jobs = j :: r) : ∃ g cap, D.jv = .slice (some ⟨g, 0, none⟩) (r.length + 1) cap ∧ r.length + 1 ≤ cap ∧ w.cell? ⟨G.mb, 7, none⟩ = some (.slice (some ⟨g, 0, none⟩) (r.length + 1) cap) ∧ g < w.heap.size ∧
    (∀ (i : Nat) v, (jobCells j)[i]? = some v → w.cell? ⟨g, r.length * 8 + i, none⟩ = some v) ∧ w.ownsRow G.B 102 8 (.slice (some ⟨g, 0, none⟩) r.length cap) r.length (jobsCells r) := by
  subst e
  obtain ⟨g, cap, hv, hc⟩ : ∃ g cap, D.jv = .slice (some ⟨g, 0, none⟩) (r.length + 1) cap ∧ r.length + 1 ≤ cap := by
    rcases h.jo.2 with ⟨_, h1⟩ | ⟨g, cap, _, h1, _, _, h2, _⟩
    · simp at h1
    · exact ⟨g, cap, h1, h2⟩
  have ho := h.jo
  rw [hv, jobsCells_cons] at ho
  refine ⟨g, cap, hv, hc, by rw [← hv, ← hj]; exact h.m.cell rfl, h.jlt g (by rw [hv]; rfl), fun i v hi => ?_, ownsRow_pop (jobsCells_len r) ho⟩
  have hi8 : i < 8 := by have := (List.getElem?_eq_some_iff.1 hi).1; rw [jobCells_len] at this; exact this
  rw [ho.cellAt (r.length * 8 + i) (by omega), List.getElem?_append_right (by rw [jobsCells_len]; omega), jobsCells_len, show r.length * 8 + i - r.length * 8 = i by omega]
  exact hi

/-- Behind the copy of the job on top, and behind its taking from the list. -/
theorem jobPop (h : Mat w G D bit jobs bg) (hj : D.jm = D.jv) {j : Job} {r : List Job} (e : jobs = j :: r) {g cap : Nat} (hv : D.jv = .slice (some ⟨g, 0, none⟩) (r.length + 1) cap) (hown : w.ownsRow G.B 102 8 (.slice (some ⟨g, 0, none⟩) r.length cap) r.length (jobsCells r)) :
    let w1 := (w.alloc (.cells (jobCells j).toArray 102)).drew
    let w2 := (w1.setCell ⟨G.mb, 7, none⟩ (.slice (some ⟨g, 0, none⟩) r.length cap)).drew
    w1.cell? ⟨G.mb, 7, none⟩ = some (.slice (some ⟨g, 0, none⟩) (r.length + 1) cap) ∧ w1.frozen? ⟨G.mb, 7, none⟩ = false ∧
    (∀ (i : Nat) v, (jobCells j)[i]? = some v → w2.cell? ⟨w.heap.size, i, none⟩ = some v) ∧ ∃ D', D'.jm = D'.jv ∧ D'.xs = D.xs ∧ D'.fs = D.fs ∧ D'.sb = D.sb ∧ D'.fb = D.fb ∧ D'.gb = D.gb ∧ Mat w2 G D' bit r bg := by
  have h1 : Mat (w.alloc (.cells (jobCells j).toArray 102)).drew G D bit jobs bg := (h.alloc _).drew
  have hne : w.heap.size ≠ G.mb := by have := h.m.lt; omega
  refine ⟨by rw [← hv, ← hj]; exact h1.m.cell rfl, h1.m.frozen 7, fun i v hi => ?_, ?_⟩
  · have hb := ((Blk.new w 102 (jobCells j)).drew.set_other (p := ⟨G.mb, 7, none⟩) hne (.slice (some ⟨g, 0, none⟩) r.length cap)).drew
    exact hb.cell hi
  · have h2 := (h1.setJm (.slice (some ⟨g, 0, none⟩) r.length cap)).drew
    refine ⟨_, ?_, ?_, ?_, ?_, ?_, ?_, h2.setJobs (v := .slice (some ⟨g, 0, none⟩) r.length cap) (js := r) ?_ ?_⟩
    · rfl
    · rfl
    · rfl
    · rfl
    · rfl
    · rfl
    · have hg := (World.grownBy_alloc w (Obj.cells (jobCells j).toArray 102) none)
      have ha : (w.alloc (.cells (jobCells j).toArray 102)).ownsRow G.B 102 8 (.slice (some ⟨g, 0, none⟩) r.length cap) r.length (jobsCells r) := hown.alloc _
      have hs := grown_setCell ((w.alloc (.cells (jobCells j).toArray 102)).drew) ⟨G.mb, 7, none⟩ (.slice (some ⟨g, 0, none⟩) r.length cap)
      have hk := (ha.drew).kept hs (Mat.own_ne (tag := D.tag) (t := 7) (fun q hq => h.tj q (by rw [hv]; exact hq)) (by rw [h.tm]; decide))
      exact hk.drew
    · rw [show D.jv.ownBlock = some g from by rw [hv]; rfl]; rfl

set_option maxRecDepth 100000 in
set_option maxHeartbeats 2000000 in
theorem out_try {pc k : Nat} {r : List Job} (h : Mat w G D bit ((.try_ pc k) :: r) bg) (hj : D.jm = D.jv) (hf : Fr xs G.mb) {k0 ks μ : Nat} (hμ : μ ≤ 100000000000) (hI : II (G.cx k0 ks) bit r bg pc k) (hl : left G bit r ≤ μ) (hgr : JG G.ng r) (hQ : OuOuts Q G (OutI G (G.cx k0 ks) μ) Dn (Got G (G.cx k0 ks))) (hrl : r.length ≤ 100000000000) : Code.wp Tryd.prog outBody Q ⟨xs, []⟩ w := by
  obtain ⟨g, cap, hjv, hcap, hm7, hg, hjc, hown⟩ := jobForm h hj rfl
  obtain ⟨k7, f7, kc, D', hj', hx', hf', hs', hfb', hgb', hM'⟩ := jobPop h hj rfl hjv hown
  have j0 : w.cell? ⟨g, r.length * 8, none⟩ = some (.int .i64 pc) := hjc 0 _ rfl
  have j1 := hjc 1 _ rfl
  have j2 := hjc 2 _ rfl
  have j3 := hjc 3 _ rfl
  have j4 := hjc 4 _ rfl
  have j5 := hjc 5 _ rfl
  have j6 := hjc 6 _ rfl
  have j7 := hjc 7 _ rfl
  have c0 := kc 0 _ rfl
  have c1 := kc 1 _ rfl
  have c2 := kc 2 _ rfl
  have c3 := kc 3 _ rfl
  have c4 := kc 4 _ rfl
  have c5 := kc 5 _ rfl
  have c6 := kc 6 _ rfl
  have c7 := kc 7 _ rfl
  have lm := h.m.lt
  have hmx : Tryd.prog.follows .mixedOrders = true := by kernel_rfl
  have HF := Lib.hid hf
  obtain ⟨sz, g0, g2⟩ := hf
  have HQ := Lib.hid hQ
  have HM := Lib.hid hM'
  have HJ := Lib.hid hj'
  clear h hj hjv hQ hjc hown hM' hj' hx' hf' hs' hfb' hgb' kc
  have hwn : IntKind.i64.wrap (r.length : Int) = r.length := by rw [IntKind.wrap_i64]; omega
  have hnn : ¬ ((r.length : Int) + 1 ≤ r.length) := by omega
  have hnc : r.length ≤ cap := by omega
  generalize hn : r.length = n at *
  clear hn
  conv => arg 2; whnf
  repeat (first | go_skip | go_guarded | ((with_reducible refine wp_cond_true ?_ ?_); focus (simp [Act.eval, sz]; done)) | ((with_reducible refine wp_cond_false ?_ ?_); focus (simp [Act.eval, sz]; done)) | ((fail_if_success (with_reducible refine wp_cond_true ?_ ?_)); go_step) | go_upon)
  refine wp_region_new [0, 1, 2, 3, 4, 5, 6, 7, 8, 9, 10, 11] 12 13 [] hmx (by kernel_rfl) (fun c a d v w h => HQ.out.pan c a d v w h) ?_
  simp only [pickL, List.drop_succ_cons, List.drop_zero]
  refine ⟨.pointer (some ⟨G.mb, 0, none⟩), ⟨rfl, by go_simp, fun b => by go_simp⟩, .pointer (some ⟨G.mb, 0, none⟩), ⟨rfl, by go_simp, fun b => by go_simp⟩, .pointer (some ⟨G.mb, 7, none⟩), ⟨rfl, by go_simp, fun b => by go_simp⟩, .slice (some ⟨g, 0, none⟩) (n + 1) cap, ⟨rfl, by go_simp, fun b => by go_simp⟩,
    .pointer (some ⟨G.mb, 0, none⟩), ⟨rfl, by go_simp, fun b => by go_simp⟩, .pointer (some ⟨G.mb, 0, none⟩), ⟨rfl, by go_simp, fun b => by go_simp⟩, .pointer (some ⟨G.mb, 7, none⟩), ⟨rfl, by go_simp, fun b => by go_simp⟩, .slice (some ⟨g, 0, none⟩) (n + 1) cap, ⟨rfl, by go_simp, fun b => by go_simp⟩,
    .int .i64 ((n : Int) + 1), ⟨rfl, by go_simp, fun b => by go_simp⟩, .int .i64 n, ⟨rfl, by go_simp, fun b => by go_simp⟩, .pointer (some ⟨g, n * 8, none⟩), ⟨rfl, by go_simp, fun b => by go_simp⟩, .agg #[.int .i64 pc, .int .i64 k, .bool false, .bool false, .int .i64 0, .int .i64 0, .int .i64 0, .int .i64 0], ⟨rfl, by go_simp, fun b => by go_simp⟩, ?_⟩
  refine wpS_nil ?_
  repeat (first | go_skip | go_guarded | ((with_reducible refine wp_cond_true ?_ ?_); focus (simp [Act.eval, sz]; done)) | ((with_reducible refine wp_cond_false ?_ ?_); focus (simp [Act.eval, sz]; done)) | ((fail_if_success (with_reducible refine wp_cond_true ?_ ?_)); go_step) | go_upon)
  clear j0 j1 j2 j3 j4 j5 j6 j7 hm7
  have hsh : (w.alloc (.cells (jobCells (.try_ pc k)).toArray 102)).drew = (w.alloc (.cells #[.int .i64 pc, .int .i64 k, .bool false, .bool false, .int .i64 0, .int .i64 0, .int .i64 0, .int .i64 0] 102)).drew := rfl; rw [hsh] at k7 f7 c0 c1 c2 c3 c4 c5 c6 c7; have HM2 := Lib.hid (show Mat (((w.alloc (.cells #[.int .i64 pc, .int .i64 k, .bool false, .bool false, .int .i64 0, .int .i64 0, .int .i64 0, .int .i64 0] 102)).drew.setCell ⟨G.mb, 7, none⟩ (.slice (some ⟨g, 0, none⟩) n cap)).drew) G D' bit r bg from HM.out); clear HM hsh
  generalize hw1 : (w.alloc (.cells #[.int .i64 pc, .int .i64 k, .bool false, .bool false, .int .i64 0, .int .i64 0, .int .i64 0, .int .i64 0] 102)).drew = w1 at *
  generalize hb : w.heap.size = b at *
  clear hb hw1
  refine wp_region_still_tail 14 hmx (by kernel_rfl) ?_; simp only [List.take_succ_cons, List.take_zero, List.drop_succ_cons, List.drop_zero]; (repeat ((with_reducible refine wpStill_step (fun K hK => ?_)); go_simp; (with_reducible refine hK _ ?_); clear hK K)); (with_reducible refine wpStill_nil ?_)
  repeat (first | go_skip | go_guarded | ((with_reducible refine wp_cond_true ?_ ?_); focus (simp [Act.eval, sz]; done)) | ((with_reducible refine wp_cond_false ?_ ?_); focus (simp [Act.eval, sz]; done)) | ((fail_if_success (with_reducible refine wp_cond_true ?_ ?_)); go_step) | go_upon)
  clear k7 f7 c2 c3 c4 c5 c6 c7
  generalize hw2 : (w1.setCell ⟨G.mb, 7, none⟩ (.slice (some ⟨g, 0, none⟩) n cap)).drew = w2 at *
  clear hw2
  refine wp_region_still_tail 5 hmx (by kernel_rfl) ?_; simp only [List.take_succ_cons, List.take_zero, List.drop_succ_cons, List.drop_zero]; (repeat ((with_reducible refine wpStill_step (fun K hK => ?_)); go_simp; (with_reducible refine hK _ ?_); clear hK K)); (with_reducible refine wpStill_nil ?_)
  repeat (first | go_skip | go_guarded | ((with_reducible refine wp_cond_true ?_ ?_); focus (simp [Act.eval, sz]; done)) | ((with_reducible refine wp_cond_false ?_ ?_); focus (simp [Act.eval, sz]; done)) | ((fail_if_success (with_reducible refine wp_cond_true ?_ ?_)); go_step) | go_upon)
  refine wp_of_eq (c := Code.loop inBody) (by kernel_rfl) ?_
  refine in_loop hμ (pc := pc) (k := k) (n := unv bit G.S (G.ps.length + 1)) ⟨D', bit, r, bg, HM2.out.drew, HJ.out, hI, rfl, hl, hgr⟩ (by repeat (first | (with_reducible exact HF.out) | (with_reducible refine Fr.set ?_ _ _ (by decide)))) (by repeat (first | (with_reducible exact Sl.same _) | (with_reducible exact HF.out) | (with_reducible refine Sl.ne ?_ (by decide)))) (by repeat (first | (with_reducible exact Sl.same _) | (with_reducible exact HF.out) | (with_reducible refine Sl.ne ?_ (by decide)))) ⟨?_, ?_, ?_⟩
  · intro xs' w' hf' hE
    exact HQ.out.next _ _ hf' hE
  · intro c a d v w h
    exact HQ.out.pan c a d v w h
  · intro xs' w' k' hf' h6 hR
    exact HQ.out.ret _ _ _ hf' h6 hR


set_option maxRecDepth 100000 in
set_option maxHeartbeats 2000000 in
theorem out_loop {l v : Nat} {r : List Job} (h : Mat w G D bit ((.loop l v) :: r) bg) (hj : D.jm = D.jv) (hf : Fr xs G.mb) (hl : l < G.nl) (hQ : OuOuts Q G E Dn R) (hE : ∀ w' D', D'.jm = D'.jv → Mat w' G D' bit r (bg.set l v) → E w') (hrl : r.length ≤ 100000000000) : Code.wp Tryd.prog outBody Q ⟨xs, []⟩ w := by
  obtain ⟨g, cap, hjv, hcap, hm7, hg, hjc, hown⟩ := jobForm h hj rfl
  obtain ⟨k7, f7, kc, D', hj', hx', hf', hs', hfb', hgb', hM'⟩ := jobPop h hj rfl hjv hown
  have j0 : w.cell? ⟨g, r.length * 8, none⟩ = some (.int .i64 0) := hjc 0 _ rfl
  have j1 := hjc 1 _ rfl
  have j2 := hjc 2 _ rfl
  have j3 := hjc 3 _ rfl
  have j4 := hjc 4 _ rfl
  have j5 := hjc 5 _ rfl
  have j6 := hjc 6 _ rfl
  have j7 := hjc 7 _ rfl
  have c0 := kc 0 _ rfl
  have c1 := kc 1 _ rfl
  have c2 := kc 2 _ rfl
  have c3 := kc 3 _ rfl
  have c4 := kc 4 _ rfl
  have c5 := kc 5 _ rfl
  have c6 := kc 6 _ rfl
  have c7 := kc 7 _ rfl
  have lm := h.m.lt
  have hmx : Tryd.prog.follows .mixedOrders = true := by kernel_rfl
  have HF := Lib.hid hf
  obtain ⟨sz, g0, g2⟩ := hf
  have HQ := Lib.hid hQ
  have HM := Lib.hid hM'
  have HE := Lib.hid hE
  clear hE
  have HJ := Lib.hid hj'
  clear h hj hjv hQ hjc hown hM' hj' hx' hf' hs' hfb' hgb' kc
  have hwn : IntKind.i64.wrap (r.length : Int) = r.length := by rw [IntKind.wrap_i64]; omega
  have hnn : ¬ ((r.length : Int) + 1 ≤ r.length) := by omega
  have hnc : r.length ≤ cap := by omega
  generalize hn : r.length = n at *
  clear hn
  conv => arg 2; whnf
  repeat (first | go_skip | go_guarded | ((with_reducible refine wp_cond_true ?_ ?_); focus (simp [Act.eval, sz]; done)) | ((with_reducible refine wp_cond_false ?_ ?_); focus (simp [Act.eval, sz]; done)) | ((fail_if_success (with_reducible refine wp_cond_true ?_ ?_)); go_step) | go_upon)
  refine wp_region_new [0, 1, 2, 3, 4, 5, 6, 7, 8, 9, 10, 11] 12 13 [] hmx (by kernel_rfl) (fun c a d v w h => HQ.out.pan c a d v w h) ?_
  simp only [pickL, List.drop_succ_cons, List.drop_zero]
  refine ⟨.pointer (some ⟨G.mb, 0, none⟩), ⟨rfl, by go_simp, fun b => by go_simp⟩, .pointer (some ⟨G.mb, 0, none⟩), ⟨rfl, by go_simp, fun b => by go_simp⟩, .pointer (some ⟨G.mb, 7, none⟩), ⟨rfl, by go_simp, fun b => by go_simp⟩, .slice (some ⟨g, 0, none⟩) (n + 1) cap, ⟨rfl, by go_simp, fun b => by go_simp⟩,
    .pointer (some ⟨G.mb, 0, none⟩), ⟨rfl, by go_simp, fun b => by go_simp⟩, .pointer (some ⟨G.mb, 0, none⟩), ⟨rfl, by go_simp, fun b => by go_simp⟩, .pointer (some ⟨G.mb, 7, none⟩), ⟨rfl, by go_simp, fun b => by go_simp⟩, .slice (some ⟨g, 0, none⟩) (n + 1) cap, ⟨rfl, by go_simp, fun b => by go_simp⟩,
    .int .i64 ((n : Int) + 1), ⟨rfl, by go_simp, fun b => by go_simp⟩, .int .i64 n, ⟨rfl, by go_simp, fun b => by go_simp⟩, .pointer (some ⟨g, n * 8, none⟩), ⟨rfl, by go_simp, fun b => by go_simp⟩, .agg #[.int .i64 0, .int .i64 0, .bool true, .bool true, .int .i64 l, .int .i64 0, .int .i64 0, .int .i64 v], ⟨rfl, by go_simp, fun b => by go_simp⟩, ?_⟩
  refine wpS_nil ?_
  repeat (first | go_skip | go_guarded | ((with_reducible refine wp_cond_true ?_ ?_); focus (simp [Act.eval, sz]; done)) | ((with_reducible refine wp_cond_false ?_ ?_); focus (simp [Act.eval, sz]; done)) | ((fail_if_success (with_reducible refine wp_cond_true ?_ ?_)); go_step) | go_upon)
  clear j0 j1 j2 j3 j4 j5 j6 j7 hm7
  have hsh : (w.alloc (.cells (jobCells (.loop l v)).toArray 102)).drew = (w.alloc (.cells #[.int .i64 0, .int .i64 0, .bool true, .bool true, .int .i64 l, .int .i64 0, .int .i64 0, .int .i64 v] 102)).drew := rfl; rw [hsh] at k7 f7 c0 c1 c2 c3 c4 c5 c6 c7; have HM2 := Lib.hid (show Mat (((w.alloc (.cells #[.int .i64 0, .int .i64 0, .bool true, .bool true, .int .i64 l, .int .i64 0, .int .i64 0, .int .i64 v] 102)).drew.setCell ⟨G.mb, 7, none⟩ (.slice (some ⟨g, 0, none⟩) n cap)).drew) G D' bit r bg from HM.out); clear HM hsh
  generalize hw1 : (w.alloc (.cells #[.int .i64 0, .int .i64 0, .bool true, .bool true, .int .i64 l, .int .i64 0, .int .i64 0, .int .i64 v] 102)).drew = w1 at *
  generalize hb : w.heap.size = b at *
  clear hb hw1
  refine wp_region_still_tail 14 hmx (by kernel_rfl) ?_; simp only [List.take_succ_cons, List.take_zero, List.drop_succ_cons, List.drop_zero]; (repeat ((with_reducible refine wpStill_step (fun K hK => ?_)); go_simp; (with_reducible refine hK _ ?_); clear hK K)); (with_reducible refine wpStill_nil ?_)
  repeat (first | go_skip | go_guarded | ((with_reducible refine wp_cond_true ?_ ?_); focus (simp [Act.eval, sz]; done)) | ((with_reducible refine wp_cond_false ?_ ?_); focus (simp [Act.eval, sz]; done)) | ((fail_if_success (with_reducible refine wp_cond_true ?_ ?_)); go_step) | go_upon)
  have m6 : World.cell? _ ⟨G.mb, 6, none⟩ = some (.slice (some ⟨D'.gb, 0, none⟩) G.nl G.nl) := HM2.out.m.cell rfl
  have fb : World.frozen? _ ⟨D'.gb, l, none⟩ = false := HM2.out.be.frozen l
  have cb : World.cell? _ ⟨D'.gb, l, none⟩ = some (.int .i64 ((bg[l]?.getD 0 : Nat) : Int)) := HM2.out.be.cell (natVals_get bg l (by rw [show bg.length = G.nl from HM2.out.bl]; omega))
  have hnl := HM2.out.wf.small
  clear k7 f7 c0 c1
  generalize hw2 : (w1.setCell ⟨G.mb, 7, none⟩ (.slice (some ⟨g, 0, none⟩) n cap)).drew = w2 at *
  clear hw2
  refine wp_region_still_tail 9 hmx (by kernel_rfl) ?_; simp only [List.take_succ_cons, List.take_zero, List.drop_succ_cons, List.drop_zero]; (repeat ((with_reducible refine wpStill_step (fun K hK => ?_)); go_simp; (with_reducible refine hK _ ?_); clear hK K)); (with_reducible refine wpStill_nil ?_)
  repeat (first | go_skip | go_guarded | ((with_reducible refine wp_cond_true ?_ ?_); focus (simp [Act.eval, sz]; done)) | ((with_reducible refine wp_cond_false ?_ ?_); focus (simp [Act.eval, sz]; done)) | ((fail_if_success (with_reducible refine wp_cond_true ?_ ?_)); go_step) | go_upon)
  exact HQ.out.next _ _ (by repeat (first | (with_reducible exact HF.out) | (with_reducible refine Fr.set ?_ _ _ (by decide)))) (HE.out _ _ HJ.out ((HM2.out.drew).setBegun l v))

set_option maxRecDepth 100000 in
set_option maxHeartbeats 2000000 in
theorem out_grp {gr : Nat} {x y z : Int} {r : List Job} (h : Mat w G D bit ((.grp gr x y z) :: r) bg) (hj : D.jm = D.jv) (hf : Fr xs G.mb) (hl : gr < G.ng) (hQ : OuOuts Q G E Dn R) (hE : ∀ w' D', D'.jm = D'.jv → Mat w' G D' bit r bg → E w') (hrl : r.length ≤ 100000000000) : Code.wp Tryd.prog outBody Q ⟨xs, []⟩ w := by
  obtain ⟨g, cap, hjv, hcap, hm7, hg, hjc, hown⟩ := jobForm h hj rfl
  obtain ⟨k7, f7, kc, D', hj', hx', hf', hs', hfb', hgb', hM'⟩ := jobPop h hj rfl hjv hown
  have j0 : w.cell? ⟨g, r.length * 8, none⟩ = some (.int .i64 0) := hjc 0 _ rfl
  have j1 := hjc 1 _ rfl
  have j2 := hjc 2 _ rfl
  have j3 := hjc 3 _ rfl
  have j4 := hjc 4 _ rfl
  have j5 := hjc 5 _ rfl
  have j6 := hjc 6 _ rfl
  have j7 := hjc 7 _ rfl
  have c0 := kc 0 _ rfl
  have c1 := kc 1 _ rfl
  have c2 := kc 2 _ rfl
  have c3 := kc 3 _ rfl
  have c4 := kc 4 _ rfl
  have c5 := kc 5 _ rfl
  have c6 := kc 6 _ rfl
  have c7 := kc 7 _ rfl
  have lm := h.m.lt
  have nsb : w.heap.size ≠ D'.sb := by rw [hs']; have := h.sp.lt; omega
  have hmx : Tryd.prog.follows .mixedOrders = true := by kernel_rfl
  have HF := Lib.hid hf
  obtain ⟨sz, g0, g2⟩ := hf
  have HQ := Lib.hid hQ
  have HM := Lib.hid hM'
  have HE := Lib.hid hE
  clear hE
  have HJ := Lib.hid hj'
  clear h hj hjv hQ hjc hown hM' hj' hx' hf' hs' hfb' hgb' kc
  have hwn : IntKind.i64.wrap (r.length : Int) = r.length := by rw [IntKind.wrap_i64]; omega
  have hnn : ¬ ((r.length : Int) + 1 ≤ r.length) := by omega
  have hnc : r.length ≤ cap := by omega
  generalize hn : r.length = n at *
  clear hn
  conv => arg 2; whnf
  repeat (first | go_skip | go_guarded | ((with_reducible refine wp_cond_true ?_ ?_); focus (simp [Act.eval, sz]; done)) | ((with_reducible refine wp_cond_false ?_ ?_); focus (simp [Act.eval, sz]; done)) | ((fail_if_success (with_reducible refine wp_cond_true ?_ ?_)); go_step) | go_upon)
  refine wp_region_new [0, 1, 2, 3, 4, 5, 6, 7, 8, 9, 10, 11] 12 13 [] hmx (by kernel_rfl) (fun c a d v w h => HQ.out.pan c a d v w h) ?_
  simp only [pickL, List.drop_succ_cons, List.drop_zero]
  refine ⟨.pointer (some ⟨G.mb, 0, none⟩), ⟨rfl, by go_simp, fun b => by go_simp⟩, .pointer (some ⟨G.mb, 0, none⟩), ⟨rfl, by go_simp, fun b => by go_simp⟩, .pointer (some ⟨G.mb, 7, none⟩), ⟨rfl, by go_simp, fun b => by go_simp⟩, .slice (some ⟨g, 0, none⟩) (n + 1) cap, ⟨rfl, by go_simp, fun b => by go_simp⟩,
    .pointer (some ⟨G.mb, 0, none⟩), ⟨rfl, by go_simp, fun b => by go_simp⟩, .pointer (some ⟨G.mb, 0, none⟩), ⟨rfl, by go_simp, fun b => by go_simp⟩, .pointer (some ⟨G.mb, 7, none⟩), ⟨rfl, by go_simp, fun b => by go_simp⟩, .slice (some ⟨g, 0, none⟩) (n + 1) cap, ⟨rfl, by go_simp, fun b => by go_simp⟩,
    .int .i64 ((n : Int) + 1), ⟨rfl, by go_simp, fun b => by go_simp⟩, .int .i64 n, ⟨rfl, by go_simp, fun b => by go_simp⟩, .pointer (some ⟨g, n * 8, none⟩), ⟨rfl, by go_simp, fun b => by go_simp⟩, .agg #[.int .i64 0, .int .i64 0, .bool true, .bool false, .int .i64 gr, .int .i64 x, .int .i64 y, .int .i64 z], ⟨rfl, by go_simp, fun b => by go_simp⟩, ?_⟩
  refine wpS_nil ?_
  repeat (first | go_skip | go_guarded | ((with_reducible refine wp_cond_true ?_ ?_); focus (simp [Act.eval, sz]; done)) | ((with_reducible refine wp_cond_false ?_ ?_); focus (simp [Act.eval, sz]; done)) | ((fail_if_success (with_reducible refine wp_cond_true ?_ ?_)); go_step) | go_upon)
  clear j0 j1 j2 j3 j4 j5 j6 j7 hm7
  have hsh : (w.alloc (.cells (jobCells (.grp gr x y z)).toArray 102)).drew = (w.alloc (.cells #[.int .i64 0, .int .i64 0, .bool true, .bool false, .int .i64 gr, .int .i64 x, .int .i64 y, .int .i64 z] 102)).drew := rfl; rw [hsh] at k7 f7 c0 c1 c2 c3 c4 c5 c6 c7; have HM2 := Lib.hid (show Mat (((w.alloc (.cells #[.int .i64 0, .int .i64 0, .bool true, .bool false, .int .i64 gr, .int .i64 x, .int .i64 y, .int .i64 z] 102)).drew.setCell ⟨G.mb, 7, none⟩ (.slice (some ⟨g, 0, none⟩) n cap)).drew) G D' bit r bg from HM.out); clear HM hsh
  generalize hw1 : (w.alloc (.cells #[.int .i64 0, .int .i64 0, .bool true, .bool false, .int .i64 gr, .int .i64 x, .int .i64 y, .int .i64 z] 102)).drew = w1 at *
  generalize hb : w.heap.size = b at *
  clear hb hw1
  refine wp_region_still_tail 14 hmx (by kernel_rfl) ?_; simp only [List.take_succ_cons, List.take_zero, List.drop_succ_cons, List.drop_zero]; (repeat ((with_reducible refine wpStill_step (fun K hK => ?_)); go_simp; (with_reducible refine hK _ ?_); clear hK K)); (with_reducible refine wpStill_nil ?_)
  repeat (first | go_skip | go_guarded | ((with_reducible refine wp_cond_true ?_ ?_); focus (simp [Act.eval, sz]; done)) | ((with_reducible refine wp_cond_false ?_ ?_); focus (simp [Act.eval, sz]; done)) | ((fail_if_success (with_reducible refine wp_cond_true ?_ ?_)); go_step) | go_upon)
  have m4 : World.cell? _ ⟨G.mb, 4, none⟩ = some (.slice (some ⟨D'.sb, 0, none⟩) G.ng G.ng) := HM2.out.m.cell rfl
  have m5 : World.cell? _ ⟨G.mb, 5, none⟩ = some (.slice (some ⟨D'.fb, 0, none⟩) G.ng G.ng) := HM2.out.m.cell rfl
  have fs0 : World.frozen? _ ⟨D'.sb, gr * 2, none⟩ = false := HM2.out.sp.frozen (gr * 2)
  have fs1 : World.frozen? _ ⟨D'.sb, gr * 2 + 1, none⟩ = false := HM2.out.sp.frozen (gr * 2 + 1)
  have ff : World.frozen? _ ⟨D'.fb, gr, none⟩ = false := HM2.out.fr.frozen gr
  have cf : World.cell? _ ⟨D'.fb, gr, none⟩ = some (Value.int .i64 (D'.fs[gr]?.getD 0)) := HM2.out.fr.cell (i64s_get D'.fs gr (by rw [show D'.fs.length = G.ng from HM2.out.fl]; omega))
  have cs0 : World.cell? _ ⟨D'.sb, gr * 2, none⟩ = some (Value.int .i64 (D'.xs[gr * 2]?.getD 0)) := HM2.out.sp.cell (i64s_get D'.xs (gr * 2) (by rw [show D'.xs.length = 2 * G.ng from HM2.out.xl]; omega))
  have cs1 : World.cell? _ ⟨D'.sb, gr * 2 + 1, none⟩ = some (Value.int .i64 (D'.xs[gr * 2 + 1]?.getD 0)) := HM2.out.sp.cell (i64s_get D'.xs (gr * 2 + 1) (by rw [show D'.xs.length = 2 * G.ng from HM2.out.xl]; omega))
  have hng := HM2.out.wf.small
  have nfs : D'.fb ≠ D'.sb := ne_of_tag HM2.out.tf HM2.out.ts (by decide)
  clear k7 f7 c0 c1
  generalize hw2 : (w1.setCell ⟨G.mb, 7, none⟩ (.slice (some ⟨g, 0, none⟩) n cap)).drew = w2 at *
  clear hw2
  have nms : G.mb ≠ D'.sb := (ne_of_tag HM2.out.ts HM2.out.tm (by decide)).symm
  obtain ⟨w3, hw3⟩ : ∃ w3, w3 = ((w2.drew).setCell ⟨D'.sb, gr * 2, none⟩ (.int .i64 x)).setCell ⟨D'.sb, gr * 2 + 1, none⟩ (.int .i64 y) := ⟨_, rfl⟩
  have hcx : ∀ p : Addr, p.block ≠ D'.sb → w3.cell? p = w2.cell? p := fun p hp => by rw [hw3, World.cell?_setCell_other (h := fun e => hp (by rw [← e])), World.cell?_setCell_other (h := fun e => hp (by rw [← e]))]; rfl
  have n4 := (hcx ⟨G.mb, 4, none⟩ nms).trans m4
  have n5 := (hcx ⟨G.mb, 5, none⟩ nms).trans m5
  have d4 := (hcx ⟨b, 4, none⟩ nsb).trans c4
  have d5 := (hcx ⟨b, 5, none⟩ nsb).trans c5
  have d6 := (hcx ⟨b, 6, none⟩ nsb).trans c6
  have d7 := (hcx ⟨b, 7, none⟩ nsb).trans c7
  have df := (hcx ⟨D'.fb, gr, none⟩ nfs).trans cf
  have HM3 := Lib.hid (show Mat w3 G _ bit r bg from hw3 ▸ (((HM2.out.drew).setSpan (gr * 2) x).setSpan (gr * 2 + 1) y))
  have gf : w3.frozen? ⟨D'.fb, gr, none⟩ = false := HM3.out.fr.frozen gr
  have HW3 := Lib.hid hw3
  clear hw3 hcx
  refine wp_region_two [0, 1, 2, 3, 4, 5, 6, 7, 8, 9, 10, 11, 12, 13, 14, 15] 16 17 18 19 (w1 := w3) hmx (by kernel_rfl) (fun c a d v w h => HQ.out.pan c a d v w h) ?_
  simp only [pickL, List.drop_succ_cons, List.drop_zero]
  refine ⟨.pointer (some ⟨G.mb, 0, none⟩), ⟨rfl, fun w' hS => by rcases hS with rfl | rfl <;> go_simp⟩, .pointer (some ⟨G.mb, 0, none⟩), ⟨rfl, fun w' hS => by rcases hS with rfl | rfl <;> go_simp⟩, .pointer (some ⟨G.mb, 4, none⟩), ⟨rfl, fun w' hS => by rcases hS with rfl | rfl <;> go_simp⟩, .slice (some ⟨D'.sb, 0, none⟩) G.ng G.ng, ⟨rfl, fun w' hS => by rcases hS with rfl | rfl <;> go_simp⟩, .pointer (some ⟨b, 4, none⟩), ⟨rfl, fun w' hS => by rcases hS with rfl | rfl <;> go_simp⟩, .int .i64 gr, ⟨rfl, fun w' hS => by rcases hS with rfl | rfl <;> go_simp⟩, .pointer (some ⟨G.mb, 0, none⟩), ⟨rfl, fun w' hS => by rcases hS with rfl | rfl <;> go_simp⟩, .pointer (some ⟨G.mb, 0, none⟩), ⟨rfl, fun w' hS => by rcases hS with rfl | rfl <;> go_simp⟩, .pointer (some ⟨G.mb, 5, none⟩), ⟨rfl, fun w' hS => by rcases hS with rfl | rfl <;> go_simp⟩, .slice (some ⟨D'.fb, 0, none⟩) G.ng G.ng, ⟨rfl, fun w' hS => by rcases hS with rfl | rfl <;> go_simp⟩, .pointer (some ⟨b, 4, none⟩), ⟨rfl, fun w' hS => by rcases hS with rfl | rfl <;> go_simp⟩, .int .i64 gr, ⟨rfl, fun w' hS => by rcases hS with rfl | rfl <;> go_simp⟩, .pointer (some ⟨b, 5, none⟩), ⟨rfl, fun w' hS => by rcases hS with rfl | rfl <;> go_simp⟩, .agg #[.int .i64 x, .int .i64 y], ⟨rfl, fun w' hS => by rcases hS with rfl | rfl <;> go_simp⟩, .pointer (some ⟨b, 7, none⟩), ⟨rfl, fun w' hS => by rcases hS with rfl | rfl <;> go_simp⟩, .int .i64 z, ⟨rfl, fun w' hS => by rcases hS with rfl | rfl <;> go_simp⟩, ?_⟩
  refine ⟨_, _, _, .pointer (some ⟨D'.sb, gr * 2, none⟩), .pointer (some ⟨D'.fb, gr, none⟩), rfl, rfl, rfl, by go_simp, by rw [HW3.out]; go_simp, by go_simp, ?_⟩
  repeat (first | go_skip | go_guarded | ((with_reducible refine wp_cond_true ?_ ?_); focus (simp [Act.eval, sz]; done)) | ((with_reducible refine wp_cond_false ?_ ?_); focus (simp [Act.eval, sz]; done)) | ((fail_if_success (with_reducible refine wp_cond_true ?_ ?_)); go_step) | go_upon)
  refine HQ.out.next _ _ (by repeat (first | (with_reducible exact HF.out) | (with_reducible refine Fr.set ?_ _ _ (by decide)))) (HE.out _ _ ?_ ((HM3.out).setFrom gr z))
  exact HJ.out

end Go.Proofs.YtlanodchnjojoaaDoor
