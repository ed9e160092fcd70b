/- The walk of the method at of a matcher, the inner loop: each kind of step a theorem. -/
import Derived.Test.YtlanodchnjojoaaDoorIs
namespace Go.Proofs.YtlanodchnjojoaaDoor
open Go.RowKit

def firstLoop : Code → Option Code
  | .loop c => some c
  | .seq a b => match firstLoop a with
    | some c => some c
    | none => firstLoop b
  | .block _ c => firstLoop c
  | .scope c => firstLoop c
  | .cond _ a b => match firstLoop a with
    | some c => some c
    | none => firstLoop b
  | _ => none
/-- What stands behind the first loop. -/
def pastLoop : Code → Option Code
  | .loop _ => some .skip
  | .seq a b => match pastLoop a with
    | some c => some (.seq c b)
    | none => match pastLoop b with
      | some c => some c
      | none => none
  | .block _ c => pastLoop c
  | .scope c => pastLoop c
  | _ => none
noncomputable def outBody : Code := ((Tryd.f26.body.bind pastLoop).bind firstLoop).getD .skip
noncomputable def inBody : Code := (firstLoop outBody).getD .skip

/-- The frame of at. -/
structure Fr (xs : Array Value) (mb : Nat) : Prop where
  sz : xs.size = 311
  h0 : ∀ h : 0 < xs.size, xs[0] = .pointer (some ⟨mb, 0, none⟩)
  h2 : ∀ h : 2 < xs.size, xs[2] = .bool false
/-- Slot t of a frame holds v. -/
def Sl (xs : Array Value) (t : Nat) (v : Value) : Prop := ∀ h : t < xs.size, xs[t] = v

theorem Sl.same {xs : Array Value} {t : Nat} (v : Value) : Sl (xs.setIfInBounds t v) t v := fun hh => by simp
theorem Sl.ne {xs : Array Value} {t d : Nat} {u v : Value} (h : Sl xs t u) (hd : d ≠ t) : Sl (xs.setIfInBounds d v) t u := fun hh => by
  have h2 : t < xs.size := by simpa using hh
  have h3 := h h2
  simp only [Array.getElem_setIfInBounds h2, if_neg hd]
  exact h3
theorem Fr.set {xs : Array Value} {mb : Nat} (h : Fr xs mb) (d : Nat) (v : Value) (hd : 3 ≤ d) : Fr (xs.setIfInBounds d v) mb where
  sz := by simp [h.sz]
  h0 := Sl.ne (show Sl xs 0 _ from h.h0) (by omega)
  h2 := Sl.ne (show Sl xs 2 _ from h.h2) (by omega)

/-- What the code of one step may come to. -/
structure Outs (Q : Exit → Act → World → Prop) (G : Geo) (N : Nat → Nat → World → Prop) (E : World → Prop) (R : Nat → World → Prop) : Prop where
  next : ∀ xs w pc k, Fr xs G.mb → Sl xs 9 (.int .i64 ((pc : Nat) : Int)) → Sl xs 10 (.int .i64 ((k : Nat) : Int)) → N pc k w → Q .normal ⟨xs, []⟩ w
  leave : ∀ xs w, Fr xs G.mb → E w → Q (.exit 3) ⟨xs, []⟩ w
  pan : ∀ c a (d : Option Tmp) v w, Q (.panic c) (a.put d v) w → Q (.panic c) a w
  ret : ∀ xs w k, Fr xs G.mb → Sl xs 6 (.int .i64 ((k : Nat) : Int)) → R k w → Q .ret ⟨xs, []⟩ w

set_option maxRecDepth 100000 in
set_option maxHeartbeats 1000000 in
theorem in_jump {w : World} {G : Geo} {D : Dyn} {bit : Nat → Nat → Bool} {jobs : List Job} {bg : List Nat} (h : Mat w G D bit jobs bg) {xs : Array Value} {pc k : Nat} (hf : Fr xs G.mb) (h9 : Sl xs 9 (.int .i64 (pc : Int))) (h10 : Sl xs 10 (.int .i64 (k : Int)))
    {st : Step} (hst : G.C[pc]? = some st) (hk : k ≤ G.ps.length) (h3 : st.dO = 3) {Q : Exit → Act → World → Prop} {N : Nat → Nat → World → Prop} {E : World → Prop} {R : Nat → World → Prop} (hQ : Outs Q G N E R)
    (hE : bit (idx G.C (stOf G.C bg pc k)) k = true → E w)
    (hN : ∀ w' D', bit (idx G.C (stOf G.C bg pc k)) k = false → D'.jm = D.jm → D'.jv = D.jv → Mat w' G D' (mark bit (idx G.C (stOf G.C bg pc k)) k) jobs bg → N st.a k w') :
    Code.wp Tryd.prog inBody Q ⟨xs, []⟩ w := by
  have hpc : pc < G.C.length := (List.getElem?_eq_some_iff.1 hst).1
  have hpl := h.wf.len
  have hnp := h.np
  have hsm := h.wf.small
  have met := met_mat h pc k hpc hk
  have hc3 := h.pat.c3
  have HF := Lib.hid hf
  have H9 := Lib.hid h9
  have H10 := Lib.hid h10
  obtain ⟨sz, g0, g2⟩ := hf
  unfold Sl at h9 h10
  have HH := Lib.hid h
  have HQ := Lib.hid hQ
  have HE := Lib.hid hE
  have HN := Lib.hid hN
  have H3 := Lib.hid h3
  have Hst := Lib.hid hst
  have hmx : Tryd.prog.follows .mixedOrders = true := by kernel_rfl
  clear h hQ hE hN h3 hst
  conv => arg 2; whnf
  repeat (first | go_skip | go_guarded | ((with_reducible refine wp_cond_true ?_ ?_); focus (simp [Act.eval, sz]; done)) | ((with_reducible refine wp_cond_false ?_ ?_); focus (simp [Act.eval, sz]; done)) | ((fail_if_success (with_reducible refine wp_cond_true ?_ ?_)); go_step) | go_upon)
  refine met.mono ?_
  rintro e w' hmet
  clear met
  obtain ⟨hb, rfl, rfl⟩ | ⟨hb, rfl, D', d1, d2, d3, d4, d5, hM⟩ := hmet
  · go_simp
    repeat (first | go_skip | go_guarded | ((with_reducible refine wp_cond_true ?_ ?_); focus (simp [Act.eval, sz]; done)) | ((with_reducible refine wp_cond_false ?_ ?_); focus (simp [Act.eval, sz]; done)) | ((fail_if_success (with_reducible refine wp_cond_true ?_ ?_)); go_step) | go_upon)
    exact HQ.out.leave _ _ (by repeat (first | (with_reducible exact HF.out) | (with_reducible refine Fr.set ?_ _ _ (by decide)))) (HE.out hb)
  · go_simp
    clear hc3
    have hc3 := hM.pat.c3
    have hc0 := hM.m.cell (j := 0) (v := .pointer (some ⟨G.pb, 0, none⟩)) rfl
    obtain ⟨la, lb, capl, hc, _⟩ := hM.pat.code pc st Hst.out
    have s0 : w'.cell? ⟨G.cb, pc * 15, none⟩ = some (.int .i64 3) := by have := hc 0 (.int .i64 st.dO) rfl; rw [H3.out] at this; exact this
    have s11 := hc 11 (.int .i64 st.a) rfl
    clear hc
    have HM := Lib.hid hM
    have HD1 := Lib.hid d1
    have HD2 := Lib.hid d2
    have HD3 := Lib.hid d3
    have HD4 := Lib.hid d4
    have HD5 := Lib.hid d5
    clear hM d1 d2 d3 d4 d5
    repeat (first | go_skip | go_guarded | ((with_reducible refine wp_cond_true ?_ ?_); focus (simp [Act.eval, sz]; done)) | ((with_reducible refine wp_cond_false ?_ ?_); focus (simp [Act.eval, sz]; done)) | ((fail_if_success (with_reducible refine wp_cond_true ?_ ?_)); go_step) | go_upon)
    exact HQ.out.next _ _ st.a k (by repeat (first | (with_reducible exact HF.out) | (with_reducible refine Fr.set ?_ _ _ (by decide)))) (by repeat (first | (with_reducible exact Sl.same _) | (with_reducible exact H9.out) | (with_reducible refine Sl.ne ?_ (by decide)))) (by repeat (first | (with_reducible exact Sl.same _) | (with_reducible exact H10.out) | (with_reducible refine Sl.ne ?_ (by decide)))) (HN.out _ _ hb HD1.out HD2.out HM.out)


set_option maxRecDepth 100000 in
set_option maxHeartbeats 1000000 in
theorem in_split {w : World} {G : Geo} {D : Dyn} {bit : Nat → Nat → Bool} {jobs : List Job} {bg : List Nat} (h : Mat w G D bit jobs bg) {xs : Array Value} {pc k : Nat} (hf : Fr xs G.mb) (h9 : Sl xs 9 (.int .i64 (pc : Int))) (h10 : Sl xs 10 (.int .i64 (k : Int)))
    {st : Step} (hst : G.C[pc]? = some st) (hk : k ≤ G.ps.length) (h3 : st.dO = 2) (hj : D.jm = D.jv) (hjl : jobs.length ≤ 100000000000) {Q : Exit → Act → World → Prop} {N : Nat → Nat → World → Prop} {E : World → Prop} {R : Nat → World → Prop} (hQ : Outs Q G N E R)
    (hE : bit (idx G.C (stOf G.C bg pc k)) k = true → E w)
    (hN : ∀ w' D', bit (idx G.C (stOf G.C bg pc k)) k = false → D'.jm = D'.jv → Mat w' G D' (mark bit (idx G.C (stOf G.C bg pc k)) k) (.try_ st.b k :: jobs) bg → N st.a k w') :
    Code.wp Tryd.prog inBody Q ⟨xs, []⟩ w := by
  have hpc : pc < G.C.length := (List.getElem?_eq_some_iff.1 hst).1
  have hpl := h.wf.len
  have hnp := h.np
  have hsm := h.wf.small
  have met := met_mat h pc k hpc hk
  have hc3 := h.pat.c3
  have HF := Lib.hid hf
  have H9 := Lib.hid h9
  have H10 := Lib.hid h10
  obtain ⟨sz, g0, g2⟩ := hf
  unfold Sl at h9 h10
  have HH := Lib.hid h
  have HQ := Lib.hid hQ
  have HE := Lib.hid hE
  have HN := Lib.hid hN
  have H3 := Lib.hid h3
  have HJ := Lib.hid hj
  clear hj
  have Hst := Lib.hid hst
  have hmx : Tryd.prog.follows .mixedOrders = true := by kernel_rfl
  clear h hQ hE hN h3 hst
  conv => arg 2; whnf
  repeat (first | go_skip | go_guarded | ((with_reducible refine wp_cond_true ?_ ?_); focus (simp [Act.eval, sz]; done)) | ((with_reducible refine wp_cond_false ?_ ?_); focus (simp [Act.eval, sz]; done)) | ((fail_if_success (with_reducible refine wp_cond_true ?_ ?_)); go_step) | go_upon)
  refine met.mono ?_
  rintro e w' hmet
  clear met
  obtain ⟨hb, rfl, rfl⟩ | ⟨hb, rfl, D', d1, d2, d3, d4, d5, hM⟩ := hmet
  · go_simp
    repeat (first | go_skip | go_guarded | ((with_reducible refine wp_cond_true ?_ ?_); focus (simp [Act.eval, sz]; done)) | ((with_reducible refine wp_cond_false ?_ ?_); focus (simp [Act.eval, sz]; done)) | ((fail_if_success (with_reducible refine wp_cond_true ?_ ?_)); go_step) | go_upon)
    exact HQ.out.leave _ _ (by repeat (first | (with_reducible exact HF.out) | (with_reducible refine Fr.set ?_ _ _ (by decide)))) (HE.out hb)
  · go_simp
    clear hc3
    have hc3 := hM.pat.c3
    have hc0 := hM.m.cell (j := 0) (v := .pointer (some ⟨G.pb, 0, none⟩)) rfl
    obtain ⟨la, lb, capl, hc, _⟩ := hM.pat.code pc st Hst.out
    have s0 : w'.cell? ⟨G.cb, pc * 15, none⟩ = some (.int .i64 2) := by have := hc 0 (.int .i64 st.dO) rfl; rw [H3.out] at this; exact this
    have s11 := hc 11 (.int .i64 st.a) rfl
    have s12 := hc 12 (.int .i64 st.b) rfl
    have hjm : D'.jm = D'.jv := by rw [d1, d2]; exact HJ.out
    have hm7 : w'.cell? ⟨G.mb, 7, none⟩ = some D'.jv := by rw [← hjm]; exact hM.m.cell rfl
    have f7 := hM.m.frozen 7
    have lm := hM.m.lt
    have hown := hM.jo
    have hB := hM.Bsize
    have k7 : ∀ o, (w'.alloc o).drew.cell? ⟨G.mb, 7, none⟩ = some D'.jv := fun o => (World.cell?_alloc_past o _ _ lm).trans hm7
    obtain ⟨i0, hi0, hz0, hz1, hz2⟩ := info_parts Tryd.infoJob
    have HJM := Lib.hid hjm
    clear hjm
    clear hc
    have HM := Lib.hid hM
    have HD1 := Lib.hid d1
    have HD2 := Lib.hid d2
    have HD3 := Lib.hid d3
    have HD4 := Lib.hid d4
    have HD5 := Lib.hid d5
    clear hM d1 d2 d3 d4 d5
    repeat (first | go_skip | go_guarded | ((with_reducible refine wp_cond_true ?_ ?_); focus (simp [Act.eval, sz]; done)) | ((with_reducible refine wp_cond_false ?_ ?_); focus (simp [Act.eval, sz]; done)) | ((fail_if_success (with_reducible refine wp_cond_true ?_ ?_)); go_step) | go_upon)
    refine wp_region_app [0, 1, 2, 3] 4 [5, 6, 7, 8, 9, 10] 11 12 [13, 14, 15] hmx (by kernel_rfl) (fun c a d v w h => HQ.out.pan c a d v w h) ?_
    simp only [pickL, List.drop_succ_cons, List.drop_zero]
    refine ⟨.pointer (some ⟨G.mb, 0, none⟩), .inl ⟨rfl, fun w => by go_simp⟩, .pointer (some ⟨G.mb, 0, none⟩), .inl ⟨rfl, fun w => by go_simp⟩, .pointer (some ⟨G.mb, 0, none⟩), .inl ⟨rfl, fun w => by go_simp⟩, .pointer (some ⟨G.mb, 7, none⟩), .inl ⟨rfl, fun w => by go_simp⟩, _, D'.jv, rfl, ⟨rfl, by go_simp, fun o => by go_simp⟩, ?_⟩
    repeat ((with_reducible refine wpStill_step (fun K hK => ?_)); go_simp; (with_reducible refine hK _ ?_); clear hK K)
    (with_reducible refine wpStill_nil ?_)
    repeat (first | go_skip | go_guarded | (at_builtin; refine wpList_append_lies _ (by rfl) _ _ _ (by rfl) G.B 102 i0 _ 8 56 Tryd.underlying64 hi0 hz0 hz1 hz2 rfl (by omega) D'.jv jobs.length (jobsCells jobs) (by simp [Act.eval, sz]) ((hown.alloc _).drew) ⟨w'.heap.size, 0, none⟩ 1 1 (jobCells (.try_ st.b k)) (by simp [Act.eval, sz]) (by rfl) (World.news_of_block (cs := (jobCells (.try_ st.b k)).toArray) (t := 102) (fr := (0, 0)) (heap_alloc_new w' _)) (by simp [Value.oneCell', jobCells]) (by omega) (by unfold maxLen; omega) (by omega) (by simp; omega) (w'.heap.size + 1) (by simp) ?_; intro gg cap w1 hown1 hgrow hat hlt; obtain ⟨tag, hM1⟩ := ((HM.out.alloc (.cells (jobCells (.try_ st.b k)).toArray 102)).drew).push (.try_ st.b k) hown1 hgrow (hat.imp id fun e => by simp; omega); have q7 : w1.cell? ⟨G.mb, 7, none⟩ = some D'.jm := hM1.m.cell rfl; have r7 := hM1.m.frozen 7; have hP1 := hM1.pat; have hne : G.cb ≠ G.mb := (by have := hP1.cbB; have := hM1.lm; omega); have H1 := Lib.hid hM1; clear hM1 hown1 hgrow hat hm7 f7 hown k7; obtain ⟨_, _, _, hc1, _⟩ := hP1.code pc st Hst.out; have t11 := hc1 11 (.int .i64 st.a) rfl; clear hc1 hP1 s0 s11 s12 hc3 hc0) | go_step | go_upon)
    repeat (first | go_skip | go_guarded | ((with_reducible refine wp_cond_true ?_ ?_); focus (simp [Act.eval, sz]; done)) | ((with_reducible refine wp_cond_false ?_ ?_); focus (simp [Act.eval, sz]; done)) | ((fail_if_success (with_reducible refine wp_cond_true ?_ ?_)); go_step) | go_upon)
    exact HQ.out.next _ _ st.a k (by repeat (first | (with_reducible exact HF.out) | (with_reducible refine Fr.set ?_ _ _ (by decide)))) (by repeat (first | (with_reducible exact Sl.same _) | (with_reducible exact H9.out) | (with_reducible refine Sl.ne ?_ (by decide)))) (by repeat (first | (with_reducible exact Sl.same _) | (with_reducible exact H10.out) | (with_reducible refine Sl.ne ?_ (by decide)))) (HN.out _ _ hb rfl (H1.out.setJm _))


set_option maxRecDepth 100000 in
set_option maxHeartbeats 2000000 in
theorem in_enter {w : World} {G : Geo} {D : Dyn} {bit : Nat → Nat → Bool} {jobs : List Job} {bg : List Nat} (h : Mat w G D bit jobs bg) {xs : Array Value} {pc k : Nat} (hf : Fr xs G.mb) (h9 : Sl xs 9 (.int .i64 (pc : Int))) (h10 : Sl xs 10 (.int .i64 (k : Int)))
    {st : Step} (hst : G.C[pc]? = some st) (hk : k ≤ G.ps.length) (h3 : st.dO = 6) (hj : D.jm = D.jv) (hjl : jobs.length ≤ 100000000000) {Q : Exit → Act → World → Prop} {N : Nat → Nat → World → Prop} {E : World → Prop} {R : Nat → World → Prop} (hQ : Outs Q G N E R)
    (hE : bit (idx G.C (stOf G.C bg pc k)) k = true → E w)
    (hN : ∀ w' D', bit (idx G.C (stOf G.C bg pc k)) k = false → D'.jm = D'.jv → Mat w' G D' (mark bit (idx G.C (stOf G.C bg pc k)) k) (.loop st.grp (bg[st.grp]?.getD 0) :: jobs) (bg.set st.grp k) → N (pc + 1) k w') :
    Code.wp Tryd.prog inBody Q ⟨xs, []⟩ w := by
  have hpc : pc < G.C.length := (List.getElem?_eq_some_iff.1 hst).1
  have hpl := h.wf.len
  have hnp := h.np
  have hsm := h.wf.small
  have met := met_mat h pc k hpc hk
  have hc3 := h.pat.c3
  have HF := Lib.hid hf
  have H9 := Lib.hid h9
  have H10 := Lib.hid h10
  obtain ⟨sz, g0, g2⟩ := hf
  unfold Sl at h9 h10
  have HH := Lib.hid h
  have HQ := Lib.hid hQ
  have HE := Lib.hid hE
  have HN := Lib.hid hN
  have H3 := Lib.hid h3
  have HJ := Lib.hid hj
  clear hj
  have Hst := Lib.hid hst
  have hmx : Tryd.prog.follows .mixedOrders = true := by kernel_rfl
  clear h hQ hE hN h3 hst
  conv => arg 2; whnf
  repeat (first | go_skip | go_guarded | ((with_reducible refine wp_cond_true ?_ ?_); focus (simp [Act.eval, sz]; done)) | ((with_reducible refine wp_cond_false ?_ ?_); focus (simp [Act.eval, sz]; done)) | ((fail_if_success (with_reducible refine wp_cond_true ?_ ?_)); go_step) | go_upon)
  refine met.mono ?_
  rintro e w' hmet
  clear met
  obtain ⟨hb, rfl, rfl⟩ | ⟨hb, rfl, D', d1, d2, d3, d4, d5, hM⟩ := hmet
  · go_simp
    repeat (first | go_skip | go_guarded | ((with_reducible refine wp_cond_true ?_ ?_); focus (simp [Act.eval, sz]; done)) | ((with_reducible refine wp_cond_false ?_ ?_); focus (simp [Act.eval, sz]; done)) | ((fail_if_success (with_reducible refine wp_cond_true ?_ ?_)); go_step) | go_upon)
    exact HQ.out.leave _ _ (by repeat (first | (with_reducible exact HF.out) | (with_reducible refine Fr.set ?_ _ _ (by decide)))) (HE.out hb)
  · go_simp
    clear hc3
    have hc3 := hM.pat.c3
    have hc0 := hM.m.cell (j := 0) (v := .pointer (some ⟨G.pb, 0, none⟩)) rfl
    obtain ⟨la, lb, capl, hc, _⟩ := hM.pat.code pc st Hst.out
    have s0 : w'.cell? ⟨G.cb, pc * 15, none⟩ = some (.int .i64 6) := by have := hc 0 (.int .i64 st.dO) rfl; rw [H3.out] at this; exact this
    have s10 := hc 10 (.int .i64 st.grp) rfl
    have hgl : st.grp < G.nl := by
      rcases hM.wf.act _ _ Hst.out with h1 | h1 | h1 | h1 | h1 | h1 | h1 <;> first | exact h1.2.2.1 | (exfalso; have := H3.out; omega)
    have hm6 : w'.cell? ⟨G.mb, 6, none⟩ = some (.slice (some ⟨D'.gb, 0, none⟩) G.nl G.nl) := hM.m.cell rfl
    have hbl : bg.length = G.nl := hM.bl
    have hbg := hM.be.cell (natVals_get bg st.grp (by omega))
    generalize hv : bg[st.grp]?.getD 0 = v at *
    have HV := Lib.hid hv
    clear hv hbl
    have hjm : D'.jm = D'.jv := by rw [d1, d2]; exact HJ.out
    have hm7 : w'.cell? ⟨G.mb, 7, none⟩ = some D'.jv := by rw [← hjm]; exact hM.m.cell rfl
    have f7 := hM.m.frozen 7
    have lm := hM.m.lt
    have hown := hM.jo
    have hB := hM.Bsize
    have k7 : ∀ o, (w'.alloc o).drew.cell? ⟨G.mb, 7, none⟩ = some D'.jv := fun o => (World.cell?_alloc_past o _ _ lm).trans hm7
    obtain ⟨i0, hi0, hz0, hz1, hz2⟩ := info_parts Tryd.infoJob
    have HJM := Lib.hid hjm
    clear hjm
    clear hc
    have HM := Lib.hid hM
    have HD1 := Lib.hid d1
    have HD2 := Lib.hid d2
    have HD3 := Lib.hid d3
    have HD4 := Lib.hid d4
    have HD5 := Lib.hid d5
    clear hM d1 d2 d3 d4 d5
    repeat (first | go_skip | go_guarded | ((with_reducible refine wp_cond_true ?_ ?_); focus (simp [Act.eval, sz]; done)) | ((with_reducible refine wp_cond_false ?_ ?_); focus (simp [Act.eval, sz]; done)) | ((fail_if_success (with_reducible refine wp_cond_true ?_ ?_)); go_step) | go_upon)
    refine wp_region_app [0, 1, 2, 3] 4 [5, 6, 7, 8, 9, 10, 11, 12, 13, 14, 15, 16, 17, 18, 19] 20 21 [22, 23, 24] hmx (by kernel_rfl) (fun c a d v w h => HQ.out.pan c a d v w h) ?_
    simp only [pickL, List.drop_succ_cons, List.drop_zero]
    refine ⟨.pointer (some ⟨G.mb, 0, none⟩), .inl ⟨rfl, fun w => by go_simp⟩, .pointer (some ⟨G.mb, 0, none⟩), .inl ⟨rfl, fun w => by go_simp⟩, .pointer (some ⟨G.mb, 0, none⟩), .inl ⟨rfl, fun w => by go_simp⟩, .pointer (some ⟨G.mb, 7, none⟩), .inl ⟨rfl, fun w => by go_simp⟩, _, D'.jv, rfl, ⟨rfl, by go_simp, fun o => by go_simp⟩, ?_⟩
    repeat ((with_reducible refine wpStill_step (fun K hK => ?_)); go_simp; (with_reducible refine hK _ ?_); clear hK K)
    (with_reducible refine wpStill_nil ?_)
    repeat (first | go_skip | go_guarded | (at_builtin; refine wpList_append_lies _ (by rfl) _ _ _ (by rfl) G.B 102 i0 _ 8 56 Tryd.underlying64 hi0 hz0 hz1 hz2 rfl (by omega) D'.jv jobs.length (jobsCells jobs) (by simp [Act.eval, sz]) ((hown.alloc _).drew) ⟨w'.heap.size, 0, none⟩ 1 1 (jobCells (.loop st.grp v)) (by simp [Act.eval, sz]) (by rfl) (World.news_of_block (cs := (jobCells (.loop st.grp v)).toArray) (t := 102) (fr := (0, 0)) (heap_alloc_new w' _)) (by simp [Value.oneCell', jobCells]) (by omega) (by unfold maxLen; omega) (by omega) (by simp; omega) (w'.heap.size + 1) (by simp) ?_; intro gg cap w1 hown1 hgrow hat hlt; obtain ⟨tag, hM1⟩ := ((HM.out.alloc (.cells (jobCells (.loop st.grp v)).toArray 102)).drew).push (.loop st.grp v) hown1 hgrow (hat.imp id fun e => by simp; omega); have q7 : w1.cell? ⟨G.mb, 7, none⟩ = some D'.jm := hM1.m.cell rfl; have r7 := hM1.m.frozen 7; have hP1 := hM1.pat; have hne : G.cb ≠ G.mb := (by have := hP1.cbB; have := hM1.lm; omega); have H1 := Lib.hid hM1; clear hM1 hown1 hgrow hat hm7 f7 hown k7; clear s0 s10 hc3 hc0 hm6 hbg hP1) | go_step | go_upon)
    have hM2 := H1.out.setJm (.slice (some ⟨gg, 0, none⟩) (jobs.length + 1) cap)
    have c6 : World.cell? _ ⟨G.mb, 6, none⟩ = some (Value.slice (some ⟨D'.gb, 0, none⟩) G.nl G.nl) := hM2.m.cell rfl
    have cb : World.cell? _ ⟨D'.gb, st.grp, none⟩ = some (Value.int .i64 ((bg[st.grp]?.getD 0 : Nat) : Int)) := hM2.be.cell (natVals_get bg st.grp (by rw [show bg.length = G.nl from hM2.bl]; omega))
    have fb : World.frozen? _ ⟨D'.gb, st.grp, none⟩ = false := hM2.be.frozen st.grp
    obtain ⟨_, _, _, hc2, _⟩ := hM2.pat.code pc st Hst.out
    have t10 := hc2 10 (.int .i64 st.grp) rfl
    have H2 := Lib.hid hM2
    clear hM2 H1 hc2 q7 r7
    generalize w1.setCell ⟨G.mb, 7, none⟩ (.slice (some ⟨gg, 0, none⟩) (jobs.length + 1) cap) = w2 at *
    refine wp_region_still_tail 10 hmx (by kernel_rfl) ?_
    simp only [List.take_succ_cons, List.take_zero, List.drop_succ_cons, List.drop_zero]
    repeat ((with_reducible refine wpStill_step (fun K hK => ?_)); go_simp; (with_reducible refine hK _ ?_); clear hK K)
    (with_reducible refine wpStill_nil ?_)
    repeat (first | go_skip | go_guarded | ((with_reducible refine wp_cond_true ?_ ?_); focus (simp [Act.eval, sz]; done)) | ((with_reducible refine wp_cond_false ?_ ?_); focus (simp [Act.eval, sz]; done)) | ((fail_if_success (with_reducible refine wp_cond_true ?_ ?_)); go_step) | go_upon)
    exact HQ.out.next _ _ (pc + 1) k (by repeat (first | (with_reducible exact HF.out) | (with_reducible refine Fr.set ?_ _ _ (by decide)))) (show Sl _ 9 (.int .i64 ((pc : Int) + 1)) from (by repeat (first | (with_reducible exact Sl.same _) | (with_reducible refine Sl.ne ?_ (by decide))))) (by repeat (first | (with_reducible exact Sl.same _) | (with_reducible exact H10.out) | (with_reducible refine Sl.ne ?_ (by decide)))) (HN.out _ _ hb rfl ((H2.out.setBegun st.grp k).drew))


set_option maxRecDepth 100000 in
set_option maxHeartbeats 2000000 in
theorem in_open {w : World} {G : Geo} {D : Dyn} {bit : Nat → Nat → Bool} {jobs : List Job} {bg : List Nat} (h : Mat w G D bit jobs bg) {xs : Array Value} {pc k : Nat} (hf : Fr xs G.mb) (h9 : Sl xs 9 (.int .i64 (pc : Int))) (h10 : Sl xs 10 (.int .i64 (k : Int)))
    {st : Step} (hst : G.C[pc]? = some st) (hk : k ≤ G.ps.length) (h3 : st.dO = 4) (hj : D.jm = D.jv) (hjl : jobs.length ≤ 100000000000) {Q : Exit → Act → World → Prop} {N : Nat → Nat → World → Prop} {E : World → Prop} {R : Nat → World → Prop} (hQ : Outs Q G N E R)
    (hE : bit (idx G.C (stOf G.C bg pc k)) k = true → E w)
    (hN : ∀ w' D' g x y z, bit (idx G.C (stOf G.C bg pc k)) k = false → g < G.ng → D'.jm = D'.jv → Mat w' G D' (mark bit (idx G.C (stOf G.C bg pc k)) k) (.grp g x y z :: jobs) bg → N (pc + 1) k w') :
    Code.wp Tryd.prog inBody Q ⟨xs, []⟩ w := by
  have hpc : pc < G.C.length := (List.getElem?_eq_some_iff.1 hst).1
  have hpl := h.wf.len
  have hnp := h.np
  have hsm := h.wf.small
  have met := met_mat h pc k hpc hk
  have hc3 := h.pat.c3
  have HF := Lib.hid hf
  have H9 := Lib.hid h9
  have H10 := Lib.hid h10
  obtain ⟨sz, g0, g2⟩ := hf
  unfold Sl at h9 h10
  have HH := Lib.hid h
  have HQ := Lib.hid hQ
  have HE := Lib.hid hE
  have HN := Lib.hid hN
  have H3 := Lib.hid h3
  have HJ := Lib.hid hj
  clear hj
  have Hst := Lib.hid hst
  have hmx : Tryd.prog.follows .mixedOrders = true := by kernel_rfl
  clear h hQ hE hN h3 hst
  conv => arg 2; whnf
  repeat (first | go_skip | go_guarded | ((with_reducible refine wp_cond_true ?_ ?_); focus (simp [Act.eval, sz]; done)) | ((with_reducible refine wp_cond_false ?_ ?_); focus (simp [Act.eval, sz]; done)) | ((fail_if_success (with_reducible refine wp_cond_true ?_ ?_)); go_step) | go_upon)
  refine met.mono ?_
  rintro e w' hmet
  clear met
  obtain ⟨hb, rfl, rfl⟩ | ⟨hb, rfl, D', d1, d2, d3, d4, d5, hM⟩ := hmet
  · go_simp
    repeat (first | go_skip | go_guarded | ((with_reducible refine wp_cond_true ?_ ?_); focus (simp [Act.eval, sz]; done)) | ((with_reducible refine wp_cond_false ?_ ?_); focus (simp [Act.eval, sz]; done)) | ((fail_if_success (with_reducible refine wp_cond_true ?_ ?_)); go_step) | go_upon)
    exact HQ.out.leave _ _ (by repeat (first | (with_reducible exact HF.out) | (with_reducible refine Fr.set ?_ _ _ (by decide)))) (HE.out hb)
  · go_simp
    clear hc3
    have hc3 := hM.pat.c3
    have hc0 := hM.m.cell (j := 0) (v := .pointer (some ⟨G.pb, 0, none⟩)) rfl
    obtain ⟨la, lb, capl, hc, _⟩ := hM.pat.code pc st Hst.out
    have s0 : w'.cell? ⟨G.cb, pc * 15, none⟩ = some (.int .i64 4) := by have := hc 0 (.int .i64 st.dO) rfl; rw [H3.out] at this; exact this
    have hgl : 1 ≤ st.grp ∧ st.grp ≤ G.ng := by
      rcases hM.wf.act _ _ Hst.out with h1 | h1 | h1 | h1 | h1 | h1 | h1 <;> first | exact ⟨h1.2.2.2.1, h1.2.2.2.2⟩ | (exfalso; have := H3.out; omega)
    obtain ⟨g, hg⟩ : ∃ g, st.grp = g + 1 := ⟨st.grp - 1, by omega⟩
    have s10 : w'.cell? ⟨G.cb, pc * 15 + 10, none⟩ = some (.int .i64 ((g : Int) + 1)) := by have := hc 10 (.int .i64 st.grp) rfl; rw [hg] at this; exact this
    rw [hg] at hgl
    have HG := Lib.hid hg
    clear hg
    have hjm : D'.jm = D'.jv := by rw [d1, d2]; exact HJ.out
    have HJM := Lib.hid hjm
    clear hjm
    clear hc
    have HM := Lib.hid hM
    have HD1 := Lib.hid d1
    have HD2 := Lib.hid d2
    have HD3 := Lib.hid d3
    have HD4 := Lib.hid d4
    have HD5 := Lib.hid d5
    clear hM d1 d2 d3 d4 d5
    repeat (first | go_skip | go_guarded | ((with_reducible refine wp_cond_true ?_ ?_); focus (simp [Act.eval, sz]; done)) | ((with_reducible refine wp_cond_false ?_ ?_); focus (simp [Act.eval, sz]; done)) | ((fail_if_success (with_reducible refine wp_cond_true ?_ ?_)); go_step) | go_upon)
    refine wp_region_still_tail 11 hmx (by kernel_rfl) ?_
    simp only [List.take_succ_cons, List.take_zero, List.drop_succ_cons, List.drop_zero]
    repeat ((with_reducible refine wpStill_step (fun K hK => ?_)); go_simp; (with_reducible refine hK _ ?_); clear hK K)
    (with_reducible refine wpStill_nil ?_)
    repeat (first | go_skip | go_guarded | ((with_reducible refine wp_cond_true ?_ ?_); focus (simp [Act.eval, sz]; done)) | ((with_reducible refine wp_cond_false ?_ ?_); focus (simp [Act.eval, sz]; done)) | ((fail_if_success (with_reducible refine wp_cond_true ?_ ?_)); go_step) | go_upon)
    refine (group_open (HM.out.drew) HJM.out g k (by omega) hk hjl).mono ?_
    rintro e w2 ⟨he, D2, x, y, z, e1, e2, e3, e4, hM2⟩
    subst he
    have H2 := Lib.hid hM2
    have HE1 := Lib.hid e1
    clear hM2 e1 e2 e3 e4
    go_simp
    repeat (first | go_skip | go_guarded | ((with_reducible refine wp_cond_true ?_ ?_); focus (simp [Act.eval, sz]; done)) | ((with_reducible refine wp_cond_false ?_ ?_); focus (simp [Act.eval, sz]; done)) | ((fail_if_success (with_reducible refine wp_cond_true ?_ ?_)); go_step) | go_upon)
    exact HQ.out.next _ _ (pc + 1) k (by repeat (first | (with_reducible exact HF.out) | (with_reducible refine Fr.set ?_ _ _ (by decide)))) (show Sl _ 9 (.int .i64 ((pc : Int) + 1)) from (by repeat (first | (with_reducible exact Sl.same _) | (with_reducible refine Sl.ne ?_ (by decide))))) (by repeat (first | (with_reducible exact Sl.same _) | (with_reducible exact H10.out) | (with_reducible refine Sl.ne ?_ (by decide)))) (HN.out _ _ _ _ _ _ hb (by omega) HE1.out H2.out)


set_option maxRecDepth 100000 in
set_option maxHeartbeats 2000000 in
theorem in_shut {w : World} {G : Geo} {D : Dyn} {bit : Nat → Nat → Bool} {jobs : List Job} {bg : List Nat} (h : Mat w G D bit jobs bg) {xs : Array Value} {pc k : Nat} (hf : Fr xs G.mb) (h9 : Sl xs 9 (.int .i64 (pc : Int))) (h10 : Sl xs 10 (.int .i64 (k : Int)))
    {st : Step} (hst : G.C[pc]? = some st) (hk : k ≤ G.ps.length) (h3 : st.dO = 5) (hj : D.jm = D.jv) (hjl : jobs.length ≤ 100000000000) {Q : Exit → Act → World → Prop} {N : Nat → Nat → World → Prop} {E : World → Prop} {R : Nat → World → Prop} (hQ : Outs Q G N E R)
    (hE : bit (idx G.C (stOf G.C bg pc k)) k = true → E w)
    (hN : ∀ w' D' g x y z, bit (idx G.C (stOf G.C bg pc k)) k = false → g < G.ng → D'.jm = D'.jv → Mat w' G D' (mark bit (idx G.C (stOf G.C bg pc k)) k) (.grp g x y z :: jobs) bg → N (pc + 1) k w') :
    Code.wp Tryd.prog inBody Q ⟨xs, []⟩ w := by
  have hpc : pc < G.C.length := (List.getElem?_eq_some_iff.1 hst).1
  have hpl := h.wf.len
  have hnp := h.np
  have hsm := h.wf.small
  have met := met_mat h pc k hpc hk
  have hc3 := h.pat.c3
  have HF := Lib.hid hf
  have H9 := Lib.hid h9
  have H10 := Lib.hid h10
  obtain ⟨sz, g0, g2⟩ := hf
  unfold Sl at h9 h10
  have HH := Lib.hid h
  have HQ := Lib.hid hQ
  have HE := Lib.hid hE
  have HN := Lib.hid hN
  have H3 := Lib.hid h3
  have HJ := Lib.hid hj
  clear hj
  have Hst := Lib.hid hst
  have hmx : Tryd.prog.follows .mixedOrders = true := by kernel_rfl
  clear h hQ hE hN h3 hst
  conv => arg 2; whnf
  repeat (first | go_skip | go_guarded | ((with_reducible refine wp_cond_true ?_ ?_); focus (simp [Act.eval, sz]; done)) | ((with_reducible refine wp_cond_false ?_ ?_); focus (simp [Act.eval, sz]; done)) | ((fail_if_success (with_reducible refine wp_cond_true ?_ ?_)); go_step) | go_upon)
  refine met.mono ?_
  rintro e w' hmet
  clear met
  obtain ⟨hb, rfl, rfl⟩ | ⟨hb, rfl, D', d1, d2, d3, d4, d5, hM⟩ := hmet
  · go_simp
    repeat (first | go_skip | go_guarded | ((with_reducible refine wp_cond_true ?_ ?_); focus (simp [Act.eval, sz]; done)) | ((with_reducible refine wp_cond_false ?_ ?_); focus (simp [Act.eval, sz]; done)) | ((fail_if_success (with_reducible refine wp_cond_true ?_ ?_)); go_step) | go_upon)
    exact HQ.out.leave _ _ (by repeat (first | (with_reducible exact HF.out) | (with_reducible refine Fr.set ?_ _ _ (by decide)))) (HE.out hb)
  · go_simp
    clear hc3
    have hc3 := hM.pat.c3
    have hc0 := hM.m.cell (j := 0) (v := .pointer (some ⟨G.pb, 0, none⟩)) rfl
    obtain ⟨la, lb, capl, hc, _⟩ := hM.pat.code pc st Hst.out
    have s0 : w'.cell? ⟨G.cb, pc * 15, none⟩ = some (.int .i64 5) := by have := hc 0 (.int .i64 st.dO) rfl; rw [H3.out] at this; exact this
    have hgl : 1 ≤ st.grp ∧ st.grp ≤ G.ng := by
      rcases hM.wf.act _ _ Hst.out with h1 | h1 | h1 | h1 | h1 | h1 | h1 <;> first | exact ⟨h1.2.2.2.1, h1.2.2.2.2⟩ | (exfalso; have := H3.out; omega)
    obtain ⟨g, hg⟩ : ∃ g, st.grp = g + 1 := ⟨st.grp - 1, by omega⟩
    have s10 : w'.cell? ⟨G.cb, pc * 15 + 10, none⟩ = some (.int .i64 ((g : Int) + 1)) := by have := hc 10 (.int .i64 st.grp) rfl; rw [hg] at this; exact this
    rw [hg] at hgl
    have HG := Lib.hid hg
    clear hg
    have hjm : D'.jm = D'.jv := by rw [d1, d2]; exact HJ.out
    have HJM := Lib.hid hjm
    clear hjm
    clear hc
    have HM := Lib.hid hM
    have HD1 := Lib.hid d1
    have HD2 := Lib.hid d2
    have HD3 := Lib.hid d3
    have HD4 := Lib.hid d4
    have HD5 := Lib.hid d5
    clear hM d1 d2 d3 d4 d5
    repeat (first | go_skip | go_guarded | ((with_reducible refine wp_cond_true ?_ ?_); focus (simp [Act.eval, sz]; done)) | ((with_reducible refine wp_cond_false ?_ ?_); focus (simp [Act.eval, sz]; done)) | ((fail_if_success (with_reducible refine wp_cond_true ?_ ?_)); go_step) | go_upon)
    refine wp_region_still_tail 11 hmx (by kernel_rfl) ?_
    simp only [List.take_succ_cons, List.take_zero, List.drop_succ_cons, List.drop_zero]
    repeat ((with_reducible refine wpStill_step (fun K hK => ?_)); go_simp; (with_reducible refine hK _ ?_); clear hK K)
    (with_reducible refine wpStill_nil ?_)
    repeat (first | go_skip | go_guarded | ((with_reducible refine wp_cond_true ?_ ?_); focus (simp [Act.eval, sz]; done)) | ((with_reducible refine wp_cond_false ?_ ?_); focus (simp [Act.eval, sz]; done)) | ((fail_if_success (with_reducible refine wp_cond_true ?_ ?_)); go_step) | go_upon)
    refine (group_shut (HM.out.drew) HJM.out g k (by omega) hk hjl).mono ?_
    rintro e w2 ⟨he, D2, x, y, z, e1, e2, e3, e4, hM2⟩
    subst he
    have H2 := Lib.hid hM2
    have HE1 := Lib.hid e1
    clear hM2 e1 e2 e3 e4
    go_simp
    repeat (first | go_skip | go_guarded | ((with_reducible refine wp_cond_true ?_ ?_); focus (simp [Act.eval, sz]; done)) | ((with_reducible refine wp_cond_false ?_ ?_); focus (simp [Act.eval, sz]; done)) | ((fail_if_success (with_reducible refine wp_cond_true ?_ ?_)); go_step) | go_upon)
    exact HQ.out.next _ _ (pc + 1) k (by repeat (first | (with_reducible exact HF.out) | (with_reducible refine Fr.set ?_ _ _ (by decide)))) (show Sl _ 9 (.int .i64 ((pc : Int) + 1)) from (by repeat (first | (with_reducible exact Sl.same _) | (with_reducible refine Sl.ne ?_ (by decide))))) (by repeat (first | (with_reducible exact Sl.same _) | (with_reducible exact H10.out) | (with_reducible refine Sl.ne ?_ (by decide)))) (HN.out _ _ _ _ _ _ hb (by omega) HE1.out H2.out)


set_option maxRecDepth 100000 in
set_option maxHeartbeats 1000000 in
theorem in_again {w : World} {G : Geo} {D : Dyn} {bit : Nat → Nat → Bool} {jobs : List Job} {bg : List Nat} (h : Mat w G D bit jobs bg) {xs : Array Value} {pc k : Nat} (hf : Fr xs G.mb) (h9 : Sl xs 9 (.int .i64 (pc : Int))) (h10 : Sl xs 10 (.int .i64 (k : Int)))
    {st : Step} (hst : G.C[pc]? = some st) (hk : k ≤ G.ps.length) (h3 : st.dO = 7) (hbk : bg[st.grp]?.getD 0 ≠ k) {Q : Exit → Act → World → Prop} {N : Nat → Nat → World → Prop} {E : World → Prop} {R : Nat → World → Prop} (hQ : Outs Q G N E R)
    (hE : bit (idx G.C (stOf G.C bg pc k)) k = true → E w)
    (hN : ∀ w' D', bit (idx G.C (stOf G.C bg pc k)) k = false → D'.jm = D.jm → D'.jv = D.jv → Mat w' G D' (mark bit (idx G.C (stOf G.C bg pc k)) k) jobs bg → N st.a k w') :
    Code.wp Tryd.prog inBody Q ⟨xs, []⟩ w := by
  have hpc : pc < G.C.length := (List.getElem?_eq_some_iff.1 hst).1
  have hpl := h.wf.len
  have hnp := h.np
  have hsm := h.wf.small
  have met := met_mat h pc k hpc hk
  have hc3 := h.pat.c3
  have HF := Lib.hid hf
  have H9 := Lib.hid h9
  have H10 := Lib.hid h10
  obtain ⟨sz, g0, g2⟩ := hf
  unfold Sl at h9 h10
  have HH := Lib.hid h
  have HQ := Lib.hid hQ
  have HE := Lib.hid hE
  have HN := Lib.hid hN
  have H3 := Lib.hid h3
  have HB := Lib.hid hbk
  clear hbk
  have Hst := Lib.hid hst
  have hmx : Tryd.prog.follows .mixedOrders = true := by kernel_rfl
  clear h hQ hE hN h3 hst
  conv => arg 2; whnf
  repeat (first | go_skip | go_guarded | ((with_reducible refine wp_cond_true ?_ ?_); focus (simp [Act.eval, sz]; done)) | ((with_reducible refine wp_cond_false ?_ ?_); focus (simp [Act.eval, sz]; done)) | ((fail_if_success (with_reducible refine wp_cond_true ?_ ?_)); go_step) | go_upon)
  refine met.mono ?_
  rintro e w' hmet
  clear met
  obtain ⟨hb, rfl, rfl⟩ | ⟨hb, rfl, D', d1, d2, d3, d4, d5, hM⟩ := hmet
  · go_simp
    repeat (first | go_skip | go_guarded | ((with_reducible refine wp_cond_true ?_ ?_); focus (simp [Act.eval, sz]; done)) | ((with_reducible refine wp_cond_false ?_ ?_); focus (simp [Act.eval, sz]; done)) | ((fail_if_success (with_reducible refine wp_cond_true ?_ ?_)); go_step) | go_upon)
    exact HQ.out.leave _ _ (by repeat (first | (with_reducible exact HF.out) | (with_reducible refine Fr.set ?_ _ _ (by decide)))) (HE.out hb)
  · go_simp
    clear hc3
    have hc3 := hM.pat.c3
    have hc0 := hM.m.cell (j := 0) (v := .pointer (some ⟨G.pb, 0, none⟩)) rfl
    obtain ⟨la, lb, capl, hc, _⟩ := hM.pat.code pc st Hst.out
    have s0 : w'.cell? ⟨G.cb, pc * 15, none⟩ = some (.int .i64 7) := by have := hc 0 (.int .i64 st.dO) rfl; rw [H3.out] at this; exact this
    have s11 := hc 11 (.int .i64 st.a) rfl
    have s10 := hc 10 (.int .i64 st.grp) rfl
    have hgl : st.grp < G.nl := by
      rcases hM.wf.act _ _ Hst.out with h1 | h1 | h1 | h1 | h1 | h1 | h1 <;> first | exact h1.2.2.1 | (exfalso; have := H3.out; omega)
    have hm6 : w'.cell? ⟨G.mb, 6, none⟩ = some (.slice (some ⟨D'.gb, 0, none⟩) G.nl G.nl) := hM.m.cell rfl
    have hbl : bg.length = G.nl := hM.bl
    have hbg := hM.be.cell (natVals_get bg st.grp (by omega))
    have hne : (((bg[st.grp]?.getD 0 : Nat) : Int) == (k : Int)) = false := by
      have := HB.out
      rw [beq_eq_false_iff_ne]; omega
    generalize hv : bg[st.grp]?.getD 0 = v at *
    have HV := Lib.hid hv
    clear hv hbl
    clear hc
    have HM := Lib.hid hM
    have HD1 := Lib.hid d1
    have HD2 := Lib.hid d2
    have HD3 := Lib.hid d3
    have HD4 := Lib.hid d4
    have HD5 := Lib.hid d5
    clear hM d1 d2 d3 d4 d5
    repeat (first | go_skip | go_guarded | ((with_reducible refine wp_cond_true ?_ ?_); focus (simp [Act.eval, sz]; done)) | ((with_reducible refine wp_cond_false ?_ ?_); focus (simp [Act.eval, sz]; done)) | ((fail_if_success (with_reducible refine wp_cond_true ?_ ?_)); go_step) | go_upon)
    refine wp_region_still_tail 11 hmx (by kernel_rfl) ?_
    simp only [List.take_succ_cons, List.take_zero, List.drop_succ_cons, List.drop_zero]
    repeat ((with_reducible refine wpStill_step (fun K hK => ?_)); go_simp; (with_reducible refine hK _ ?_); clear hK K)
    (with_reducible refine wpStill_nil ?_)
    repeat (first | go_skip | go_guarded | ((with_reducible refine wp_cond_true ?_ ?_); focus (simp [Act.eval, sz]; done)) | ((with_reducible refine wp_cond_false ?_ ?_); focus (simp [Act.eval, sz]; done)) | ((fail_if_success (with_reducible refine wp_cond_true ?_ ?_)); go_step) | go_upon)
    exact HQ.out.next _ _ st.a k (by repeat (first | (with_reducible exact HF.out) | (with_reducible refine Fr.set ?_ _ _ (by decide)))) (by repeat (first | (with_reducible exact Sl.same _) | (with_reducible exact H9.out) | (with_reducible refine Sl.ne ?_ (by decide)))) (by repeat (first | (with_reducible exact Sl.same _) | (with_reducible exact H10.out) | (with_reducible refine Sl.ne ?_ (by decide)))) (HN.out _ _ hb HD1.out HD2.out HM.out.drew)


set_option maxRecDepth 100000 in
set_option maxHeartbeats 1000000 in
theorem in_again_no {w : World} {G : Geo} {D : Dyn} {bit : Nat → Nat → Bool} {jobs : List Job} {bg : List Nat} (h : Mat w G D bit jobs bg) {xs : Array Value} {pc k : Nat} (hf : Fr xs G.mb) (h9 : Sl xs 9 (.int .i64 (pc : Int))) (h10 : Sl xs 10 (.int .i64 (k : Int)))
    {st : Step} (hst : G.C[pc]? = some st) (hk : k ≤ G.ps.length) (h3 : st.dO = 7) (hbk : bg[st.grp]?.getD 0 = k) {Q : Exit → Act → World → Prop} {N : Nat → Nat → World → Prop} {E : World → Prop} {R : Nat → World → Prop} (hQ : Outs Q G N E R)
    (hE : bit (idx G.C (stOf G.C bg pc k)) k = true → E w)
    (hN : ∀ w' D', bit (idx G.C (stOf G.C bg pc k)) k = false → D'.jm = D.jm → D'.jv = D.jv → Mat w' G D' (mark bit (idx G.C (stOf G.C bg pc k)) k) jobs bg → E w') :
    Code.wp Tryd.prog inBody Q ⟨xs, []⟩ w := by
  have hpc : pc < G.C.length := (List.getElem?_eq_some_iff.1 hst).1
  have hpl := h.wf.len
  have hnp := h.np
  have hsm := h.wf.small
  have met := met_mat h pc k hpc hk
  have hc3 := h.pat.c3
  have HF := Lib.hid hf
  have H9 := Lib.hid h9
  have H10 := Lib.hid h10
  obtain ⟨sz, g0, g2⟩ := hf
  unfold Sl at h9 h10
  have HH := Lib.hid h
  have HQ := Lib.hid hQ
  have HE := Lib.hid hE
  have HN := Lib.hid hN
  have H3 := Lib.hid h3
  have HB := Lib.hid hbk
  clear hbk
  have Hst := Lib.hid hst
  have hmx : Tryd.prog.follows .mixedOrders = true := by kernel_rfl
  clear h hQ hE hN h3 hst
  conv => arg 2; whnf
  repeat (first | go_skip | go_guarded | ((with_reducible refine wp_cond_true ?_ ?_); focus (simp [Act.eval, sz]; done)) | ((with_reducible refine wp_cond_false ?_ ?_); focus (simp [Act.eval, sz]; done)) | ((fail_if_success (with_reducible refine wp_cond_true ?_ ?_)); go_step) | go_upon)
  refine met.mono ?_
  rintro e w' hmet
  clear met
  obtain ⟨hb, rfl, rfl⟩ | ⟨hb, rfl, D', d1, d2, d3, d4, d5, hM⟩ := hmet
  · go_simp
    repeat (first | go_skip | go_guarded | ((with_reducible refine wp_cond_true ?_ ?_); focus (simp [Act.eval, sz]; done)) | ((with_reducible refine wp_cond_false ?_ ?_); focus (simp [Act.eval, sz]; done)) | ((fail_if_success (with_reducible refine wp_cond_true ?_ ?_)); go_step) | go_upon)
    exact HQ.out.leave _ _ (by repeat (first | (with_reducible exact HF.out) | (with_reducible refine Fr.set ?_ _ _ (by decide)))) (HE.out hb)
  · go_simp
    clear hc3
    have hc3 := hM.pat.c3
    have hc0 := hM.m.cell (j := 0) (v := .pointer (some ⟨G.pb, 0, none⟩)) rfl
    obtain ⟨la, lb, capl, hc, _⟩ := hM.pat.code pc st Hst.out
    have s0 : w'.cell? ⟨G.cb, pc * 15, none⟩ = some (.int .i64 7) := by have := hc 0 (.int .i64 st.dO) rfl; rw [H3.out] at this; exact this
    have s11 := hc 11 (.int .i64 st.a) rfl
    have s10 := hc 10 (.int .i64 st.grp) rfl
    have hgl : st.grp < G.nl := by
      rcases hM.wf.act _ _ Hst.out with h1 | h1 | h1 | h1 | h1 | h1 | h1 <;> first | exact h1.2.2.1 | (exfalso; have := H3.out; omega)
    have hm6 : w'.cell? ⟨G.mb, 6, none⟩ = some (.slice (some ⟨D'.gb, 0, none⟩) G.nl G.nl) := hM.m.cell rfl
    have hbl : bg.length = G.nl := hM.bl
    have hbg := hM.be.cell (natVals_get bg st.grp (by omega))
    rw [HB.out] at hbg
    clear hbl
    clear hc
    have HM := Lib.hid hM
    have HD1 := Lib.hid d1
    have HD2 := Lib.hid d2
    have HD3 := Lib.hid d3
    have HD4 := Lib.hid d4
    have HD5 := Lib.hid d5
    clear hM d1 d2 d3 d4 d5
    repeat (first | go_skip | go_guarded | ((with_reducible refine wp_cond_true ?_ ?_); focus (simp [Act.eval, sz]; done)) | ((with_reducible refine wp_cond_false ?_ ?_); focus (simp [Act.eval, sz]; done)) | ((fail_if_success (with_reducible refine wp_cond_true ?_ ?_)); go_step) | go_upon)
    refine wp_region_still_tail 11 hmx (by kernel_rfl) ?_
    simp only [List.take_succ_cons, List.take_zero, List.drop_succ_cons, List.drop_zero]
    repeat ((with_reducible refine wpStill_step (fun K hK => ?_)); go_simp; (with_reducible refine hK _ ?_); clear hK K)
    (with_reducible refine wpStill_nil ?_)
    repeat (first | go_skip | go_guarded | ((with_reducible refine wp_cond_true ?_ ?_); focus (simp [Act.eval, sz]; done)) | ((with_reducible refine wp_cond_false ?_ ?_); focus (simp [Act.eval, sz]; done)) | ((fail_if_success (with_reducible refine wp_cond_true ?_ ?_)); go_step) | go_upon)
    exact HQ.out.leave _ _ (by repeat (first | (with_reducible exact HF.out) | (with_reducible refine Fr.set ?_ _ _ (by decide)))) (HN.out _ _ hb HD1.out HD2.out HM.out.drew)


set_option maxRecDepth 100000 in
set_option maxHeartbeats 1000000 in
theorem in_over {w : World} {G : Geo} {D : Dyn} {bit : Nat → Nat → Bool} {jobs : List Job} {bg : List Nat} (h : Mat w G D bit jobs bg) {xs : Array Value} {pc k : Nat} (hf : Fr xs G.mb) (h9 : Sl xs 9 (.int .i64 (pc : Int))) (h10 : Sl xs 10 (.int .i64 (k : Int)))
    {st : Step} (hst : G.C[pc]? = some st) (hk : k ≤ G.ps.length) (h3 : st.dO = 8) {Q : Exit → Act → World → Prop} {N : Nat → Nat → World → Prop} {E : World → Prop} {R : Nat → World → Prop} (hQ : Outs Q G N E R)
    (hE : bit (idx G.C (stOf G.C bg pc k)) k = true → E w)
    (hN : ∀ w' D', bit (idx G.C (stOf G.C bg pc k)) k = false → D'.jm = D.jm → D'.jv = D.jv → Mat w' G D' (mark bit (idx G.C (stOf G.C bg pc k)) k) jobs bg → R k w') :
    Code.wp Tryd.prog inBody Q ⟨xs, []⟩ w := by
  have hpc : pc < G.C.length := (List.getElem?_eq_some_iff.1 hst).1
  have hpl := h.wf.len
  have hnp := h.np
  have hsm := h.wf.small
  have met := met_mat h pc k hpc hk
  have hc3 := h.pat.c3
  have HF := Lib.hid hf
  have H9 := Lib.hid h9
  have H10 := Lib.hid h10
  obtain ⟨sz, g0, g2⟩ := hf
  unfold Sl at h9 h10
  have HH := Lib.hid h
  have HQ := Lib.hid hQ
  have HE := Lib.hid hE
  have HN := Lib.hid hN
  have H3 := Lib.hid h3
  have Hst := Lib.hid hst
  have hmx : Tryd.prog.follows .mixedOrders = true := by kernel_rfl
  clear h hQ hE hN h3 hst
  conv => arg 2; whnf
  repeat (first | go_skip | go_guarded | ((with_reducible refine wp_cond_true ?_ ?_); focus (simp [Act.eval, sz]; done)) | ((with_reducible refine wp_cond_false ?_ ?_); focus (simp [Act.eval, sz]; done)) | ((fail_if_success (with_reducible refine wp_cond_true ?_ ?_)); go_step) | go_upon)
  refine met.mono ?_
  rintro e w' hmet
  clear met
  obtain ⟨hb, rfl, rfl⟩ | ⟨hb, rfl, D', d1, d2, d3, d4, d5, hM⟩ := hmet
  · go_simp
    repeat (first | go_skip | go_guarded | ((with_reducible refine wp_cond_true ?_ ?_); focus (simp [Act.eval, sz]; done)) | ((with_reducible refine wp_cond_false ?_ ?_); focus (simp [Act.eval, sz]; done)) | ((fail_if_success (with_reducible refine wp_cond_true ?_ ?_)); go_step) | go_upon)
    exact HQ.out.leave _ _ (by repeat (first | (with_reducible exact HF.out) | (with_reducible refine Fr.set ?_ _ _ (by decide)))) (HE.out hb)
  · go_simp
    clear hc3
    have hc3 := hM.pat.c3
    have hc0 := hM.m.cell (j := 0) (v := .pointer (some ⟨G.pb, 0, none⟩)) rfl
    obtain ⟨la, lb, capl, hc, _⟩ := hM.pat.code pc st Hst.out
    have s0 : w'.cell? ⟨G.cb, pc * 15, none⟩ = some (.int .i64 8) := by have := hc 0 (.int .i64 st.dO) rfl; rw [H3.out] at this; exact this
    clear hc
    have HM := Lib.hid hM
    have HD1 := Lib.hid d1
    have HD2 := Lib.hid d2
    have HD3 := Lib.hid d3
    have HD4 := Lib.hid d4
    have HD5 := Lib.hid d5
    clear hM d1 d2 d3 d4 d5
    repeat (first | go_skip | go_guarded | ((with_reducible refine wp_cond_true ?_ ?_); focus (simp [Act.eval, sz]; done)) | ((with_reducible refine wp_cond_false ?_ ?_); focus (simp [Act.eval, sz]; done)) | ((fail_if_success (with_reducible refine wp_cond_true ?_ ?_)); go_step) | go_upon)
    exact HQ.out.ret _ _ k (by repeat (first | (with_reducible exact HF.out) | (with_reducible refine Fr.set ?_ _ _ (by decide)))) (by repeat (first | (with_reducible exact Sl.same _) | (with_reducible refine Sl.ne ?_ (by decide)))) (HN.out _ _ hb HD1.out HD2.out HM.out)


set_option maxRecDepth 100000 in
set_option maxHeartbeats 1000000 in
theorem in_take_end {w : World} {G : Geo} {D : Dyn} {bit : Nat → Nat → Bool} {jobs : List Job} {bg : List Nat} (h : Mat w G D bit jobs bg) {xs : Array Value} {pc k : Nat} (hf : Fr xs G.mb) (h9 : Sl xs 9 (.int .i64 (pc : Int))) (h10 : Sl xs 10 (.int .i64 (k : Int)))
    {st : Step} (hst : G.C[pc]? = some st) (hk : k ≤ G.ps.length) (h3 : st.dO = 0) (hkl : k = G.ps.length) {Q : Exit → Act → World → Prop} {N : Nat → Nat → World → Prop} {E : World → Prop} {R : Nat → World → Prop} (hQ : Outs Q G N E R)
    (hE : bit (idx G.C (stOf G.C bg pc k)) k = true → E w)
    (hN : ∀ w' D', bit (idx G.C (stOf G.C bg pc k)) k = false → D'.jm = D.jm → D'.jv = D.jv → Mat w' G D' (mark bit (idx G.C (stOf G.C bg pc k)) k) jobs bg → E w') :
    Code.wp Tryd.prog inBody Q ⟨xs, []⟩ w := by
  have hpc : pc < G.C.length := (List.getElem?_eq_some_iff.1 hst).1
  have hpl := h.wf.len
  have hnp := h.np
  have hsm := h.wf.small
  have met := met_mat h pc k hpc hk
  have hc3 := h.pat.c3
  have HF := Lib.hid hf
  have H9 := Lib.hid h9
  have H10 := Lib.hid h10
  obtain ⟨sz, g0, g2⟩ := hf
  unfold Sl at h9 h10
  have HH := Lib.hid h
  have HQ := Lib.hid hQ
  have HE := Lib.hid hE
  have HN := Lib.hid hN
  have H3 := Lib.hid h3
  have HB := Lib.hid hkl
  clear hkl
  have Hst := Lib.hid hst
  have hmx : Tryd.prog.follows .mixedOrders = true := by kernel_rfl
  clear h hQ hE hN h3 hst
  conv => arg 2; whnf
  repeat (first | go_skip | go_guarded | ((with_reducible refine wp_cond_true ?_ ?_); focus (simp [Act.eval, sz]; done)) | ((with_reducible refine wp_cond_false ?_ ?_); focus (simp [Act.eval, sz]; done)) | ((fail_if_success (with_reducible refine wp_cond_true ?_ ?_)); go_step) | go_upon)
  refine met.mono ?_
  rintro e w' hmet
  clear met
  obtain ⟨hb, rfl, rfl⟩ | ⟨hb, rfl, D', d1, d2, d3, d4, d5, hM⟩ := hmet
  · go_simp
    repeat (first | go_skip | go_guarded | ((with_reducible refine wp_cond_true ?_ ?_); focus (simp [Act.eval, sz]; done)) | ((with_reducible refine wp_cond_false ?_ ?_); focus (simp [Act.eval, sz]; done)) | ((fail_if_success (with_reducible refine wp_cond_true ?_ ?_)); go_step) | go_upon)
    exact HQ.out.leave _ _ (by repeat (first | (with_reducible exact HF.out) | (with_reducible refine Fr.set ?_ _ _ (by decide)))) (HE.out hb)
  · go_simp
    clear hc3
    have hc3 := hM.pat.c3
    have hc0 := hM.m.cell (j := 0) (v := .pointer (some ⟨G.pb, 0, none⟩)) rfl
    obtain ⟨la, lb, capl, hc, _⟩ := hM.pat.code pc st Hst.out
    have s0 : w'.cell? ⟨G.cb, pc * 15, none⟩ = some (.int .i64 0) := by have := hc 0 (.int .i64 st.dO) rfl; rw [H3.out] at this; exact this
    obtain ⟨pa, cap, hpv⟩ : ∃ pa cap, G.pv = .slice pa G.ps.length cap := by
      rcases hM.pvForm with ⟨h1, h2⟩ | ⟨q, cap, h1⟩
      · exact ⟨none, 0, by rw [h1, h2]⟩
      · exact ⟨_, cap, h1⟩
    have hm2 : w'.cell? ⟨G.mb, 2, none⟩ = some (.slice pa G.ps.length cap) := by have := hM.m.cell (j := 2) (v := G.pv) rfl; rw [hpv] at this; exact this
    clear hpv
    have hke : ((k : Int) == (G.ps.length : Int)) = true := by rw [HB.out]; simp
    clear hc
    have HM := Lib.hid hM
    have HD1 := Lib.hid d1
    have HD2 := Lib.hid d2
    have HD3 := Lib.hid d3
    have HD4 := Lib.hid d4
    have HD5 := Lib.hid d5
    clear hM d1 d2 d3 d4 d5
    repeat (first | go_skip | go_guarded | ((with_reducible refine wp_cond_true ?_ ?_); focus (simp [Act.eval, sz]; done)) | ((with_reducible refine wp_cond_false ?_ ?_); focus (simp [Act.eval, sz]; done)) | ((fail_if_success (with_reducible refine wp_cond_true ?_ ?_)); go_step) | go_upon)
    refine wp_region_still_tail 20 hmx (by kernel_rfl) ?_
    simp only [List.take_succ_cons, List.take_zero, List.drop_succ_cons, List.drop_zero]
    repeat ((with_reducible refine wpStill_step (fun K hK => ?_)); go_simp; (with_reducible refine hK _ ?_); clear hK K)
    (with_reducible refine wpStill_nil ?_)
    repeat (first | go_skip | go_guarded | ((with_reducible refine wp_cond_true ?_ ?_); focus (simp [Act.eval, sz]; done)) | ((with_reducible refine wp_cond_false ?_ ?_); focus (simp [Act.eval, sz]; done)) | ((fail_if_success (with_reducible refine wp_cond_true ?_ ?_)); go_step) | go_upon)
    exact HQ.out.leave _ _ (by repeat (first | (with_reducible exact HF.out) | (with_reducible refine Fr.set ?_ _ _ (by decide)))) (HN.out _ _ hb HD1.out HD2.out HM.out.drew)


set_option maxRecDepth 100000 in
set_option maxHeartbeats 2000000 in
theorem in_take {w : World} {G : Geo} {D : Dyn} {bit : Nat → Nat → Bool} {jobs : List Job} {bg : List Nat} (h : Mat w G D bit jobs bg) {xs : Array Value} {pc k : Nat} (hf : Fr xs G.mb) (h9 : Sl xs 9 (.int .i64 (pc : Int))) (h10 : Sl xs 10 (.int .i64 (k : Int)))
    {st : Step} (hst : G.C[pc]? = some st) (hk : k ≤ G.ps.length) (h3 : st.dO = 0) {p : Pc} (hkl : G.ps[k]? = some p) (hacc : acc st p = true) {Q : Exit → Act → World → Prop} {N : Nat → Nat → World → Prop} {E : World → Prop} {R : Nat → World → Prop} (hQ : Outs Q G N E R)
    (hE : bit (idx G.C (stOf G.C bg pc k)) k = true → E w)
    (hN : ∀ w' D', bit (idx G.C (stOf G.C bg pc k)) k = false → D'.jm = D.jm → D'.jv = D.jv → Mat w' G D' (mark bit (idx G.C (stOf G.C bg pc k)) k) jobs bg → N (pc + 1) (k + 1) w') :
    Code.wp Tryd.prog inBody Q ⟨xs, []⟩ w := by
  have hpc : pc < G.C.length := (List.getElem?_eq_some_iff.1 hst).1
  have hpl := h.wf.len
  have hnp := h.np
  have hsm := h.wf.small
  have met := met_mat h pc k hpc hk
  have hc3 := h.pat.c3
  have HF := Lib.hid hf
  have H9 := Lib.hid h9
  have H10 := Lib.hid h10
  obtain ⟨sz, g0, g2⟩ := hf
  unfold Sl at h9 h10
  have HH := Lib.hid h
  have HQ := Lib.hid hQ
  have HE := Lib.hid hE
  have HN := Lib.hid hN
  have H3 := Lib.hid h3
  have HB := Lib.hid hkl
  clear hkl
  have HA := Lib.hid hacc
  clear hacc
  have Hst := Lib.hid hst
  have hmx : Tryd.prog.follows .mixedOrders = true := by kernel_rfl
  clear h hQ hE hN h3 hst
  conv => arg 2; whnf
  repeat (first | go_skip | go_guarded | ((with_reducible refine wp_cond_true ?_ ?_); focus (simp [Act.eval, sz]; done)) | ((with_reducible refine wp_cond_false ?_ ?_); focus (simp [Act.eval, sz]; done)) | ((fail_if_success (with_reducible refine wp_cond_true ?_ ?_)); go_step) | go_upon)
  refine met.mono ?_
  rintro e w' hmet
  clear met
  obtain ⟨hb, rfl, rfl⟩ | ⟨hb, rfl, D', d1, d2, d3, d4, d5, hM⟩ := hmet
  · go_simp
    repeat (first | go_skip | go_guarded | ((with_reducible refine wp_cond_true ?_ ?_); focus (simp [Act.eval, sz]; done)) | ((with_reducible refine wp_cond_false ?_ ?_); focus (simp [Act.eval, sz]; done)) | ((fail_if_success (with_reducible refine wp_cond_true ?_ ?_)); go_step) | go_upon)
    exact HQ.out.leave _ _ (by repeat (first | (with_reducible exact HF.out) | (with_reducible refine Fr.set ?_ _ _ (by decide)))) (HE.out hb)
  · go_simp
    clear hc3
    have hc3 := hM.pat.c3
    have hc0 := hM.m.cell (j := 0) (v := .pointer (some ⟨G.pb, 0, none⟩)) rfl
    obtain ⟨la, lb, capl, hc, _⟩ := hM.pat.code pc st Hst.out
    have s0 : w'.cell? ⟨G.cb, pc * 15, none⟩ = some (.int .i64 0) := by have := hc 0 (.int .i64 st.dO) rfl; rw [H3.out] at this; exact this
    obtain ⟨q, cap, hpv⟩ : ∃ q cap, G.pv = .slice (some ⟨q, 0, none⟩) G.ps.length cap := by
      rcases hM.pvForm with ⟨h1, h2⟩ | ⟨q, cap, h1⟩
      · have := (List.getElem?_eq_some_iff.1 HB.out).1; omega
      · exact ⟨q, cap, h1⟩
    have hm2 : w'.cell? ⟨G.mb, 2, none⟩ = some (.slice (some ⟨q, 0, none⟩) G.ps.length cap) := by have := hM.m.cell (j := 2) (v := G.pv) rfl; rw [hpv] at this; exact this
    have hm1 : w'.cell? ⟨G.mb, 1, none⟩ = some (.string G.s) := hM.m.cell rfl
    have hkn : k < G.ps.length := (List.getElem?_eq_some_iff.1 HB.out).1
    have hke : ((k : Int) == (G.ps.length : Int)) = false := by rw [beq_eq_false_iff_ne]; omega
    have p0 : w'.cell? ⟨q, k * 4, none⟩ = some (.int .i64 p.at_) := hM.pcCell hpv (j := 0) HB.out rfl (by decide)
    have p1 := hM.pcCell hpv (j := 1) HB.out rfl (by decide)
    have p2 := hM.pcCell hpv (j := 2) HB.out rfl (by decide)
    have p3 := hM.pcCell hpv (j := 3) HB.out rfl (by decide)
    have s1 := hc 1 _ rfl
    have s2 := hc 2 _ rfl
    have s3 := hc 3 _ rfl
    have s4 := hc 4 _ rfl
    have s5 := hc 5 _ rfl
    have s6 := hc 6 _ rfl
    have s7 := hc 7 _ rfl
    have s8 := hc 8 _ rfl
    have s9 := hc 9 _ rfl
    have hpc2 := hM.pcs p (List.mem_of_getElem? HB.out)
    have hac : st.what = 0 ∨ (st.what = 1 ∧ simple p) := (hM.acs st (List.mem_of_getElem? Hst.out) H3.out).imp id fun h => ⟨h.1, h.2 p (List.mem_of_getElem? HB.out)⟩
    have his := is_all (w'.drew) G.mb G.s st p hm1 hM.sz hpc2 hac
    have HIS := Lib.hid his
    clear hpv his hac
    clear hc
    have HM := Lib.hid hM
    have HD1 := Lib.hid d1
    have HD2 := Lib.hid d2
    have HD3 := Lib.hid d3
    have HD4 := Lib.hid d4
    have HD5 := Lib.hid d5
    clear hM d1 d2 d3 d4 d5
    repeat (first | go_skip | go_guarded | ((with_reducible refine wp_cond_true ?_ ?_); focus (simp [Act.eval, sz]; done)) | ((with_reducible refine wp_cond_false ?_ ?_); focus (simp [Act.eval, sz]; done)) | ((fail_if_success (with_reducible refine wp_cond_true ?_ ?_)); go_step) | go_upon)
    refine wp_region_still_tail 20 hmx (by kernel_rfl) ?_
    simp only [List.take_succ_cons, List.take_zero, List.drop_succ_cons, List.drop_zero]
    repeat ((with_reducible refine wpStill_step (fun K hK => ?_)); go_simp; (with_reducible refine hK _ ?_); clear hK K)
    (with_reducible refine wpStill_nil ?_)
    repeat (first | go_skip | go_guarded | ((with_reducible refine wp_cond_true ?_ ?_); focus (simp [Act.eval, sz]; done)) | ((with_reducible refine wp_cond_false ?_ ?_); focus (simp [Act.eval, sz]; done)) | ((fail_if_success (with_reducible refine wp_cond_true ?_ ?_)); go_step) | go_upon)
    refine (HIS.out).mono ?_
    rintro e w2 ⟨he, hbl⟩
    rw [HA.out] at he
    subst he
    have hM2 := (HM.out.drew).keep (hbl.mono HM.out.Bsize) (fun b hb => hbl.block b hb)
    have HB2 := Lib.hid hM2
    clear hM2 hbl
    go_simp
    repeat (first | go_skip | go_guarded | ((with_reducible refine wp_cond_true ?_ ?_); focus (simp [Act.eval, sz]; done)) | ((with_reducible refine wp_cond_false ?_ ?_); focus (simp [Act.eval, sz]; done)) | ((fail_if_success (with_reducible refine wp_cond_true ?_ ?_)); go_step) | go_upon)
    exact HQ.out.next _ _ (pc + 1) (k + 1) (by repeat (first | (with_reducible exact HF.out) | (with_reducible refine Fr.set ?_ _ _ (by decide)))) (show Sl _ 9 (.int .i64 ((pc : Int) + 1)) from (by repeat (first | (with_reducible exact Sl.same _) | (with_reducible refine Sl.ne ?_ (by decide))))) (show Sl _ 10 (.int .i64 ((k : Int) + 1)) from (by repeat (first | (with_reducible exact Sl.same _) | (with_reducible refine Sl.ne ?_ (by decide))))) (HN.out _ _ hb HD1.out HD2.out HB2.out)


set_option maxRecDepth 100000 in
set_option maxHeartbeats 2000000 in
theorem in_take_no {w : World} {G : Geo} {D : Dyn} {bit : Nat → Nat → Bool} {jobs : List Job} {bg : List Nat} (h : Mat w G D bit jobs bg) {xs : Array Value} {pc k : Nat} (hf : Fr xs G.mb) (h9 : Sl xs 9 (.int .i64 (pc : Int))) (h10 : Sl xs 10 (.int .i64 (k : Int)))
    {st : Step} (hst : G.C[pc]? = some st) (hk : k ≤ G.ps.length) (h3 : st.dO = 0) {p : Pc} (hkl : G.ps[k]? = some p) (hacc : acc st p = false) {Q : Exit → Act → World → Prop} {N : Nat → Nat → World → Prop} {E : World → Prop} {R : Nat → World → Prop} (hQ : Outs Q G N E R)
    (hE : bit (idx G.C (stOf G.C bg pc k)) k = true → E w)
    (hN : ∀ w' D', bit (idx G.C (stOf G.C bg pc k)) k = false → D'.jm = D.jm → D'.jv = D.jv → Mat w' G D' (mark bit (idx G.C (stOf G.C bg pc k)) k) jobs bg → E w') :
    Code.wp Tryd.prog inBody Q ⟨xs, []⟩ w := by
  have hpc : pc < G.C.length := (List.getElem?_eq_some_iff.1 hst).1
  have hpl := h.wf.len
  have hnp := h.np
  have hsm := h.wf.small
  have met := met_mat h pc k hpc hk
  have hc3 := h.pat.c3
  have HF := Lib.hid hf
  have H9 := Lib.hid h9
  have H10 := Lib.hid h10
  obtain ⟨sz, g0, g2⟩ := hf
  unfold Sl at h9 h10
  have HH := Lib.hid h
  have HQ := Lib.hid hQ
  have HE := Lib.hid hE
  have HN := Lib.hid hN
  have H3 := Lib.hid h3
  have HB := Lib.hid hkl
  clear hkl
  have HA := Lib.hid hacc
  clear hacc
  have Hst := Lib.hid hst
  have hmx : Tryd.prog.follows .mixedOrders = true := by kernel_rfl
  clear h hQ hE hN h3 hst
  conv => arg 2; whnf
  repeat (first | go_skip | go_guarded | ((with_reducible refine wp_cond_true ?_ ?_); focus (simp [Act.eval, sz]; done)) | ((with_reducible refine wp_cond_false ?_ ?_); focus (simp [Act.eval, sz]; done)) | ((fail_if_success (with_reducible refine wp_cond_true ?_ ?_)); go_step) | go_upon)
  refine met.mono ?_
  rintro e w' hmet
  clear met
  obtain ⟨hb, rfl, rfl⟩ | ⟨hb, rfl, D', d1, d2, d3, d4, d5, hM⟩ := hmet
  · go_simp
    repeat (first | go_skip | go_guarded | ((with_reducible refine wp_cond_true ?_ ?_); focus (simp [Act.eval, sz]; done)) | ((with_reducible refine wp_cond_false ?_ ?_); focus (simp [Act.eval, sz]; done)) | ((fail_if_success (with_reducible refine wp_cond_true ?_ ?_)); go_step) | go_upon)
    exact HQ.out.leave _ _ (by repeat (first | (with_reducible exact HF.out) | (with_reducible refine Fr.set ?_ _ _ (by decide)))) (HE.out hb)
  · go_simp
    clear hc3
    have hc3 := hM.pat.c3
    have hc0 := hM.m.cell (j := 0) (v := .pointer (some ⟨G.pb, 0, none⟩)) rfl
    obtain ⟨la, lb, capl, hc, _⟩ := hM.pat.code pc st Hst.out
    have s0 : w'.cell? ⟨G.cb, pc * 15, none⟩ = some (.int .i64 0) := by have := hc 0 (.int .i64 st.dO) rfl; rw [H3.out] at this; exact this
    obtain ⟨q, cap, hpv⟩ : ∃ q cap, G.pv = .slice (some ⟨q, 0, none⟩) G.ps.length cap := by
      rcases hM.pvForm with ⟨h1, h2⟩ | ⟨q, cap, h1⟩
      · have := (List.getElem?_eq_some_iff.1 HB.out).1; omega
      · exact ⟨q, cap, h1⟩
    have hm2 : w'.cell? ⟨G.mb, 2, none⟩ = some (.slice (some ⟨q, 0, none⟩) G.ps.length cap) := by have := hM.m.cell (j := 2) (v := G.pv) rfl; rw [hpv] at this; exact this
    have hm1 : w'.cell? ⟨G.mb, 1, none⟩ = some (.string G.s) := hM.m.cell rfl
    have hkn : k < G.ps.length := (List.getElem?_eq_some_iff.1 HB.out).1
    have hke : ((k : Int) == (G.ps.length : Int)) = false := by rw [beq_eq_false_iff_ne]; omega
    have p0 : w'.cell? ⟨q, k * 4, none⟩ = some (.int .i64 p.at_) := hM.pcCell hpv (j := 0) HB.out rfl (by decide)
    have p1 := hM.pcCell hpv (j := 1) HB.out rfl (by decide)
    have p2 := hM.pcCell hpv (j := 2) HB.out rfl (by decide)
    have p3 := hM.pcCell hpv (j := 3) HB.out rfl (by decide)
    have s1 := hc 1 _ rfl
    have s2 := hc 2 _ rfl
    have s3 := hc 3 _ rfl
    have s4 := hc 4 _ rfl
    have s5 := hc 5 _ rfl
    have s6 := hc 6 _ rfl
    have s7 := hc 7 _ rfl
    have s8 := hc 8 _ rfl
    have s9 := hc 9 _ rfl
    have hpc2 := hM.pcs p (List.mem_of_getElem? HB.out)
    have hac : st.what = 0 ∨ (st.what = 1 ∧ simple p) := (hM.acs st (List.mem_of_getElem? Hst.out) H3.out).imp id fun h => ⟨h.1, h.2 p (List.mem_of_getElem? HB.out)⟩
    have his := is_all (w'.drew) G.mb G.s st p hm1 hM.sz hpc2 hac
    have HIS := Lib.hid his
    clear hpv his hac
    clear hc
    have HM := Lib.hid hM
    have HD1 := Lib.hid d1
    have HD2 := Lib.hid d2
    have HD3 := Lib.hid d3
    have HD4 := Lib.hid d4
    have HD5 := Lib.hid d5
    clear hM d1 d2 d3 d4 d5
    repeat (first | go_skip | go_guarded | ((with_reducible refine wp_cond_true ?_ ?_); focus (simp [Act.eval, sz]; done)) | ((with_reducible refine wp_cond_false ?_ ?_); focus (simp [Act.eval, sz]; done)) | ((fail_if_success (with_reducible refine wp_cond_true ?_ ?_)); go_step) | go_upon)
    refine wp_region_still_tail 20 hmx (by kernel_rfl) ?_
    simp only [List.take_succ_cons, List.take_zero, List.drop_succ_cons, List.drop_zero]
    repeat ((with_reducible refine wpStill_step (fun K hK => ?_)); go_simp; (with_reducible refine hK _ ?_); clear hK K)
    (with_reducible refine wpStill_nil ?_)
    repeat (first | go_skip | go_guarded | ((with_reducible refine wp_cond_true ?_ ?_); focus (simp [Act.eval, sz]; done)) | ((with_reducible refine wp_cond_false ?_ ?_); focus (simp [Act.eval, sz]; done)) | ((fail_if_success (with_reducible refine wp_cond_true ?_ ?_)); go_step) | go_upon)
    refine (HIS.out).mono ?_
    rintro e w2 ⟨he, hbl⟩
    rw [HA.out] at he
    subst he
    have hM2 := (HM.out.drew).keep (hbl.mono HM.out.Bsize) (fun b hb => hbl.block b hb)
    have HB2 := Lib.hid hM2
    clear hM2 hbl
    go_simp
    repeat (first | go_skip | go_guarded | ((with_reducible refine wp_cond_true ?_ ?_); focus (simp [Act.eval, sz]; done)) | ((with_reducible refine wp_cond_false ?_ ?_); focus (simp [Act.eval, sz]; done)) | ((fail_if_success (with_reducible refine wp_cond_true ?_ ?_)); go_step) | go_upon)
    exact HQ.out.leave _ _ (by repeat (first | (with_reducible exact HF.out) | (with_reducible refine Fr.set ?_ _ _ (by decide)))) (HN.out _ _ hb HD1.out HD2.out HB2.out)


end Go.Proofs.YtlanodchnjojoaaDoor
