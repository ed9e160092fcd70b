/- The contracts of the methods place and group of a matcher. -/
import Derived.Test.YtlanodchnjojoaaDoorMetM
import Derived.Test.YtlanodchnjojoaaDoorMix
import Derived.Deep.RegionHeld3
import Derived.Deep.DrawnRows
namespace Go.Proofs.YtlanodchnjojoaaDoor
open Go.RowKit
attribute [local go_sem ↓] Go.wp_at_zero Go.wp_at_succ

set_option maxHeartbeats 400000 in
theorem place_end (w : World) (b : Nat) (s : ByteArray) (pa : Option Addr) (n cap : Nat) (_hs : s.size ≤ 65536)
    (h1 : w.cell? ⟨b, 1, none⟩ = some (.string s)) (h2 : w.cell? ⟨b, 2, none⟩ = some (.slice pa n cap)) (_hn : n ≤ 65536) :
    Calls Tryd.prog 15 #[.pointer (some ⟨b, 0, none⟩), .int .i64 n] w fun e w' => e = .returned (.int .i64 s.size) ∧ w = w' := by
  go_enter Tryd.func15, Tryd.ntmps15
  go_wp2
  go_ret
  exact ⟨rfl, rfl⟩

set_option maxHeartbeats 400000 in
theorem place_in (w : World) (b : Nat) (pb n cap k : Nat) (at' : Int) (hk : k < n) (_hn : n ≤ 65536)
    (h2 : w.cell? ⟨b, 2, none⟩ = some (.slice (some ⟨pb, 0, none⟩) n cap)) (h3 : w.cell? ⟨pb, k * 4, none⟩ = some (.int .i64 at')) :
    Calls Tryd.prog 15 #[.pointer (some ⟨b, 0, none⟩), .int .i64 k] w fun e w' => e = .returned (.int .i64 at') ∧ w = w' := by
  go_enter Tryd.func15, Tryd.ntmps15
  go_wp2
  go_ret
  exact ⟨rfl, rfl⟩

/-- Where piece k stands. -/
def plc (G : Geo) (k : Nat) : Nat := (G.ps[k]?.map (·.at_)).getD G.s.size

theorem flat_get {α : Type} (f : α → List Value) (n : Nat) (hf : ∀ a, (f a).length = n) : ∀ (l : List α) (i j : Nat) (a : α) (v : Value), l[i]? = some a → (f a)[j]? = some v → (l.flatMap f)[i * n + j]? = some v := by
  intro l
  induction l with
  | nil => intro i j a v h; simp at h
  | cons x l ih =>
    intro i j a v h hj
    rw [List.flatMap_cons]
    cases i with
    | zero =>
      simp at h; subst h
      rw [List.getElem?_append_left (by have := (List.getElem?_eq_some_iff.1 hj).1; omega)]
      simpa using hj
    | succ i =>
      rw [List.getElem?_append_right (by rw [hf]; rw [Nat.succ_mul]; omega), hf, show (i + 1) * n + j - n = i * n + j by rw [Nat.succ_mul]; omega]
      exact ih i j a v (by simpa using h) hj

variable {w : World} {G : Geo} {D : Dyn} {bit : Nat → Nat → Bool} {jobs : List Job} {bg : List Nat}

theorem Mat.pvForm (h : Mat w G D bit jobs bg) : (G.pv = .slice none 0 0 ∧ G.ps.length = 0) ∨ ∃ q cap, G.pv = .slice (some ⟨q, 0, none⟩) G.ps.length cap := by
  rcases h.pc.2 with ⟨h1, h2⟩ | ⟨g, cap, _, h1, _⟩
  · exact .inl ⟨h1, h2⟩
  · exact .inr ⟨g, cap, h1⟩
theorem Mat.pcCell (h : Mat w G D bit jobs bg) {q cap : Nat} (hp : G.pv = .slice (some ⟨q, 0, none⟩) G.ps.length cap) {k j : Nat} {p : Pc} {v : Value} (hk : G.ps[k]? = some p) (hj : (pcCells p)[j]? = some v) (hj4 : j < 4) :
    w.cell? ⟨q, k * 4 + j, none⟩ = some v := by
  have h1 := h.pc
  rw [hp] at h1
  have hk' := (List.getElem?_eq_some_iff.1 hk).1
  rw [h1.cellAt (k * 4 + j) (by omega)]
  exact flat_get pcCells 4 (fun _ => rfl) _ _ _ _ _ hk hj

theorem place_mat (h : Mat w G D bit jobs bg) (k : Nat) (hk : k ≤ G.ps.length) :
    Calls Tryd.prog 15 #[.pointer (some ⟨G.mb, 0, none⟩), .int .i64 k] w fun e w' => e = .returned (.int .i64 (plc G k)) ∧ w = w' := by
  have h1 := h.m.cell (j := 1) (v := .string G.s) rfl
  have h2 := h.m.cell (j := 2) (v := G.pv) rfl
  by_cases e : k = G.ps.length
  · subst e
    have e1 : plc G G.ps.length = G.s.size := by simp [plc]
    rw [e1]
    rcases h.pvForm with ⟨hp, h0⟩ | ⟨q, cap, hp⟩
    · rw [hp] at h2
      rw [h0]
      exact place_end w G.mb G.s none 0 0 h.sz h1 h2 (by omega)
    · rw [hp] at h2
      exact place_end w G.mb G.s _ _ _ h.sz h1 h2 h.np
  · have hlt : k < G.ps.length := by omega
    have hg := List.getElem?_eq_getElem hlt
    rcases h.pvForm with ⟨hp, h0⟩ | ⟨q, cap, hp⟩
    · omega
    · have e1 : plc G k = G.ps[k].at_ := by simp [plc, hg]
      rw [e1]
      have h3 := h.pcCell hp (j := 0) hg rfl (by decide)
      rw [hp] at h2
      exact place_in w G.mb q G.ps.length cap k _ hlt h.np h2 h3

theorem Tryd.infoJob : (Tryd.prog.info? 102).map (fun i => (i.zero, i.size, i.bytes)) = some (some (.agg #[.int .i64 0, .int .i64 0, .bool false, .bool false, .int .i64 0, .int .i64 0, .int .i64 0, .int .i64 0]), 8, 56) := by kernel_rfl

/-- What the method group leaves. -/
def GrpPost (G : Geo) (D : Dyn) (bit : Nat → Nat → Bool) (jobs : List Job) (bg : List Nat) (g : Nat) (e : Ending) (w' : World) : Prop :=
  e = .returned (.tuple #[]) ∧ ∃ D' x y z, D'.jm = D'.jv ∧ D'.sb = D.sb ∧ D'.fb = D.fb ∧ D'.gb = D.gb ∧ Mat w' G D' bit (.grp g x y z :: jobs) bg

theorem grpPost_mk {G : Geo} {D D' : Dyn} {bit : Nat → Nat → Bool} {jobs : List Job} {bg : List Nat} {g : Nat} {e : Ending} {w' : World} {x y z : Int} (he : e = .returned (.tuple #[])) (hM : Mat w' G D' bit (.grp g x y z :: jobs) bg)
    (h1 : D'.jm = D'.jv) (h2 : D'.sb = D.sb) (h3 : D'.fb = D.fb) (h4 : D'.gb = D.gb) : GrpPost G D bit jobs bg g e w' := ⟨he, D', x, y, z, h1, h2, h3, h4, hM⟩
theorem i64s_get (l : List Int) (j : Nat) (h : j < l.length) : (i64s l)[j]? = some (.int .i64 (l[j]?.getD 0)) := by
  simp [i64s, h]

set_option maxRecDepth 100000 in
set_option maxHeartbeats 1600000 in
theorem group_open (h : Mat w G D bit jobs bg) (hj : D.jm = D.jv) (g k : Nat) (hg : g < G.ng) (hk : k ≤ G.ps.length) (hjl : jobs.length ≤ 100000000000) :
    Calls Tryd.prog 39 #[.pointer (some ⟨G.mb, 0, none⟩), .int .i64 g, .int .i64 4, .int .i64 k] w (GrpPost G D bit jobs bg g) := by
  obtain ⟨i0, hi0, hz0, hz1, hz2⟩ := info_parts Tryd.infoJob
  have hsm := h.wf.small
  have hm4 := h.m.cell (j := 4) (v := .slice (some ⟨D.sb, 0, none⟩) G.ng G.ng) rfl
  have hm5 := h.m.cell (j := 5) (v := .slice (some ⟨D.fb, 0, none⟩) G.ng G.ng) rfl
  have hm7 := h.m.cell (j := 7) (v := D.jm) rfl
  rw [hj] at hm7
  have f7 := h.m.frozen 7
  have hx0 := h.sp.cell (i64s_get D.xs (g * 2) (by rw [h.xl]; omega))
  have hx1 := h.sp.cell (i64s_get D.xs (g * 2 + 1) (by rw [h.xl]; omega))
  have hf0 := h.fr.cell (i64s_get D.fs g (by rw [h.fl]; omega))
  have ff := h.fr.frozen g
  have lm := h.m.lt
  have ls := h.sp.lt
  have lf := h.fr.lt
  have hown := h.jo
  have hB := h.Bsize
  have ag : D.jv.ownBlock ≠ some G.mb := by
    rcases Mat.own_ne h.tj (b := G.mb) (by rw [h.tm]; decide) with h1 | h1
    · rw [h1]; simp
    · exact h1
  have asn : D.jv.ownBlock ≠ some D.sb := by
    rcases Mat.own_ne h.tj (b := D.sb) (by rw [h.ts]; decide) with h1 | h1
    · rw [h1]; simp
    · exact h1
  have af : D.jv.ownBlock ≠ some D.fb := by
    rcases Mat.own_ne h.tj (b := D.fb) (by rw [h.tf]; decide) with h1 | h1
    · rw [h1]; simp
    · exact h1
  have nmf : D.fb ≠ G.mb := ne_of_tag h.tf h.tm (by decide)
  generalize D.xs[g * 2]?.getD 0 = x at *
  generalize D.xs[g * 2 + 1]?.getD 0 = y at *
  generalize D.fs[g]?.getD 0 = z at *
  have hmx : Tryd.prog.follows .mixedOrders = true := by kernel_rfl
  have hi0' : (0 : Int) ≤ (g : Int) := Int.natCast_nonneg _
  have hi1 : (g : Int) < (G.ng : Int) := by omega
  have k7 : ∀ o, (w.alloc o).drew.frozen? ⟨G.mb, 7, none⟩ = false := fun o => (World.frozen?_alloc_past o _ _ lm).trans f7
  have HM := Lib.hid h
  clear h
  go_enter Tryd.func39, Tryd.ntmps39
  go_wp2_with fail
  refine wp_region_app [0, 1, 2, 3] 4 [5, 6, 7, 8, 9, 10, 11, 12, 13, 14, 15, 16, 17, 18, 19, 20] 21 22 [23, 24, 25] hmx (by kernel_rfl) (by intro c a d v w h; cases d <;> exact h) ?_
  simp only [pickL, List.drop_succ_cons, List.drop_zero]
  refine ⟨.pointer (some ⟨G.mb, 0, none⟩), .inl ⟨rfl, fun w => rfl⟩, .pointer (some ⟨G.mb, 0, none⟩), .inl ⟨rfl, fun w => rfl⟩, .pointer (some ⟨G.mb, 0, none⟩), .inl ⟨rfl, fun w => rfl⟩, .pointer (some ⟨G.mb, 7, none⟩), .inl ⟨rfl, fun w => by go_simp⟩,
    _, D.jv, rfl, ⟨rfl, by go_simp, fun o => by go_simp⟩, ?_⟩
  repeat still_step
  refine wpStill_nil ?_
  go_wp2_with (at_builtin; refine wpList_append_lies _ (by rfl) _ _ _ (by rfl) G.B 102 i0 _ 8 56 Tryd.underlying64 hi0 hz0 hz1 hz2 rfl (by omega) D.jv jobs.length (jobsCells jobs) (by rfl) ((hown.alloc _).drew) ⟨w.heap.size, 0, none⟩ 1 1 (jobCells (.grp g x y z)) (by rfl) (by rfl) (World.news_of_block (cs := (jobCells (.grp g x y z)).toArray) (t := 102) (fr := (0, 0)) (heap_alloc_new w _)) (by simp [Value.oneCell', jobCells]) (by omega) (by unfold maxLen; omega) (by omega) (by simp; omega) (w.heap.size + 1) (by simp) ?_; intro gg cap w1 hown1 hgrow hat hlt; obtain ⟨tag, hM1⟩ := ((HM.out.alloc (.cells (jobCells (.grp g x y z)).toArray 102)).drew).push (.grp g x y z) hown1 hgrow (hat.imp id fun e => by simp; omega); have k7 := hM1.m.cell (j := 7) (v := D.jm) rfl; have q7 := hM1.m.frozen 7; have H1 := Lib.hid hM1; clear hM1 HM hm4 hm5 hm7 f7 ff hown hx0 hx1 hf0 hown1 hgrow hat)
  have hM2 := H1.out.setJm (.slice (some ⟨gg, 0, none⟩) (jobs.length + 1) cap)
  have hp := place_mat hM2.drew k hk
  have c5 := hM2.m.cell (j := 5) (v := .slice (some ⟨D.fb, 0, none⟩) G.ng G.ng) rfl
  have cf : World.cell? _ ⟨D.fb, g, none⟩ = some (Value.int .i64 (D.fs[g]?.getD 0)) := hM2.fr.cell (i64s_get D.fs g (by rw [show D.fs.length = G.ng from hM2.fl]; omega))
  have ff : World.frozen? _ ⟨D.fb, g, none⟩ = false := hM2.fr.frozen g
  have H2 := Lib.hid hM2
  have HP := Lib.hid hp
  clear hM2 hp H1
  generalize w1.setCell ⟨G.mb, 7, none⟩ (.slice (some ⟨gg, 0, none⟩) (jobs.length + 1) cap) = w2 at *
  refine wp_region_still_tail 9 hmx (by kernel_rfl) ?_
  simp only [List.take_succ_cons, List.take_zero, List.drop_succ_cons, List.drop_zero]
  repeat still_step
  still_call (HP.out.mono fun e w' h => ⟨h.1, h.2.symm⟩)
  repeat still_step
  refine wpStill_nil ?_
  go_wp2
  go_end0
  exact grpPost_mk rfl ((H2.out.setFrom g (plc G k)).drew) rfl rfl rfl rfl

set_option maxRecDepth 100000 in
set_option maxHeartbeats 1600000 in
theorem group_shut (h : Mat w G D bit jobs bg) (hj : D.jm = D.jv) (g k : Nat) (hg : g < G.ng) (hk : k ≤ G.ps.length) (hjl : jobs.length ≤ 100000000000) :
    Calls Tryd.prog 39 #[.pointer (some ⟨G.mb, 0, none⟩), .int .i64 g, .int .i64 5, .int .i64 k] w (GrpPost G D bit jobs bg g) := by
  obtain ⟨i0, hi0, hz0, hz1, hz2⟩ := info_parts Tryd.infoJob
  have hsm := h.wf.small
  have hm4 := h.m.cell (j := 4) (v := .slice (some ⟨D.sb, 0, none⟩) G.ng G.ng) rfl
  have hm5 := h.m.cell (j := 5) (v := .slice (some ⟨D.fb, 0, none⟩) G.ng G.ng) rfl
  have hm7 := h.m.cell (j := 7) (v := D.jm) rfl
  rw [hj] at hm7
  have f7 := h.m.frozen 7
  have hx0 := h.sp.cell (i64s_get D.xs (g * 2) (by rw [h.xl]; omega))
  have hx1 := h.sp.cell (i64s_get D.xs (g * 2 + 1) (by rw [h.xl]; omega))
  have hf0 := h.fr.cell (i64s_get D.fs g (by rw [h.fl]; omega))
  have ff := h.fr.frozen g
  have lm := h.m.lt
  have ls := h.sp.lt
  have lf := h.fr.lt
  have hown := h.jo
  have hB := h.Bsize
  have ag : D.jv.ownBlock ≠ some G.mb := by
    rcases Mat.own_ne h.tj (b := G.mb) (by rw [h.tm]; decide) with h1 | h1
    · rw [h1]; simp
    · exact h1
  have asn : D.jv.ownBlock ≠ some D.sb := by
    rcases Mat.own_ne h.tj (b := D.sb) (by rw [h.ts]; decide) with h1 | h1
    · rw [h1]; simp
    · exact h1
  have af : D.jv.ownBlock ≠ some D.fb := by
    rcases Mat.own_ne h.tj (b := D.fb) (by rw [h.tf]; decide) with h1 | h1
    · rw [h1]; simp
    · exact h1
  have nmf : D.fb ≠ G.mb := ne_of_tag h.tf h.tm (by decide)
  generalize D.xs[g * 2]?.getD 0 = x at *
  generalize D.xs[g * 2 + 1]?.getD 0 = y at *
  generalize D.fs[g]?.getD 0 = z at *
  have hmx : Tryd.prog.follows .mixedOrders = true := by kernel_rfl
  have hi0' : (0 : Int) ≤ (g : Int) := Int.natCast_nonneg _
  have hi1 : (g : Int) < (G.ng : Int) := by omega
  have k7 : ∀ o, (w.alloc o).drew.frozen? ⟨G.mb, 7, none⟩ = false := fun o => (World.frozen?_alloc_past o _ _ lm).trans f7
  have HM := Lib.hid h
  clear h
  go_enter Tryd.func39, Tryd.ntmps39
  go_wp2_with fail
  refine wp_region_app [0, 1, 2, 3] 4 [5, 6, 7, 8, 9, 10, 11, 12, 13, 14, 15, 16, 17, 18, 19, 20] 21 22 [23, 24, 25] hmx (by kernel_rfl) (by intro c a d v w h; cases d <;> exact h) ?_
  simp only [pickL, List.drop_succ_cons, List.drop_zero]
  refine ⟨.pointer (some ⟨G.mb, 0, none⟩), .inl ⟨rfl, fun w => rfl⟩, .pointer (some ⟨G.mb, 0, none⟩), .inl ⟨rfl, fun w => rfl⟩, .pointer (some ⟨G.mb, 0, none⟩), .inl ⟨rfl, fun w => rfl⟩, .pointer (some ⟨G.mb, 7, none⟩), .inl ⟨rfl, fun w => by go_simp⟩,
    _, D.jv, rfl, ⟨rfl, by go_simp, fun o => by go_simp⟩, ?_⟩
  repeat still_step
  refine wpStill_nil ?_
  go_wp2_with (at_builtin; refine wpList_append_lies _ (by rfl) _ _ _ (by rfl) G.B 102 i0 _ 8 56 Tryd.underlying64 hi0 hz0 hz1 hz2 rfl (by omega) D.jv jobs.length (jobsCells jobs) (by rfl) ((hown.alloc _).drew) ⟨w.heap.size, 0, none⟩ 1 1 (jobCells (.grp g x y z)) (by rfl) (by rfl) (World.news_of_block (cs := (jobCells (.grp g x y z)).toArray) (t := 102) (fr := (0, 0)) (heap_alloc_new w _)) (by simp [Value.oneCell', jobCells]) (by omega) (by unfold maxLen; omega) (by omega) (by simp; omega) (w.heap.size + 1) (by simp) ?_; intro gg cap w1 hown1 hgrow hat hlt; obtain ⟨tag, hM1⟩ := ((HM.out.alloc (.cells (jobCells (.grp g x y z)).toArray 102)).drew).push (.grp g x y z) hown1 hgrow (hat.imp id fun e => by simp; omega); have k7 := hM1.m.cell (j := 7) (v := D.jm) rfl; have q7 := hM1.m.frozen 7; have H1 := Lib.hid hM1; clear hM1 HM hm4 hm5 hm7 f7 ff hown hx0 hx1 hf0 hown1 hgrow hat)
  have hM2 := H1.out.setJm (.slice (some ⟨gg, 0, none⟩) (jobs.length + 1) cap)
  have hp := place_mat hM2.drew k hk
  have c4 := hM2.m.cell (j := 4) (v := .slice (some ⟨D.sb, 0, none⟩) G.ng G.ng) rfl
  have c5 := hM2.m.cell (j := 5) (v := .slice (some ⟨D.fb, 0, none⟩) G.ng G.ng) rfl
  have cf : World.cell? _ ⟨D.fb, g, none⟩ = some (Value.int .i64 (D.fs[g]?.getD 0)) := hM2.fr.cell (i64s_get D.fs g (by rw [show D.fs.length = G.ng from hM2.fl]; omega))
  have cs0 : World.cell? _ ⟨D.sb, g * 2, none⟩ = some (Value.int .i64 (D.xs[g * 2]?.getD 0)) := hM2.sp.cell (i64s_get D.xs (g * 2) (by rw [show D.xs.length = 2 * G.ng from hM2.xl]; omega))
  have cs1 : World.cell? _ ⟨D.sb, g * 2 + 1, none⟩ = some (Value.int .i64 (D.xs[g * 2 + 1]?.getD 0)) := hM2.sp.cell (i64s_get D.xs (g * 2 + 1) (by rw [show D.xs.length = 2 * G.ng from hM2.xl]; omega))
  have fs0 : World.frozen? _ ⟨D.sb, g * 2, none⟩ = false := hM2.sp.frozen (g * 2)
  have fs1 : World.frozen? _ ⟨D.sb, g * 2 + 1, none⟩ = false := hM2.sp.frozen (g * 2 + 1)
  have H2 := Lib.hid hM2
  have HP := Lib.hid hp
  clear hM2 hp H1
  generalize w1.setCell ⟨G.mb, 7, none⟩ (.slice (some ⟨gg, 0, none⟩) (jobs.length + 1) cap) = w2 at *
  refine wp_region_still_tail 17 hmx (by kernel_rfl) ?_
  simp only [List.take_succ_cons, List.take_zero, List.drop_succ_cons, List.drop_zero]
  repeat still_step
  still_call (HP.out.mono fun e w' h => ⟨h.1, h.2.symm⟩)
  repeat still_step
  refine wpStill_nil ?_
  go_wp2
  go_end0
  exact grpPost_mk rfl (((H2.out.setSpan (g * 2) _).setSpan (g * 2 + 1) _).drew) rfl rfl rfl rfl

end Go.Proofs.YtlanodchnjojoaaDoor
