/- The contract of the method at of a matcher. -/
import Derived.Test.YtlanodchnjojoaaDoorAt6
import Derived.Deep.RegionWith
namespace Go.Proofs.YtlanodchnjojoaaDoor
open Go.RowKit

def AtPost (G : Geo) (X : Cx) (e : Ending) (w' : World) : Prop :=
  (e = .returned (.int .i64 (-1)) ∧ OutD G X w') ∨ ∃ t : Nat, e = .returned (.int .i64 (t : Int)) ∧ Got G X t w'

set_option maxRecDepth 100000 in
theorem at_met {w : World} {G : Geo} {D : Dyn} {bit : Nat → Nat → Bool} (h : Mat0 w G D bit) {k0 k : Nat} (hk : k ≤ G.ps.length) (hclo : Clo G.C G.ps (visOf G.C bit) k0 fun _ => False) :
    Calls Tryd.prog 26 #[.pointer (some ⟨G.mb, 0, none⟩), .int .i64 k, .bool false] w (AtPost G (G.cx k0 k)) := by
  go_enter Tryd.func26, Tryd.ntmps26
  refine wp_of_eq (c := Tryd.f26.body.getD .skip) (by kernel_rfl) ?_
  refine at_body h hk hclo ⟨by simp, fun _ => by simp, fun _ => by simp⟩ (fun _ => by simp) ⟨?_, ?_, ?_⟩
  · intro xs w hf h6 hD
    have h := h6 (by rw [hf.sz]; decide)
    have hs : 6 < xs.size := by rw [hf.sz]; decide
    refine bodyPost_ret (v := .int .i64 (-1)) ((results_tmp (t := 6) rfl _ _ _).trans (by simp [h, hs])) rfl (.inl ⟨rfl, hD⟩)
  · intro c a d v w h
    cases d <;> exact h
  · intro xs w k hf h6 hD
    have h := h6 (by rw [hf.sz]; decide)
    have hs : 6 < xs.size := by rw [hf.sz]; decide
    refine bodyPost_ret (v := .int .i64 (k : Int)) ((results_tmp (t := 6) rfl _ _ _).trans (by simp [h, hs])) rfl (.inr ⟨k, rfl, hD⟩)

/-- Nothing was found: what is known of a matcher then. -/
theorem OutD.more {G : Geo} {k0 k : Nat} {w : World} (h : OutD G (G.cx k0 k) w) : (∃ D bit, Mat0 w G D bit ∧ Clo G.C G.ps (visOf G.C bit) k0 (fun _ => False)) ∧ (k0 ≤ k → ∀ t, ¬ Way G.C G.ps k t) := by
  obtain ⟨D, bit, bg, hM, hj, hO⟩ := h
  obtain ⟨D', hM'⟩ := hM.toMat0 hj
  obtain ⟨h1, h2⟩ := hO.done
  exact ⟨⟨D', bit, hM', h1⟩, fun hk t => Clo.noWay h1 hk h2 t⟩

end Go.Proofs.YtlanodchnjojoaaDoor

namespace Go.Proofs.YtlanodchnjojoaaDoor
open Go.RowKit

/-- A match as a value. -/
def matchV (x y : Nat) (v : Value) : Value := .agg #[.int .i64 (x : Int), .int .i64 (y : Int), v]

theorem Mat.new {w w' : World} {G : Geo} {D : Dyn} {bit : Nat → Nat → Bool} {jobs : List Job} {bg : List Nat} (h : Mat w G D bit jobs bg) (hb : Below w.heap.size w w') : Mat w' G D bit jobs bg :=
  h.keep (hb.mono h.Bsize) fun b hb' => hb.block b hb'

theorem ownsRow_form {w : World} {B : Nat} {e : TypeId} {size n : Nat} {v : Value} {xs : List Value} (h : w.ownsRow B e size v n xs) : ∃ a n c, v = .slice a n c := by
  rcases h.2 with ⟨h1, _⟩ | ⟨g, cap, cur, h1, _⟩
  · exact ⟨_, _, _, h1⟩
  · exact ⟨_, _, _, h1⟩
theorem below_keeps {w w' : World} (h : Below w.heap.size w w') {b : Nat} {t : TypeId} {xs : List Value} (hb : Blk w b t xs) : Blk w' b t xs := hb.keep (h.block b hb.lt)

set_option maxRecDepth 100000 in
set_option maxHeartbeats 4000000 in
theorem match_met {w : World} {G : Geo} {D : Dyn} {bit : Nat → Nat → Bool} {jobs : List Job} {bg : List Nat} (h : Mat w G D bit jobs bg) (k t : Nat) (hk : k ≤ G.ps.length) (ht : t ≤ G.ps.length) :
    Calls Tryd.prog 27 #[.pointer (some ⟨G.mb, 0, none⟩), .int .i64 k, .int .i64 t] w fun e w' => ∃ a n c, e = .returned (matchV (plc G k) (plc G t) (.slice a n c)) ∧ Mat w' G D bit jobs bg := by
  have hm4 : ∀ o, ((w.alloc o).drew).cell? ⟨G.mb, 4, none⟩ = some (.slice (some ⟨D.sb, 0, none⟩) G.ng G.ng) := fun o => (h.alloc o).drew.m.cell rfl
  have HM := Lib.hid h
  have lm := h.m.lt
  have hsm := h.wf.small
  clear h
  go_enter Tryd.func27, Tryd.ntmps27
  go_wp2_with fail
  go_region_with (first
    | (go_at_call 15; refine (place_mat (HM.out.alloc _).drew _ ?_).mono ?_; (first | exact hk | exact ht); rintro e w' ⟨rfl, rfl⟩)
    | (go_at_call 40; refine (clone_span D.sb 0 G.ng G.ng (i64s D.xs) _ (by simp [i64s, HM.out.xl]; omega) (by omega) ?_ ?_).mono ?_; exact (fun j u hj => by rw [Nat.zero_add]; exact (HM.out.alloc _).drew.sp.cell hj); exact (fun u hu => by simp only [i64s, List.mem_map] at hu; obtain ⟨x, _, rfl⟩ := hu; rfl); rintro e w' ⟨v', rfl, ho, hnn, hbl⟩; obtain ⟨va, vn, vc, rfl⟩ := ownsRow_form ho; have hB0 := below_keeps hbl (Blk.new w 35 [.int .i64 0, .int .i64 0, .slice none 0 0]).drew; have q0 := hB0.cell (j := 0) rfl; have q1 := hB0.cell (j := 1) rfl; have q2 := hB0.cell (j := 2) rfl; have r0 := hB0.frozen 0; have r1 := hB0.frozen 1; have r2 := hB0.frozen 2; have HB := Lib.hid (((((Below.refl w.heap.size w).alloc (Nat.le_refl _) (.cells #[.int .i64 0, .int .i64 0, .slice none 0 0] 35)).drew).trans (hbl.mono (by simp)) : Below w.heap.size w w')); clear hB0 ho hnn hbl; go_simp))
  all_goals go_wp2
  all_goals (refine bodyPost_ret_by (v := matchV (plc G k) (plc G t) (.slice va vn vc)) ?_ rfl ⟨va, vn, vc, rfl, HM.out.new (((HB.out.setCell (p := ⟨w.heap.size, 0, none⟩) (Nat.le_refl _) _).setCell (p := ⟨w.heap.size, 1, none⟩) (Nat.le_refl _) _).setCell (p := ⟨w.heap.size, 2, none⟩) (Nat.le_refl _) _)⟩)
  all_goals (unfold matchV; simp only [results, show Tryd.f27.results = #[.cell 6 35] from rfl] <;> go_simp)

end Go.Proofs.YtlanodchnjojoaaDoor
