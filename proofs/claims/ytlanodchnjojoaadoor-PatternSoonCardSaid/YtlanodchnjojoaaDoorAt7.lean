/- The contract of the method at of a matcher. -/
import Derived.Test.YtlanodchnjojoaaDoorAt6
namespace Go.Proofs.YtlanodchnjojoaaDoor
open Go.RowKit

def AtPost (G : Geo) (X : Cx) (e : Ending) (w' : World) : Prop :=
  (e = .returned (.int .i64 (-1)) ∧ OutD G X w') ∨ ∃ t : Nat, e = .returned (.int .i64 (t : Int)) ∧ Got G X t w'

set_option maxRecDepth 100000 in
theorem at_met {w : World} {G : Geo} {D : Dyn} {bit : Nat → Nat → Bool} (h : Mat0 w G D bit) {k0 k : Nat} (hk : k ≤ G.ps.length) (hclo : Clo G.C G.ps (visOf G.C bit) k0 fun _ => False) :
    Calls Tryd.prog 26 #[.pointer (some ⟨G.mb, 0, none⟩), .int .i64 k, .bool false] w (AtPost G (G.cx k0 k)) := by
  go_enter Tryd.func26, Tryd.ntmps26
  refine wp_of_eq (c := Tryd.f26.body.getD .skip) (by kernel_rfl) ?_
  refine at_body h hk hclo ⟨by simp, fun _ => by simp, fun _ => by simp⟩ (fun _ => by simp) ⟨?_, ?_, ?_⟩
  · intro xs w hf h6 hD
    have h := h6 (by rw [hf.sz]; decide)
    have hs : 6 < xs.size := by rw [hf.sz]; decide
    refine bodyPost_ret (v := .int .i64 (-1)) ((results_tmp (t := 6) rfl _ _ _).trans (by simp [h, hs])) rfl (.inl ⟨rfl, hD⟩)
  · intro c a d v w h
    cases d <;> exact h
  · intro xs w k hf h6 hD
    have h := h6 (by rw [hf.sz]; decide)
    have hs : 6 < xs.size := by rw [hf.sz]; decide
    refine bodyPost_ret (v := .int .i64 (k : Int)) ((results_tmp (t := 6) rfl _ _ _).trans (by simp [h, hs])) rfl (.inr ⟨k, rfl, hD⟩)

/-- Nothing was found: what is known of a matcher then. -/
theorem OutD.more {G : Geo} {k0 k : Nat} {w : World} (h : OutD G (G.cx k0 k) w) : (∃ D bit, Mat0 w G D bit ∧ Clo G.C G.ps (visOf G.C bit) k0 (fun _ => False)) ∧ (k0 ≤ k → ∀ t, ¬ Way G.C G.ps k t) := by
  obtain ⟨D, bit, bg, hM, hj, hO⟩ := h
  obtain ⟨D', hM'⟩ := hM.toMat0 hj
  obtain ⟨h1, h2⟩ := hO.done
  exact ⟨⟨D', bit, hM', h1⟩, fun hk t => Clo.noWay h1 hk h2 t⟩

end Go.Proofs.YtlanodchnjojoaaDoor
