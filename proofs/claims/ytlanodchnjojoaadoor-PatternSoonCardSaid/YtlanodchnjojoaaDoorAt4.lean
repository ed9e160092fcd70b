/- The outer loop of the method at, the whole of it. -/
import Derived.Test.YtlanodchnjojoaaDoorAt3
namespace Go.Proofs.YtlanodchnjojoaaDoor
open Go.RowKit

/-- Nothing is left to do. -/
def OutD (G : Geo) (X : Cx) (w : World) : Prop := ∃ D bit bg, Mat w G D bit [] bg ∧ D.jm = D.jv ∧ OI X bit [] bg

theorem out_round {G : Geo} {k0 ks n : Nat} (hn : n ≤ 100000000000) {w : World} {xs : Array Value} (hI : OutI G (G.cx k0 ks) n w) (hf : Fr xs G.mb) {Q : Exit → Act → World → Prop}
    (hQ : OuOuts Q G (fun w => ∃ m, m < n ∧ OutI G (G.cx k0 ks) m w) (OutD G (G.cx k0 ks)) (Got G (G.cx k0 ks))) : Code.wp Tryd.prog outBody Q ⟨xs, []⟩ w := by
  obtain ⟨D, bit, jobs, bg, hM, hj, hO, hl, hg⟩ := hI
  cases jobs with
  | nil => exact out_end hM hj hf hQ ⟨D, bit, bg, hM, hj, hO⟩
  | cons j r =>
    have hrl : r.length + 1 + 2 * unv bit G.S (G.ps.length + 1) ≤ n := by unfold left at hl; simp at hl; omega
    have hl' : left G bit r ≤ n - 1 := by unfold left; omega
    cases j with
    | try_ pc k =>
      exact out_try hM hj hf (μ := n - 1) (by omega) hO.pop_try hl' hg.tail ⟨fun xs w hf h => hQ.next xs w hf ⟨n - 1, by omega, h⟩, hQ.done, hQ.pan, hQ.ret⟩ (by omega)
    | loop l v =>
      exact out_loop hM hj hf hO.ok.1 hQ (fun w' D' h1 h2 => ⟨n - 1, by omega, D', bit, r, _, h2, h1, hO.pop_loop, hl', hg.tail⟩) (by omega)
    | grp g x y z =>
      exact out_grp hM hj hf (hg g x y z (by simp)) hQ (fun w' D' h1 h2 => ⟨n - 1, by omega, D', bit, r, _, h2, h1, hO.pop_grp, hl', hg.tail⟩) (by omega)

/-- What the outer loop may come to. -/
structure AtOuts (Q : Exit → Act → World → Prop) (G : Geo) (Dn : World → Prop) (R : Nat → World → Prop) : Prop where
  done : ∀ xs w, Fr xs G.mb → Dn w → Q (.exit 2) ⟨xs, []⟩ w
  pan : ∀ c a (d : Option Tmp) v w, Q (.panic c) (a.put d v) w → Q (.panic c) a w
  ret : ∀ xs w k, Fr xs G.mb → Sl xs 6 (.int .i64 ((k : Nat) : Int)) → R k w → Q .ret ⟨xs, []⟩ w

theorem out_whole {G : Geo} {k0 ks n : Nat} (hn : n ≤ 100000000000) {w : World} {xs : Array Value} (hI : OutI G (G.cx k0 ks) n w) (hf : Fr xs G.mb) {Q : Exit → Act → World → Prop}
    (hQ : AtOuts Q G (OutD G (G.cx k0 ks)) (Got G (G.cx k0 ks))) : Code.wp Tryd.prog (Code.loop outBody) Q ⟨xs, []⟩ w := by
  refine wp_loop_ghost (fun n a w => n ≤ 100000000000 ∧ ∃ xs, a = ⟨xs, []⟩ ∧ Fr xs G.mb ∧ OutI G (G.cx k0 ks) n w) n ⟨hn, xs, rfl, hf, hI⟩ ?_
  rintro n a w ⟨hn, xs, rfl, hf, hI⟩
  refine out_round hn hI hf ⟨?_, ?_, ?_, ?_⟩
  · rintro xs' w' hf' ⟨m, hm, hI'⟩
    exact ⟨m, hm, by omega, xs', rfl, hf', hI'⟩
  · intro xs' w' hf' hE
    exact hQ.done xs' w' hf' hE
  · intro c a d v w h
    exact hQ.pan c a d v w h
  · intro xs' w' k' hf' h6 hR
    exact hQ.ret xs' w' k' hf' h6 hR

end Go.Proofs.YtlanodchnjojoaaDoor
