/- The inner loop of the method at: its rounds, and the whole of it. -/
import Derived.Test.YtlanodchnjojoaaDoorAt1
import Derived.Deep.LoopGhost
namespace Go.Proofs.YtlanodchnjojoaaDoor
open Go.RowKit

def Geo.cx (G : Geo) (k0 k : Nat) : Cx := ⟨G.C, G.ps, G.ng, G.nl, G.S, k0, k⟩

/-- How much is left to do. -/
def left (G : Geo) (bit : Nat → Nat → Bool) (jobs : List Job) : Nat := 2 * unv bit G.S (G.ps.length + 1) + jobs.length

/-- The groups that are to be set back are groups. -/
def JG (ng : Nat) (js : List Job) : Prop := ∀ g x y z, Job.grp g x y z ∈ js → g < ng
theorem JG.try_ {ng : Nat} {js : List Job} (h : JG ng js) (pc k : Nat) : JG ng (.try_ pc k :: js) := fun g x y z hm => by
  rcases List.mem_cons.1 hm with hm | hm
  · cases hm
  · exact h g x y z hm
theorem JG.loop {ng : Nat} {js : List Job} (h : JG ng js) (l v : Nat) : JG ng (.loop l v :: js) := fun g x y z hm => by
  rcases List.mem_cons.1 hm with hm | hm
  · cases hm
  · exact h g x y z hm
theorem JG.grp {ng : Nat} {js : List Job} (h : JG ng js) {g : Nat} (hg : g < ng) (x y z : Int) : JG ng (.grp g x y z :: js) := fun g' x' y' z' hm => by
  rcases List.mem_cons.1 hm with hm | hm
  · cases hm; exact hg
  · exact h g' x' y' z' hm
theorem JG.tail {ng : Nat} {j : Job} {js : List Job} (h : JG ng (j :: js)) : JG ng js := fun g x y z hm => h g x y z (List.mem_cons_of_mem _ hm)

/-- Between two jobs, in memory. -/
def OutI (G : Geo) (X : Cx) (μ : Nat) (w : World) : Prop := ∃ D bit jobs bg, Mat w G D bit jobs bg ∧ D.jm = D.jv ∧ OI X bit jobs bg ∧ left G bit jobs ≤ μ ∧ JG G.ng jobs
/-- At a step, in memory. -/
def InI (G : Geo) (X : Cx) (μ n : Nat) (pc k : Nat) (w : World) : Prop := ∃ D bit jobs bg, Mat w G D bit jobs bg ∧ D.jm = D.jv ∧ II X bit jobs bg pc k ∧ unv bit G.S (G.ps.length + 1) = n ∧ left G bit jobs ≤ μ ∧ JG G.ng jobs
def InN (G : Geo) (X : Cx) (μ n : Nat) (pc k : Nat) (w : World) : Prop := ∃ n', n' < n ∧ InI G X μ n' pc k w
/-- An end is found. -/
def Got (G : Geo) (X : Cx) (k : Nat) (w : World) : Prop := (∃ D bit jobs bg, Mat w G D bit jobs bg ∧ D.jm = D.jv) ∧ Way X.C X.ps X.k k ∧ k ≤ X.ps.length

theorem in_round {G : Geo} {k0 ks μ n : Nat} (hμ : μ ≤ 100000000000) {w : World} {xs : Array Value} {pc k : Nat} (hI : InI G (G.cx k0 ks) μ n pc k w) (hf : Fr xs G.mb) (h9 : Sl xs 9 (.int .i64 (pc : Int))) (h10 : Sl xs 10 (.int .i64 (k : Int)))
    {Q : Exit → Act → World → Prop} (hQ : Outs Q G (InN G (G.cx k0 ks) μ n) (OutI G (G.cx k0 ks) μ) (Got G (G.cx k0 ks))) :
    Code.wp Tryd.prog inBody Q ⟨xs, []⟩ w := by
  obtain ⟨D, bit, jobs, bg, hM, hj, hII, hn, hl, hg⟩ := hI
  have hpc : pc < G.C.length := hII.pclt
  have hk : k ≤ G.ps.length := hII.kle
  have hst : G.C[pc]? = some G.C[pc] := List.getElem?_eq_getElem hpc
  generalize G.C[pc] = st at hst
  have hst' : (G.cx k0 ks).C[pc]? = some st := hst
  have hjl : jobs.length ≤ 100000000000 := by unfold left at hl; omega
  have hix : idx G.C (stOf G.C bg pc k) < G.S := idx_lt hM.wf hpc (stOf_c_le _ _ _ _)
  have hE : bit (idx G.C (stOf G.C bg pc k)) k = true → OutI G (G.cx k0 ks) μ w := fun hb => ⟨D, bit, jobs, bg, hM, hj, hII.tried hb, hl, hg⟩
  have hun : bit (idx G.C (stOf G.C bg pc k)) k = false → unv (mark bit (idx G.C (stOf G.C bg pc k)) k) G.S (G.ps.length + 1) < n := fun hb => by rw [← hn]; exact unv_mark hix (by omega) hb
  have hle0 : ∀ js : List Job, js.length ≤ jobs.length + 1 → bit (idx G.C (stOf G.C bg pc k)) k = false → left G (mark bit (idx G.C (stOf G.C bg pc k)) k) js ≤ μ := fun js hjs hb => by
    have := hun hb; unfold left at hl ⊢; omega
  rcases hM.wf.act pc st hst with h1 | h1 | h1 | h1 | h1 | h1 | h1
  · -- takes a piece
    by_cases e : k = G.ps.length
    · exact in_take_end hM hf h9 h10 hst hk h1.1 e hQ hE fun w' D' hb d1 d2 hM' => ⟨D', _, jobs, bg, hM', by rw [d1, d2, hj], hII.take_no hst' h1.1 (fun p hp => by
        have := (List.getElem?_eq_some_iff.1 (show G.ps[k]? = some p from hp)).1; omega), hle0 _ (by omega) hb, hg⟩
    · have hlt : k < G.ps.length := by omega
      have hp := List.getElem?_eq_getElem hlt
      generalize G.ps[k] = p at hp
      cases ha : acc st p
      · exact in_take_no hM hf h9 h10 hst hk h1.1 hp ha hQ hE fun w' D' hb d1 d2 hM' => ⟨D', _, jobs, bg, hM', by rw [d1, d2, hj], hII.take_no hst' h1.1 (fun p' hp' => by
          have : some p' = some p := (show G.ps[k]? = some p' from hp').symm.trans hp
          cases this; exact ha), hle0 _ (by omega) hb, hg⟩
      · exact in_take hM hf h9 h10 hst hk h1.1 hp ha hQ hE fun w' D' hb d1 d2 hM' => ⟨_, hun hb, D', _, jobs, bg, hM', by rw [d1, d2, hj], hII.take hst' h1.1 hp ha, rfl, hle0 _ (by omega) hb, hg⟩
  · exact in_split hM hf h9 h10 hst hk h1.1 hj hjl hQ hE fun w' D' hb d1 hM' => ⟨_, hun hb, D', _, _, bg, hM', d1, hII.splits hst' h1.1, rfl, hle0 _ (by simp) hb, hg.try_ _ _⟩
  · exact in_jump hM hf h9 h10 hst hk h1.1 hQ hE fun w' D' hb d1 d2 hM' => ⟨_, hun hb, D', _, jobs, bg, hM', by rw [d1, d2, hj], hII.jump hst' h1.1, rfl, hle0 _ (by omega) hb, hg⟩
  · rcases h1.1 with h2 | h2
    · exact in_open hM hf h9 h10 hst hk h2 hj hjl hQ hE fun w' D' g x y z hb hgl d1 hM' => ⟨_, hun hb, D', _, _, bg, hM', d1, hII.groups hst' h1.1, rfl, hle0 _ (by simp) hb, hg.grp hgl x y z⟩
    · exact in_shut hM hf h9 h10 hst hk h2 hj hjl hQ hE fun w' D' g x y z hb hgl d1 hM' => ⟨_, hun hb, D', _, _, bg, hM', d1, hII.groups hst' h1.1, rfl, hle0 _ (by simp) hb, hg.grp hgl x y z⟩
  · exact in_enter hM hf h9 h10 hst hk h1.1 hj hjl hQ hE fun w' D' hb d1 hM' => ⟨_, hun hb, D', _, _, _, hM', d1, hII.enters hst' h1.1, rfl, hle0 _ (by simp) hb, hg.loop _ _⟩
  · by_cases e : bg[st.grp]?.getD 0 = k
    · exact in_again_no hM hf h9 h10 hst hk h1.1 e hQ hE fun w' D' hb d1 d2 hM' => ⟨D', _, jobs, bg, hM', by rw [d1, d2, hj], hII.agains_no hst' h1.1 e, hle0 _ (by omega) hb, hg⟩
    · exact in_again hM hf h9 h10 hst hk h1.1 e hQ hE fun w' D' hb d1 d2 hM' => ⟨_, hun hb, D', _, jobs, bg, hM', by rw [d1, d2, hj], hII.agains hst' h1.1 e, rfl, hle0 _ (by omega) hb, hg⟩
  · exact in_over hM hf h9 h10 hst hk h1 hQ hE fun w' D' hb d1 d2 hM' => ⟨⟨D', _, jobs, bg, hM', by rw [d1, d2, hj]⟩, hII.over hst' h1, hk⟩

/-- What the inner loop may come to. -/
structure InOuts (Q : Exit → Act → World → Prop) (G : Geo) (E : World → Prop) (R : Nat → World → Prop) : Prop where
  leave : ∀ xs w, Fr xs G.mb → E w → Q (.exit 3) ⟨xs, []⟩ w
  pan : ∀ c a (d : Option Tmp) v w, Q (.panic c) (a.put d v) w → Q (.panic c) a w
  ret : ∀ xs w k, Fr xs G.mb → Sl xs 6 (.int .i64 ((k : Nat) : Int)) → R k w → Q .ret ⟨xs, []⟩ w

theorem in_loop {G : Geo} {k0 ks μ : Nat} (hμ : μ ≤ 100000000000) {w : World} {xs : Array Value} {pc k n : Nat} (hI : InI G (G.cx k0 ks) μ n pc k w) (hf : Fr xs G.mb) (h9 : Sl xs 9 (.int .i64 (pc : Int))) (h10 : Sl xs 10 (.int .i64 (k : Int)))
    {Q : Exit → Act → World → Prop} (hQ : InOuts Q G (OutI G (G.cx k0 ks) μ) (Got G (G.cx k0 ks))) :
    Code.wp Tryd.prog (Code.loop inBody) Q ⟨xs, []⟩ w := by
  refine wp_loop_ghost (fun n a w => ∃ xs pc k, a = ⟨xs, []⟩ ∧ Fr xs G.mb ∧ Sl xs 9 (.int .i64 ((pc : Nat) : Int)) ∧ Sl xs 10 (.int .i64 ((k : Nat) : Int)) ∧ InI G (G.cx k0 ks) μ n pc k w) n ⟨xs, pc, k, rfl, hf, h9, h10, hI⟩ ?_
  rintro n a w ⟨xs, pc, k, rfl, hf, h9, h10, hI⟩
  refine in_round hμ hI hf h9 h10 ⟨?_, ?_, ?_, ?_⟩
  · rintro xs' w' pc' k' hf' h9' h10' ⟨n', hlt, hI'⟩
    exact ⟨n', hlt, xs', pc', k', rfl, hf', h9', h10', hI'⟩
  · intro xs' w' hf' hE
    exact hQ.leave xs' w' hf' hE
  · intro c a d v w h
    exact hQ.pan c a d v w h
  · intro xs' w' k' hf' h6 hR
    exact hQ.ret xs' w' k' hf' h6 hR

end Go.Proofs.YtlanodchnjojoaaDoor
