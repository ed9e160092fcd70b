/- The invariants of the walk of a pattern's code through a text, plain: what a round of the inner loop, and of the outer one, does to them. -/
import Derived.Test.YtlanodchnjojoaaDoorVm
namespace Go.Proofs.YtlanodchnjojoaaDoor

/-- The part that all states share: the code, the pieces, how many groups and loops, where this walk began, from which piece on what is marked counts. -/
structure Cx where
  C : List Step
  ps : List Pc
  ng : Nat
  nl : Nat
  S : Nat
  k0 : Nat
  k : Nat

/-- The start. -/
def Cx.start (X : Cx) : Sg := ⟨0, 0, X.k⟩

/-- Between two jobs. -/
structure OI (X : Cx) (bit : Nat → Nat → Bool) (jobs : List Job) (bg : List Nat) : Prop where
  wf : WF X.C X.ng X.nl X.S
  len : bg.length = X.nl
  bgk : ∀ v ∈ bg, v ≤ X.ps.length
  ok : OkJ X.C X.ps.length X.nl jobs bg
  reach : ∀ y ∈ pend X.C jobs bg, Reach X.C X.ps X.start y
  clo : Clo X.C X.ps (visOf X.C bit) X.k0 fun y => y ∈ pend X.C jobs bg
  st : visOf X.C bit X.start ∨ X.start ∈ pend X.C jobs bg

/-- At a step. -/
structure II (X : Cx) (bit : Nat → Nat → Bool) (jobs : List Job) (bg : List Nat) (pc k : Nat) : Prop where
  wf : WF X.C X.ng X.nl X.S
  len : bg.length = X.nl
  bgk : ∀ v ∈ bg, v ≤ X.ps.length
  ok : OkJ X.C X.ps.length X.nl jobs bg
  pclt : pc < X.C.length
  kle : k ≤ X.ps.length
  nest : Nest (loopsOf X.C pc) bg k
  reach : ∀ y ∈ pend X.C jobs bg, Reach X.C X.ps X.start y
  here : Reach X.C X.ps X.start (stOf X.C bg pc k)
  clo : Clo X.C X.ps (visOf X.C bit) X.k0 fun y => y = stOf X.C bg pc k ∨ y ∈ pend X.C jobs bg
  st : visOf X.C bit X.start ∨ X.start = stOf X.C bg pc k ∨ X.start ∈ pend X.C jobs bg

variable {X : Cx} {bit : Nat → Nat → Bool} {jobs : List Job} {bg : List Nat} {pc k : Nat}

theorem Clo.imp {C : List Step} {ps : List Pc} {vis : Sg → Prop} {k0 : Nat} {p q : Sg → Prop} (h : Clo C ps vis k0 p) (hpq : ∀ y, p y → vis y ∨ q y) : Clo C ps vis k0 q :=
  fun x hx hk => ⟨(h x hx hk).1, fun y hy => ((h x hx hk).2 y hy).elim .inl (hpq y)⟩

/-- The start of a walk. -/
theorem OI.begin {C : List Step} {ps : List Pc} {ng nl S k0 k : Nat} (wf : WF C ng nl S) (hk : k ≤ ps.length) (hclo : Clo C ps (visOf C bit) k0 fun _ => False) :
    OI ⟨C, ps, ng, nl, S, k0, k⟩ bit [.try_ 0 k] (List.replicate nl 0) := by
  have e : stOf C (List.replicate nl 0) 0 k = ⟨0, 0, k⟩ := by rw [stOf_eq, wf.l0]; rfl
  refine ⟨wf, by simp, fun v hv => ?_, ⟨wf.pos, hk, ?_, trivial⟩, fun y hy => ?_, fun x hx hkx => ?_, .inr ?_⟩
  · have := (List.mem_replicate.1 hv).2; omega
  · rw [wf.l0]; exact ⟨by simp, fun l hl => by simp at hl⟩
  · simp only [pend, e, List.mem_singleton] at hy; subst hy; exact .refl _
  · exact ⟨(hclo x hx hkx).1, fun y hy => ((hclo x hx hkx).2 y hy).elim .inl False.elim⟩
  · simp [pend, e, Cx.start]

theorem OI.pop_try (h : OI X bit (.try_ pc k :: jobs) bg) : II X bit jobs bg pc k where
  wf := h.wf
  len := h.len
  bgk := h.bgk
  ok := h.ok.2.2.2
  pclt := h.ok.1
  kle := h.ok.2.1
  nest := h.ok.2.2.1
  reach := fun y hy => h.reach y (by simp [pend, hy])
  here := h.reach _ (by simp [pend])
  clo := h.clo.imp fun y hy => .inr (by simpa [pend] using hy)
  st := h.st.imp id fun hy => by simpa [pend] using hy

theorem OI.pop_loop {l v : Nat} (h : OI X bit (.loop l v :: jobs) bg) : OI X bit jobs (bg.set l v) where
  wf := h.wf
  len := by simp [h.len]
  bgk := fun x hx => by
    rcases List.mem_or_eq_of_mem_set hx with hx | rfl
    · exact h.bgk x hx
    · exact h.ok.2.1
  ok := h.ok.2.2
  reach := h.reach
  clo := h.clo
  st := h.st

theorem OI.pop_grp {g : Nat} {x y z : Int} (h : OI X bit (.grp g x y z :: jobs) bg) : OI X bit jobs bg := ⟨h.wf, h.len, h.bgk, h.ok, h.reach, h.clo, h.st⟩

/-- The step was tried here. -/
theorem II.tried (h : II X bit jobs bg pc k) (hv : bit (idx X.C (stOf X.C bg pc k)) k = true) : OI X bit jobs bg where
  wf := h.wf
  len := h.len
  bgk := h.bgk
  ok := h.ok
  reach := h.reach
  clo := h.clo.imp fun y hy => by
    rcases hy with rfl | hy
    · exact .inl ⟨h.pclt, stOf_c_le _ _ _ _, hv⟩
    · exact .inr hy
  st := by
    rcases h.st with hs | hs | hs
    · exact .inl hs
    · rw [hs]; exact .inl ⟨h.pclt, stOf_c_le _ _ _ _, hv⟩
    · exact .inr hs

/-- The marks, with this one. -/
def markAt (X : Cx) (bit : Nat → Nat → Bool) (bg : List Nat) (pc k : Nat) : Nat → Nat → Bool := mark bit (idx X.C (stOf X.C bg pc k)) k

theorem II.vis (h : II X bit jobs bg pc k) (y : Sg) : visOf X.C (markAt X bit bg pc k) y ↔ visOf X.C bit y ∨ y = stOf X.C bg pc k :=
  vis_mark (x := stOf X.C bg pc k) h.wf h.pclt (stOf_c_le _ _ _ _) y

theorem II.clo' (h : II X bit jobs bg pc k) (hno : ¬ isOver X.C pc) {p : Sg → Prop} (hs : ∀ y ∈ succ X.C X.ps (stOf X.C bg pc k), p y) (hp : ∀ y ∈ pend X.C jobs bg, p y) :
    Clo X.C X.ps (visOf X.C (markAt X bit bg pc k)) X.k0 p := by
  intro x hx hk
  rcases (h.vis x).1 hx with hx | rfl
  · refine ⟨(h.clo x hx hk).1, fun y hy => ?_⟩
    rcases (h.clo x hx hk).2 y hy with h1 | rfl | h1
    · exact .inl ((h.vis y).2 (.inl h1))
    · exact .inl ((h.vis _).2 (.inr rfl))
    · exact .inr (hp y h1)
  · exact ⟨hno, fun y hy => .inr (hs y hy)⟩
theorem II.st' (h : II X bit jobs bg pc k) {p : Prop} (hp : X.start ∈ pend X.C jobs bg → p) : visOf X.C (markAt X bit bg pc k) X.start ∨ p := by
  rcases h.st with hs | hs | hs
  · exact .inl ((h.vis _).2 (.inl hs))
  · exact .inl ((h.vis _).2 (.inr hs))
  · exact .inr (hp hs)

/-- Nothing goes on from here. -/
theorem II.dead (h : II X bit jobs bg pc k) (hno : ¬ isOver X.C pc) (hs : succ X.C X.ps (stOf X.C bg pc k) = []) : OI X (markAt X bit bg pc k) jobs bg where
  wf := h.wf
  len := h.len
  bgk := h.bgk
  ok := h.ok
  reach := h.reach
  clo := h.clo' hno (fun y hy => by rw [hs] at hy; simp at hy) fun _ hy => hy
  st := h.st' id

/-- One step goes on from here, with what is pending as it was. -/
theorem II.go {jobs' : List Job} {bg' : List Nat} {pc' k' : Nat} (h : II X bit jobs bg pc k) (hno : ¬ isOver X.C pc) (hs : succ X.C X.ps (stOf X.C bg pc k) = [stOf X.C bg' pc' k'])
    (hpc : pc' < X.C.length) (hk : k' ≤ X.ps.length) (hn : Nest (loopsOf X.C pc') bg' k') (hlen : bg'.length = X.nl) (hbg : ∀ v ∈ bg', v ≤ X.ps.length)
    (hp : pend X.C jobs' bg' = pend X.C jobs bg) (hok : OkJ X.C X.ps.length X.nl jobs' bg') : II X (markAt X bit bg pc k) jobs' bg' pc' k' where
  wf := h.wf
  len := hlen
  bgk := hbg
  ok := hok
  pclt := hpc
  kle := hk
  nest := hn
  reach := by rw [hp]; exact h.reach
  here := h.here.tail (by rw [hs]; simp)
  clo := h.clo' hno (fun y hy => by rw [hs] at hy; simpa using .inl (List.mem_singleton.1 hy)) fun _ hy => by rw [hp]; exact .inr hy
  st := h.st' fun hy => by rw [hp]; exact .inr hy

/-- Two steps go on from here: the one now, the other pending. -/
theorem II.split {a b : Nat} (h : II X bit jobs bg pc k) (hno : ¬ isOver X.C pc) (hs : succ X.C X.ps (stOf X.C bg pc k) = [stOf X.C bg a k, stOf X.C bg b k])
    (ha : a < X.C.length) (hb : b < X.C.length) (hna : Nest (loopsOf X.C a) bg k) (hnb : Nest (loopsOf X.C b) bg k) : II X (markAt X bit bg pc k) (.try_ b k :: jobs) bg a k where
  wf := h.wf
  len := h.len
  bgk := h.bgk
  ok := ⟨hb, h.kle, hnb, h.ok⟩
  pclt := ha
  kle := h.kle
  nest := hna
  reach := fun y hy => by
    simp only [pend, List.mem_cons] at hy
    rcases hy with rfl | hy
    · exact h.here.tail (by rw [hs]; simp)
    · exact h.reach y hy
  here := h.here.tail (by rw [hs]; simp)
  clo := h.clo' hno (fun y hy => by rw [hs] at hy; simp at hy; simp only [pend, List.mem_cons]; rcases hy with hy | hy <;> simp [hy]) fun _ hy => by simp only [pend, List.mem_cons]; exact .inr (.inr hy)
  st := h.st' fun hy => by simp only [pend, List.mem_cons]; exact .inr (.inr hy)

/-- What each kind of step does. -/
theorem notOver {st : Step} {C : List Step} (h : C[pc]? = some st) (h8 : st.dO ≠ 8) : ¬ isOver C pc := by
  rintro ⟨st', h1, h2⟩; rw [h] at h1; cases h1; exact h8 h2

section steps
variable {st : Step} (h : II X bit jobs bg pc k) (hst : X.C[pc]? = some st)
include h hst
theorem II.take {p : Pc} (h0 : st.dO = 0) (hp : X.ps[k]? = some p) (ha : acc st p = true) : II X (markAt X bit bg pc k) jobs bg (pc + 1) (k + 1) := by
  have hl : pc + 1 < X.C.length ∧ loopsOf X.C (pc + 1) = st.loops := by
    rcases h.wf.act _ _ hst with h1 | h1 | h1 | h1 | h1 | h1 | h1 <;> first | exact ⟨h1.2.2.1, h1.2.2.2⟩ | (exfalso; omega)
  obtain ⟨h1, h2⟩ := succ_take (bg := bg) hst h0 hp ha hl.2 h.nest
  have hk : k < X.ps.length := (List.getElem?_eq_some_iff.1 hp).1
  exact h.go (notOver hst (by omega)) h1 hl.1 (by omega) h2 h.len h.bgk rfl h.ok
theorem II.take_no (h0 : st.dO = 0) (hp : ∀ p, X.ps[k]? = some p → acc st p = false) : OI X (markAt X bit bg pc k) jobs bg :=
  h.dead (notOver hst (by omega)) (succ_take_no hst h0 hp)
theorem II.splits (h0 : st.dO = 2) : II X (markAt X bit bg pc k) (.try_ st.b k :: jobs) bg st.a k := by
  have hl : st.a < X.C.length ∧ st.b < X.C.length ∧ loopsOf X.C st.a = st.loops ∧ loopsOf X.C st.b = st.loops := by
    rcases h.wf.act _ _ hst with h1 | h1 | h1 | h1 | h1 | h1 | h1 <;> first | exact h1.2 | (exfalso; omega)
  exact h.split (notOver hst (by omega)) (succ_split hst h0 hl.2.2.1 hl.2.2.2) hl.1 hl.2.1 (nest_same hst hl.2.2.1 h.nest) (nest_same hst hl.2.2.2 h.nest)
theorem II.jump (h0 : st.dO = 3) : II X (markAt X bit bg pc k) jobs bg st.a k := by
  have hl : st.a < X.C.length ∧ loopsOf X.C st.a = st.loops := by
    rcases h.wf.act _ _ hst with h1 | h1 | h1 | h1 | h1 | h1 | h1 <;> first | exact h1.2 | (exfalso; omega)
  exact h.go (notOver hst (by omega)) (succ_jump hst h0 hl.2) hl.1 h.kle (nest_same hst hl.2 h.nest) h.len h.bgk rfl h.ok
theorem II.groups (h0 : st.dO = 4 ∨ st.dO = 5) {g : Nat} {x y z : Int} : II X (markAt X bit bg pc k) (.grp g x y z :: jobs) bg (pc + 1) k := by
  have hl : pc + 1 < X.C.length ∧ loopsOf X.C (pc + 1) = st.loops := by
    rcases h.wf.act _ _ hst with h1 | h1 | h1 | h1 | h1 | h1 | h1 <;> first | exact ⟨h1.2.1, h1.2.2.1⟩ | (exfalso; omega)
  exact h.go (notOver hst (by omega)) (succ_group hst h0 hl.2) hl.1 h.kle (nest_same hst hl.2 h.nest) h.len h.bgk rfl h.ok
theorem II.enters (h0 : st.dO = 6) : II X (markAt X bit bg pc k) (.loop st.grp (bg[st.grp]?.getD 0) :: jobs) (bg.set st.grp k) (pc + 1) k := by
  have hl : pc + 1 < X.C.length ∧ st.grp < X.nl ∧ loopsOf X.C (pc + 1) = st.loops ++ [st.grp] := by
    rcases h.wf.act _ _ hst with h1 | h1 | h1 | h1 | h1 | h1 | h1 <;> first | exact h1.2 | (exfalso; omega)
  have hg : st.grp < bg.length := by rw [h.len]; exact hl.2.1
  obtain ⟨h1, h2⟩ := succ_enter (ps := X.ps) h.wf hst h0 hl.1 hg hl.2.2 h.nest
  have hback : (bg.set st.grp k).set st.grp (bg[st.grp]?.getD 0) = bg := by
    rw [List.set_set, List.getElem?_eq_getElem hg]; simp
  refine h.go (notOver hst (by omega)) h1 hl.1 h.kle h2 (by simp [h.len]) (fun v hv => ?_) ?_ ⟨hl.2.1, ?_, ?_⟩
  · rcases List.mem_or_eq_of_mem_set hv with hv | rfl
    · exact h.bgk v hv
    · exact h.kle
  · simp only [pend]; rw [hback]
  · rw [List.getElem?_eq_getElem hg]; exact h.bgk _ (by simp)
  · rw [hback]; exact h.ok
theorem II.agains (h0 : st.dO = 7) (hb : bg[st.grp]?.getD 0 ≠ k) : II X (markAt X bit bg pc k) jobs bg st.a k := by
  have hl : st.a < X.C.length ∧ st.loops = loopsOf X.C st.a ++ [st.grp] := by
    rcases h.wf.act _ _ hst with h1 | h1 | h1 | h1 | h1 | h1 | h1 <;> first | exact ⟨h1.2.1, h1.2.2.2⟩ | (exfalso; omega)
  obtain ⟨h1, h2⟩ := succ_again (ps := X.ps) hst h0 hl.2 h.nest hb
  exact h.go (notOver hst (by omega)) h1 hl.1 h.kle h2 h.len h.bgk rfl h.ok
theorem II.agains_no (h0 : st.dO = 7) (hb : bg[st.grp]?.getD 0 = k) : OI X (markAt X bit bg pc k) jobs bg := by
  have hl : st.loops = loopsOf X.C st.a ++ [st.grp] := by
    rcases h.wf.act _ _ hst with h1 | h1 | h1 | h1 | h1 | h1 | h1 <;> first | exact h1.2.2.2 | (exfalso; omega)
  exact h.dead (notOver hst (by omega)) (succ_again_no hst h0 hl hb)
theorem II.over (h0 : st.dO = 8) : Way X.C X.ps X.k k := ⟨_, _, h.here, st, hst, h0⟩
end steps

/-- When nothing is pending any more. -/
theorem OI.done (h : OI X bit [] bg) : Clo X.C X.ps (visOf X.C bit) X.k0 (fun _ => False) ∧ visOf X.C bit X.start :=
  ⟨h.clo.imp fun y hy => by simp [pend] at hy, h.st.elim id fun hy => by simp [pend] at hy⟩

end Go.Proofs.YtlanodchnjojoaaDoor
