/- Plain facts on the steps of a pattern's code: what can be reached, and what a depth-first walk that marks what it has tried leaves out. -/
import Derived.Test.YtlanodchnjojoaaDoorMet
namespace Go.Proofs.YtlanodchnjojoaaDoor

structure Step where
  dO : Nat
  what : Nat
  r : Int
  grp : Nat
  a : Nat
  b : Nat
  loops : List Nat
  base : Nat
  deriving DecidableEq, Repr

structure Pc where
  at_ : Nat
  width : Nat
  rune : Int
  broken : Bool
  deriving DecidableEq, Repr

/-- Does a step that takes a piece take this one? -/
def acc (st : Step) (p : Pc) : Bool := if st.what = 0 then !p.broken && p.rune == st.r else true

/-- A state: the step, how many of the loops around it went on, the piece. -/
structure Sg where
  pc : Nat
  c : Nat
  k : Nat
  deriving DecidableEq, Repr

/-- Where a state goes on. -/
def succ (C : List Step) (ps : List Pc) (x : Sg) : List Sg :=
  match C[x.pc]? with
  | none => []
  | some st =>
    match st.dO with
    | 0 => match ps[x.k]? with
      | some p => if acc st p then [⟨x.pc + 1, st.loops.length, x.k + 1⟩] else []
      | none => []
    | 2 => [⟨st.a, x.c, x.k⟩, ⟨st.b, x.c, x.k⟩]
    | 3 => [⟨st.a, x.c, x.k⟩]
    | 6 => [⟨x.pc + 1, x.c, x.k⟩]
    | 7 => if x.c = st.loops.length then [⟨st.a, st.loops.length - 1, x.k⟩] else []
    | 4 => [⟨x.pc + 1, x.c, x.k⟩]
    | 5 => [⟨x.pc + 1, x.c, x.k⟩]
    | _ => []

def isOver (C : List Step) (pc : Nat) : Prop := ∃ st, C[pc]? = some st ∧ st.dO = 8

inductive Reach (C : List Step) (ps : List Pc) : Sg → Sg → Prop
  | refl (x : Sg) : Reach C ps x x
  | tail {x y z : Sg} : Reach C ps x y → z ∈ succ C ps y → Reach C ps x z

theorem Reach.trans {C : List Step} {ps : List Pc} {x y z : Sg} (h : Reach C ps x y) (g : Reach C ps y z) : Reach C ps x z := by
  induction g with
  | refl => exact h
  | tail _ h2 ih => exact .tail ih h2
theorem Reach.one {C : List Step} {ps : List Pc} {x y : Sg} (h : y ∈ succ C ps x) : Reach C ps x y := .tail (.refl x) h

theorem succ_k {C : List Step} {ps : List Pc} {x y : Sg} (h : y ∈ succ C ps x) : x.k ≤ y.k := by
  unfold succ at h
  split at h
  · simp at h
  · split at h
    · split at h
      · split at h
        · simp at h; subst h; simp
        · simp at h
      · simp at h
    · simp at h; rcases h with h | h <;> (subst h; simp)
    · simp at h; subst h; simp
    · simp at h; subst h; simp
    · split at h
      · simp at h; subst h; simp
      · simp at h
    · simp at h; subst h; simp
    · simp at h; subst h; simp
    · simp at h

/-- There is a way at piece k that ends at piece t. -/
def Way (C : List Step) (ps : List Pc) (k t : Nat) : Prop := ∃ pc c, Reach C ps ⟨0, 0, k⟩ ⟨pc, c, t⟩ ∧ isOver C pc

/-- Everything that is marked from piece k0 on goes on to what is marked, or to what is pending; and it is no end. -/
def Clo (C : List Step) (ps : List Pc) (vis : Sg → Prop) (k0 : Nat) (pend : Sg → Prop) : Prop :=
  ∀ x, vis x → k0 ≤ x.k → ¬ isOver C x.pc ∧ ∀ y ∈ succ C ps x, vis y ∨ pend y

theorem Clo.reach {C : List Step} {ps : List Pc} {vis : Sg → Prop} {k0 : Nat} (h : Clo C ps vis k0 fun _ => False) {x y : Sg} (r : Reach C ps x y) (hx : vis x) (hk : k0 ≤ x.k) : vis y ∧ k0 ≤ y.k := by
  induction r with
  | refl => exact ⟨hx, hk⟩
  | tail _ h2 ih =>
    obtain ⟨h3, h4⟩ := ih
    rcases (h _ h3 h4).2 _ h2 with h5 | h5
    · exact ⟨h5, Nat.le_trans h4 (succ_k h2)⟩
    · exact h5.elim
theorem Clo.noWay {C : List Step} {ps : List Pc} {vis : Sg → Prop} {k0 k : Nat} (h : Clo C ps vis k0 fun _ => False) (hk : k0 ≤ k) (hx : vis ⟨0, 0, k⟩) (t : Nat) : ¬ Way C ps k t := by
  rintro ⟨pc, c, r, ho⟩
  obtain ⟨h1, h2⟩ := h.reach r hx hk
  exact (h _ h1 h2).1 ho

/-- What is left to be tried, or to be set back. -/
inductive Job where
  | try_ (pc k : Nat)
  | loop (l v : Nat)
  | grp (g : Nat) (x y z : Int)

/-- The state at a step and a piece, with these beginnings of rounds. -/
def stOf (C : List Step) (bg : List Nat) (pc k : Nat) : Sg :=
  ⟨pc, cnt (C[pc]?.map (·.loops) |>.getD []) bg k (C[pc]?.map (·.loops) |>.getD []).length, k⟩

/-- The states that are pending: the top of the stack first. -/
def pend (C : List Step) : List Job → List Nat → List Sg
  | [], _ => []
  | .try_ pc k :: r, bg => stOf C bg pc k :: pend C r bg
  | .loop l v :: r, bg => pend C r (bg.set l v)
  | .grp _ _ _ _ :: r, bg => pend C r bg

/-- The loops around a step began one behind the other, none of them behind piece k. -/
def Nest (ls bg : List Nat) (k : Nat) : Prop := (ls.map fun l => bg[l]?.getD 0).Pairwise (· ≤ ·) ∧ ∀ l ∈ ls, bg[l]?.getD 0 ≤ k

def loopsOf (C : List Step) (pc : Nat) : List Nat := C[pc]?.map (·.loops) |>.getD []

/-- The jobs make sense. -/
def OkJ (C : List Step) (np nl : Nat) : List Job → List Nat → Prop
  | [], _ => True
  | .try_ pc k :: r, bg => pc < C.length ∧ k ≤ np ∧ Nest (loopsOf C pc) bg k ∧ OkJ C np nl r bg
  | .loop l v :: r, bg => l < nl ∧ v ≤ np ∧ OkJ C np nl r (bg.set l v)
  | .grp _ _ _ _ :: r, bg => OkJ C np nl r bg

/-- The code makes sense. -/
structure WF (C : List Step) (ng nl S : Nat) : Prop where
  pos : 0 < C.length
  l0 : loopsOf C 0 = []
  len : C.length ≤ 10000
  base : ∀ (pc : Nat) (st : Step), C[pc]? = some st → st.base + st.loops.length < S ∧ st.loops.length ≤ 100 ∧ (∀ l ∈ st.loops, l < nl) ∧ st.loops.Nodup
  inj : ∀ (pc : Nat) (st : Step) (pc' : Nat) (st' : Step), C[pc]? = some st → C[pc']? = some st' → pc < pc' → st.base + st.loops.length < st'.base
  act : ∀ (pc : Nat) (st : Step), C[pc]? = some st →
    (st.dO = 0 ∧ st.what ≤ 1 ∧ pc + 1 < C.length ∧ loopsOf C (pc + 1) = st.loops) ∨
    (st.dO = 2 ∧ st.a < C.length ∧ st.b < C.length ∧ loopsOf C st.a = st.loops ∧ loopsOf C st.b = st.loops) ∨
    (st.dO = 3 ∧ st.a < C.length ∧ loopsOf C st.a = st.loops) ∨
    ((st.dO = 4 ∨ st.dO = 5) ∧ pc + 1 < C.length ∧ loopsOf C (pc + 1) = st.loops ∧ 1 ≤ st.grp ∧ st.grp ≤ ng) ∨
    (st.dO = 6 ∧ pc + 1 < C.length ∧ st.grp < nl ∧ loopsOf C (pc + 1) = st.loops ++ [st.grp]) ∨
    (st.dO = 7 ∧ st.a < C.length ∧ st.grp < nl ∧ st.loops = loopsOf C st.a ++ [st.grp]) ∨
    st.dO = 8
  small : ng ≤ 31 ∧ nl ≤ 10000 ∧ S ≤ 100000

theorem loopsOf_eq {C : List Step} {pc : Nat} {st : Step} (h : C[pc]? = some st) : loopsOf C pc = st.loops := by simp [loopsOf, h]
theorem stOf_eq (C : List Step) (bg : List Nat) (pc k : Nat) : stOf C bg pc k = ⟨pc, cnt (loopsOf C pc) bg k (loopsOf C pc).length, k⟩ := rfl

def cntA (ls bg : List Nat) (k : Nat) : Nat := ls.countP fun l => decide (bg[l]?.getD 0 < k)
theorem cnt_all (ls bg : List Nat) (k : Nat) : cnt ls bg k ls.length = cntA ls bg k := by simp [cnt, cntA]
theorem cntA_le (ls bg : List Nat) (k : Nat) : cntA ls bg k ≤ ls.length := List.countP_le_length
theorem cntA_full {ls bg : List Nat} {k : Nat} (h : ∀ l ∈ ls, bg[l]?.getD 0 < k) : cntA ls bg k = ls.length := by
  unfold cntA; rw [List.countP_eq_length]; intro a ha; simpa using h a ha
theorem cntA_snoc (ls bg : List Nat) (k l : Nat) : cntA (ls ++ [l]) bg k = cntA ls bg k + if bg[l]?.getD 0 < k then 1 else 0 := by
  unfold cntA; rw [List.countP_append]; simp
theorem getD_set_ne {bg : List Nat} {l x v : Nat} (h : x ≠ l) : (bg.set l v)[x]?.getD 0 = bg[x]?.getD 0 := by
  rw [List.getElem?_set_ne (Ne.symm h)]
theorem getD_set_eq {bg : List Nat} {l v : Nat} (h : l < bg.length) : (bg.set l v)[l]?.getD 0 = v := by
  rw [List.getElem?_set_self h]; rfl
theorem cntA_set {ls bg : List Nat} {k l v : Nat} (h : l ∉ ls) : cntA ls (bg.set l v) k = cntA ls bg k := by
  unfold cntA
  apply List.countP_congr
  intro a ha
  rw [getD_set_ne (fun e => h (by rw [← e]; exact ha))]
theorem nest_set {ls bg : List Nat} {k l v : Nat} (hn : Nest ls bg k) (h : l ∉ ls) : Nest ls (bg.set l v) k := by
  have e : (ls.map fun x => (bg.set l v)[x]?.getD 0) = ls.map fun x => bg[x]?.getD 0 := by
    apply List.map_congr_left
    intro a ha
    rw [getD_set_ne (fun e => h (by rw [← e]; exact ha))]
  refine ⟨by rw [e]; exact hn.1, fun a ha => ?_⟩
  rw [getD_set_ne (fun e => h (by rw [← e]; exact ha))]; exact hn.2 a ha
theorem nest_snoc {ls bg : List Nat} {k l : Nat} (hn : Nest ls bg k) (hl : bg[l]?.getD 0 = k) : Nest (ls ++ [l]) bg k := by
  refine ⟨?_, fun a ha => ?_⟩
  · rw [List.map_append, List.pairwise_append]
    refine ⟨hn.1, by simp, ?_⟩
    intro a ha b hb
    simp at hb
    obtain ⟨c, hc, rfl⟩ := List.mem_map.1 ha
    rw [hb, hl]; exact hn.2 c hc
  · rw [List.mem_append] at ha
    rcases ha with ha | ha
    · exact hn.2 a ha
    · simp at ha; subst ha; omega
theorem nest_init {ls bg : List Nat} {k l : Nat} (hn : Nest (ls ++ [l]) bg k) : Nest ls bg k ∧ ∀ a ∈ ls, bg[a]?.getD 0 ≤ bg[l]?.getD 0 := by
  obtain ⟨h1, h2⟩ := hn
  rw [List.map_append, List.pairwise_append] at h1
  refine ⟨⟨h1.1, fun a ha => h2 a (by simp [ha])⟩, fun a ha => ?_⟩
  exact h1.2.2 _ (List.mem_map.2 ⟨a, ha, rfl⟩) _ (by simp)
theorem nest_up {ls bg : List Nat} {k k' : Nat} (hn : Nest ls bg k) (h : k ≤ k') : Nest ls bg k' := ⟨hn.1, fun l hl => Nat.le_trans (hn.2 l hl) h⟩

section
variable {C : List Step} {ps : List Pc} {ng nl S : Nat} (wf : WF C ng nl S) {bg : List Nat} {pc k : Nat} {st : Step}

theorem succ_take (h : C[pc]? = some st) (h0 : st.dO = 0) {p : Pc} (hp : ps[k]? = some p) (ha : acc st p = true) (hl : loopsOf C (pc + 1) = st.loops) (hn : Nest (loopsOf C pc) bg k) :
    succ C ps (stOf C bg pc k) = [stOf C bg (pc + 1) (k + 1)] ∧ Nest (loopsOf C (pc + 1)) bg (k + 1) := by
  rw [loopsOf_eq h] at hn
  refine ⟨?_, by rw [hl]; exact nest_up hn (by omega)⟩
  simp only [stOf_eq, succ, h, h0, hp, ha, if_true, hl, cnt_all]
  rw [cntA_full (fun l hl => Nat.lt_succ_of_le (hn.2 l hl))]
theorem succ_take_no (h : C[pc]? = some st) (h0 : st.dO = 0) (hp : ∀ p, ps[k]? = some p → acc st p = false) : succ C ps (stOf C bg pc k) = [] := by
  simp only [stOf_eq, succ, h, h0]
  split
  · rename_i p hp'; rw [hp p hp']; rfl
  · rfl
theorem stOf_same {pc' : Nat} (h : C[pc]? = some st) (hl : loopsOf C pc' = st.loops) : stOf C bg pc' k = ⟨pc', (stOf C bg pc k).c, k⟩ := by
  simp only [stOf_eq, loopsOf_eq h, hl]
theorem nest_same {pc' : Nat} (h : C[pc]? = some st) (hl : loopsOf C pc' = st.loops) (hn : Nest (loopsOf C pc) bg k) : Nest (loopsOf C pc') bg k := by
  rw [hl, ← loopsOf_eq h]; exact hn
theorem succ_split (h : C[pc]? = some st) (h0 : st.dO = 2) (ha : loopsOf C st.a = st.loops) (hb : loopsOf C st.b = st.loops) :
    succ C ps (stOf C bg pc k) = [stOf C bg st.a k, stOf C bg st.b k] := by
  rw [stOf_same h ha, stOf_same h hb]
  simp only [stOf_eq, succ, h, h0]
theorem succ_jump (h : C[pc]? = some st) (h0 : st.dO = 3) (ha : loopsOf C st.a = st.loops) : succ C ps (stOf C bg pc k) = [stOf C bg st.a k] := by
  rw [stOf_same h ha]
  simp only [stOf_eq, succ, h, h0]
theorem succ_group (h : C[pc]? = some st) (h0 : st.dO = 4 ∨ st.dO = 5) (ha : loopsOf C (pc + 1) = st.loops) : succ C ps (stOf C bg pc k) = [stOf C bg (pc + 1) k] := by
  rw [stOf_same h ha]
  rcases h0 with h0 | h0 <;> simp only [stOf_eq, succ, h, h0]
include wf in
theorem enter_nodup (h : C[pc]? = some st) (hl : pc + 1 < C.length) (ha : loopsOf C (pc + 1) = st.loops ++ [st.grp]) : st.grp ∉ st.loops := by
  have h1 := (wf.base _ _ (List.getElem?_eq_getElem hl)).2.2.2
  rw [loopsOf_eq (List.getElem?_eq_getElem hl)] at ha
  rw [ha, List.nodup_append] at h1
  intro hm
  exact h1.2.2 _ hm _ (by simp) rfl
include wf in
theorem succ_enter (h : C[pc]? = some st) (h0 : st.dO = 6) (hl : pc + 1 < C.length) (hg : st.grp < bg.length) (ha : loopsOf C (pc + 1) = st.loops ++ [st.grp]) (hn : Nest (loopsOf C pc) bg k) :
    succ C ps (stOf C bg pc k) = [stOf C (bg.set st.grp k) (pc + 1) k] ∧ Nest (loopsOf C (pc + 1)) (bg.set st.grp k) k := by
  have hd := enter_nodup wf h hl ha
  rw [loopsOf_eq h] at hn
  refine ⟨?_, by rw [ha]; exact nest_snoc (nest_set hn hd) (getD_set_eq hg)⟩
  simp only [stOf_eq, succ, h, h0, ha, cnt_all, loopsOf_eq h]
  rw [cntA_snoc, cntA_set hd, getD_set_eq hg]
  simp
theorem succ_again (h : C[pc]? = some st) (h0 : st.dO = 7) (ha : st.loops = loopsOf C st.a ++ [st.grp]) (hn : Nest (loopsOf C pc) bg k) (hb : bg[st.grp]?.getD 0 ≠ k) :
    succ C ps (stOf C bg pc k) = [stOf C bg st.a k] ∧ Nest (loopsOf C st.a) bg k := by
  rw [loopsOf_eq h] at hn
  have h1 : bg[st.grp]?.getD 0 < k := by
    have := hn.2 st.grp (by rw [ha]; simp)
    omega
  have hn' := hn
  rw [ha] at hn'
  obtain ⟨h2, h3⟩ := nest_init hn'
  have hf : ∀ l ∈ st.loops, bg[l]?.getD 0 < k := by
    intro l hl
    rw [ha, List.mem_append] at hl
    rcases hl with hl | hl
    · exact Nat.lt_of_le_of_lt (h3 l hl) h1
    · simp at hl; subst hl; exact h1
  refine ⟨?_, h2⟩
  simp only [stOf_eq, succ, h, h0, cnt_all, loopsOf_eq h]
  rw [cntA_full hf, cntA_full (fun l hl => hf l (by rw [ha]; simp [hl])), if_pos rfl]
  have : st.loops.length = (loopsOf C st.a).length + 1 := by rw [ha]; simp
  rw [this]; simp
theorem succ_again_no (h : C[pc]? = some st) (h0 : st.dO = 7) (ha : st.loops = loopsOf C st.a ++ [st.grp]) (hb : bg[st.grp]?.getD 0 = k) :
    succ C ps (stOf C bg pc k) = [] := by
  have : cntA st.loops bg k ≠ st.loops.length := by
    rw [ha, cntA_snoc, hb]
    have := cntA_le (loopsOf C st.a) bg k
    simp; omega
  simp only [stOf_eq, succ, h, h0, cnt_all, loopsOf_eq h]
  rw [if_neg this]
end

/-- The number of a state among all. -/
def idx (C : List Step) (x : Sg) : Nat := (C[x.pc]?.map (·.base) |>.getD 0) + x.c
/-- What is marked, out of the bits. -/
def visOf (C : List Step) (bit : Nat → Nat → Bool) (x : Sg) : Prop := x.pc < C.length ∧ x.c ≤ (loopsOf C x.pc).length ∧ bit (idx C x) x.k = true
/-- One bit more. -/
def mark (bit : Nat → Nat → Bool) (i k : Nat) : Nat → Nat → Bool := fun i' k' => bit i' k' || (i' == i && k' == k)

section
variable {C : List Step} {ng nl S : Nat} (wf : WF C ng nl S)
include wf
theorem idx_lt {x : Sg} (h : x.pc < C.length) (hc : x.c ≤ (loopsOf C x.pc).length) : idx C x < S := by
  have h1 := wf.base _ _ (List.getElem?_eq_getElem h)
  rw [loopsOf_eq (List.getElem?_eq_getElem h)] at hc
  simp only [idx, List.getElem?_eq_getElem h, Option.map_some, Option.getD_some]
  omega
theorem idx_inj {x y : Sg} (hx : x.pc < C.length) (hcx : x.c ≤ (loopsOf C x.pc).length) (hy : y.pc < C.length) (hcy : y.c ≤ (loopsOf C y.pc).length) (h : idx C x = idx C y) : x.pc = y.pc ∧ x.c = y.c := by
  have ex := List.getElem?_eq_getElem hx
  have ey := List.getElem?_eq_getElem hy
  rw [loopsOf_eq ex] at hcx
  rw [loopsOf_eq ey] at hcy
  simp only [idx, ex, ey, Option.map_some, Option.getD_some] at h
  rcases Nat.lt_trichotomy x.pc y.pc with hlt | heq | hgt
  · have := wf.inj _ _ _ _ ex ey hlt; omega
  · refine ⟨heq, ?_⟩
    have : C[x.pc].base = C[y.pc].base := by simp [heq]
    omega
  · have := wf.inj _ _ _ _ ey ex hgt; omega
theorem vis_mark {bit : Nat → Nat → Bool} {x : Sg} (hx : x.pc < C.length) (hcx : x.c ≤ (loopsOf C x.pc).length) (y : Sg) :
    visOf C (mark bit (idx C x) x.k) y ↔ visOf C bit y ∨ y = x := by
  constructor
  · rintro ⟨h1, h2, h3⟩
    simp only [mark, Bool.or_eq_true, Bool.and_eq_true, beq_iff_eq] at h3
    rcases h3 with h3 | ⟨h3, h4⟩
    · exact .inl ⟨h1, h2, h3⟩
    · obtain ⟨h5, h6⟩ := idx_inj wf h1 h2 hx hcx h3
      right; cases x; cases y; simp_all
  · rintro (⟨h1, h2, h3⟩ | rfl)
    · exact ⟨h1, h2, by simp [mark, h3]⟩
    · exact ⟨hx, hcx, by simp [mark]⟩
end

theorem stOf_c_le (C : List Step) (bg : List Nat) (pc k : Nat) : (stOf C bg pc k).c ≤ (loopsOf C (stOf C bg pc k).pc).length := by
  rw [stOf_eq]; exact cnt_le _ _ _ _

/-- How many states are not marked. -/
def unv (bit : Nat → Nat → Bool) (S K : Nat) : Nat := ((List.range S).flatMap fun i => (List.range K).map fun k => (i, k)).countP fun x => !bit x.1 x.2
theorem unv_mark {bit : Nat → Nat → Bool} {S K i k : Nat} (hi : i < S) (hk : k < K) (h : bit i k = false) : unv (mark bit i k) S K < unv bit S K := by
  unfold unv
  generalize hL : ((List.range S).flatMap fun i => (List.range K).map fun k => (i, k)) = L
  have hm : (i, k) ∈ L := by rw [← hL]; simp; exact ⟨hi, hk⟩
  clear hL
  have hle : ∀ L : List (Nat × Nat), L.countP (fun x => !mark bit i k x.1 x.2) ≤ L.countP fun x => !bit x.1 x.2 := fun L =>
    List.countP_mono_left fun x _ hx => by simp [mark] at hx ⊢; exact hx.1
  induction L with
  | nil => simp at hm
  | cons a L ih =>
    rcases List.mem_cons.1 hm with rfl | hm
    · rw [List.countP_cons, List.countP_cons]
      have h3 := hle L
      have e1 : (!mark bit i k (i, k).1 (i, k).2) = false := by simp [mark]
      have e2 : (!bit (i, k).1 (i, k).2) = true := by simp [h]
      rw [e1, e2]; simp only [if_true, Bool.false_eq_true, if_false]; omega
    · have := ih hm
      rw [List.countP_cons, List.countP_cons]
      have h2 : (if (!mark bit i k a.1 a.2) = true then 1 else 0) ≤ if (!bit a.1 a.2) = true then 1 else 0 := by
        cases hb : bit a.1 a.2
        · simp only [Bool.not_false, if_true]; split <;> omega
        · simp [mark, hb]
      omega
theorem unv_le (bit : Nat → Nat → Bool) (S K : Nat) : unv bit S K ≤ S * K := by
  unfold unv
  refine Nat.le_trans List.countP_le_length ?_
  rw [List.length_flatMap]
  have : ((List.range S).map fun i => ((List.range K).map fun k => (i, k)).length) = List.replicate S K := by
    apply List.ext_getElem <;> simp
  rw [this]; simp

end Go.Proofs.YtlanodchnjojoaaDoor
