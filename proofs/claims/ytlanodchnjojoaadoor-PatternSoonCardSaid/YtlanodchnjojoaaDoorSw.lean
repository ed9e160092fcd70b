/- A check on a laid code: it is well formed. -/
import Derived.Test.YtlanodchnjojoaaDoorLy
import Derived.Test.YtlanodchnjojoaaDoorFf
import Derived.Test.YtlanodchnjojoaaDoorWk
namespace Go.Proofs.YtlanodchnjojoaaDoor
open Go.RowKit

def actB (C : List Step) (ng nl pc : Nat) (st : Step) : Bool :=
  (decide (st.dO = 0) && (decide (st.what ≤ 1) && (decide (pc + 1 < C.length) && decide (loopsOf C (pc + 1) = st.loops)))) ||
  ((decide (st.dO = 2) && (decide (st.a < C.length) && (decide (st.b < C.length) && (decide (loopsOf C st.a = st.loops) && decide (loopsOf C st.b = st.loops))))) ||
  ((decide (st.dO = 3) && (decide (st.a < C.length) && decide (loopsOf C st.a = st.loops))) ||
  (((decide (st.dO = 4) || decide (st.dO = 5)) && (decide (pc + 1 < C.length) && (decide (loopsOf C (pc + 1) = st.loops) && (decide (1 ≤ st.grp) && decide (st.grp ≤ ng))))) ||
  ((decide (st.dO = 6) && (decide (pc + 1 < C.length) && (decide (st.grp < nl) && decide (loopsOf C (pc + 1) = st.loops ++ [st.grp])))) ||
  ((decide (st.dO = 7) && (decide (st.a < C.length) && (decide (st.grp < nl) && decide (st.loops = loopsOf C st.a ++ [st.grp])))) ||
  decide (st.dO = 8))))))
def stepB (C : List Step) (ng nl pc : Nat) : Bool := match C[pc]? with
  | some st => actB C ng nl pc st && (decide (st.loops.length ≤ 100) && (st.loops.all (fun l => decide (l < nl)) && decide st.loops.Nodup))
  | none => true
def wfB (C : List Step) (ng nl S : Nat) : Bool :=
  decide (0 < C.length) && (decide (loopsOf C 0 = []) && (decide (C.length ≤ 10000) && ((List.range C.length).all (stepB C ng nl) && (decide (ng ≤ 31) && (decide (nl ≤ 10000) && decide (S ≤ 100000))))))

theorem wf_of {C0 : List Step} {ng nl : Nat} (h : wfB (bases C0 0) ng nl (total C0) = true) : WF (bases C0 0) ng nl (total C0) := by
  simp only [wfB, Bool.and_eq_true, decide_eq_true_eq] at h
  obtain ⟨h1, h2, h3, h4, h5, h6, h7⟩ := h
  have hs : ∀ (pc : Nat) (st : Step), (bases C0 0)[pc]? = some st → actB (bases C0 0) ng nl pc st = true ∧ st.loops.length ≤ 100 ∧ (∀ l ∈ st.loops, l < nl) ∧ st.loops.Nodup := fun pc st hpc => by
    have hlt := (List.getElem?_eq_some_iff.1 hpc).1
    have := List.all_eq_true.1 h4 pc (List.mem_range.2 hlt)
    simp only [stepB, hpc, Bool.and_eq_true, decide_eq_true_eq, List.all_eq_true] at this
    exact this
  have hbase : ∀ (pc : Nat) (st : Step), (bases C0 0)[pc]? = some st → ∃ st0, C0[pc]? = some st0 ∧ st.base = total (C0.take pc) ∧ st.loops = st0.loops := fun pc st hpc => by
    rw [bases_get] at hpc
    cases hc : C0[pc]? with
    | none => rw [hc] at hpc; cases hpc
    | some st0 =>
      rw [hc] at hpc
      simp at hpc
      exact ⟨st0, rfl, by rw [← hpc], by rw [← hpc]⟩
  have htot : ∀ i j : Nat, i ≤ j → total (C0.take i) ≤ total (C0.take j) := fun i j hij => by
    have := total_le (C0.take j) i
    rwa [List.take_take, Nat.min_eq_left hij] at this
  refine ⟨h1, h2, h3, fun pc st hpc => ?_, fun pc st pc' st' hpc hpc' hlt => ?_, fun pc st hpc => ?_, ⟨h5, h6, h7⟩⟩
  · obtain ⟨_, a1, a2, a3⟩ := hs pc st hpc
    obtain ⟨st0, b1, b2, b3⟩ := hbase pc st hpc
    have := total_take _ _ _ b1
    have h8 := total_le C0 (pc + 1)
    exact ⟨by rw [b2, b3]; omega, a1, a2, a3⟩
  · obtain ⟨st0, b1, b2, b3⟩ := hbase pc st hpc
    obtain ⟨st0', c1, c2, c3⟩ := hbase pc' st' hpc'
    have := total_take _ _ _ b1
    have h8 := htot (pc + 1) pc' hlt
    rw [b2, b3, c2]
    omega
  · have ha := (hs pc st hpc).1
    simp only [actB, Bool.or_eq_true, Bool.and_eq_true, decide_eq_true_eq] at ha
    exact ha

end Go.Proofs.YtlanodchnjojoaaDoor

namespace Go.Proofs.YtlanodchnjojoaaDoor
open Go.RowKit

theorem mem_piecesFrom (s : ByteArray) : ∀ (f pos : Nat) (p : Pc), p ∈ piecesFrom s f pos → ∃ i, i < s.size ∧ p = pieceAt s i
  | 0, pos, p, h => by simp [piecesFrom] at h
  | f + 1, pos, p, h => by
    unfold piecesFrom at h
    split at h
    · rename_i hp
      rcases List.mem_cons.1 h with h | h
      · exact ⟨pos, hp, h⟩
      · exact mem_piecesFrom s f _ p h
    · simp at h
theorem mem_pieces {s : ByteArray} {p : Pc} (h : p ∈ pieces s) : ∃ i, i < s.size ∧ p = pieceAt s i := mem_piecesFrom s _ _ p h

theorem CA_noWay {ps : List Pc} (h : ∀ p ∈ ps, p.rune ≠ 97) (k t : Nat) : ¬ Way CA ps k t := by
  rintro ⟨pc, c, r, st, hst, ho⟩
  have key : ∀ y, Reach CA ps ⟨0, 0, k⟩ y → y = ⟨0, 0, k⟩ := by
    intro y hy
    induction hy with
    | refl => rfl
    | tail _ h2 ih =>
      subst ih
      simp only [succ, CA, List.getElem?_cons_zero] at h2
      split at h2
      · rename_i p hp
        have := h p (List.mem_of_getElem? hp)
        have e : acc ⟨0, 0, 97, 0, 0, 0, [], 0⟩ p = false := by simp [acc, this]
        rw [e] at h2
        simp at h2
      · simp at h2
  have := key _ r
  cases this
  simp only [CA, List.getElem?_cons_zero, Option.some.injEq] at hst
  subst hst
  cases ho

end Go.Proofs.YtlanodchnjojoaaDoor

namespace Go.Proofs.YtlanodchnjojoaaDoor
open Go.RowKit

def lk (need : Nat → Nat) (fin : Nat → Bool) (x y : Nat) : Bool := decide (need y ≤ need x) && (!fin y || fin x)
/-- One step keeps the count of pieces that are surely taken; behind the last take one comes by the take of a b or an x alone. -/
def chk1 (need : Nat → Nat) (fin : Nat → Bool) (least pc : Nat) (st : Step) : Bool :=
  if st.dO = 0 then decide (need (pc + 1) ≤ need pc + 1) && (!fin pc && (!fin (pc + 1) || (decide (st.what = 0) && (decide (st.r = 98) || decide (st.r = 120)))))
  else if st.dO = 2 then lk need fin pc st.a && lk need fin pc st.b
  else if st.dO = 3 then lk need fin pc st.a
  else if st.dO = 7 then lk need fin pc st.a
  else if st.dO = 8 then fin pc && decide (least + 1 ≤ need pc)
  else lk need fin pc (pc + 1)
def chkA (C : List Step) (need : Nat → Nat) (fin : Nat → Bool) (least : Nat) : Bool :=
  decide (need 0 = 0) && (!fin 0 && (List.range C.length).all fun pc => match C[pc]? with
    | none => true
    | some st => chk1 need fin least pc st)

def isEnd (ps : List Pc) (t : Nat) : Prop := ∃ j p, ps[j]? = some p ∧ (p.rune = 98 ∨ p.rune = 120) ∧ t = j + 1

theorem lk_of {need : Nat → Nat} {fin : Nat → Bool} {x y : Nat} (h : lk need fin x y = true) : need y ≤ need x ∧ (fin y = true → fin x = true) := by
  simp only [lk, Bool.and_eq_true, decide_eq_true_eq, Bool.or_eq_true, Bool.not_eq_true'] at h
  refine ⟨h.1, fun hy => ?_⟩
  rcases h.2 with h2 | h2
  · rw [hy] at h2; cases h2
  · exact h2

theorem chk_reach {C : List Step} {need : Nat → Nat} {fin : Nat → Bool} {least : Nat} (h : chkA C need fin least = true) {ps : List Pc} {k : Nat} {y : Sg} (r : Reach C ps ⟨0, 0, k⟩ y) :
    k + need y.pc ≤ y.k ∧ (fin y.pc = true → isEnd ps y.k) := by
  simp only [chkA, Bool.and_eq_true, decide_eq_true_eq, Bool.not_eq_true'] at h
  obtain ⟨h0, hf0, hall⟩ := h
  have key : ∀ y, Reach C ps ⟨0, 0, k⟩ y → k + need y.pc ≤ y.k ∧ (fin y.pc = true → isEnd ps y.k) := by
    intro y hy
    induction hy with
    | refl => exact ⟨by show k + need 0 ≤ k; omega, fun hf => by rw [hf0] at hf; cases hf⟩
    | @tail y z r1 h2 ih =>
      obtain ⟨i1, i2⟩ := ih
      unfold succ at h2
      split at h2
      · simp at h2
      · rename_i st hst
        have hlt := (List.getElem?_eq_some_iff.1 hst).1
        have hc := List.all_eq_true.1 hall y.pc (List.mem_range.2 hlt)
        simp only [hst] at hc
        have go : ∀ {p : Nat}, lk need fin y.pc p = true → ∀ c, k + need (⟨p, c, y.k⟩ : Sg).pc ≤ (⟨p, c, y.k⟩ : Sg).k ∧ (fin (⟨p, c, y.k⟩ : Sg).pc = true → isEnd ps (⟨p, c, y.k⟩ : Sg).k) := fun {p} hl c => by
          obtain ⟨l1, l2⟩ := lk_of hl
          exact ⟨by show k + need p ≤ y.k; omega, fun hf => i2 (l2 hf)⟩
        split at h2
        · rename_i hd
          simp only [chk1, hd, if_true, Bool.and_eq_true, decide_eq_true_eq, Bool.or_eq_true, Bool.not_eq_true'] at hc
          obtain ⟨c1, c2, c3⟩ := hc
          split at h2
          · rename_i p hp
            split at h2
            · rename_i ha
              simp only [List.mem_singleton] at h2
              subst h2
              refine ⟨by show k + need (y.pc + 1) ≤ y.k + 1; omega, fun hf => ?_⟩
              rcases c3 with c3 | ⟨c3, c4⟩
              · rw [show fin (y.pc + 1) = true from hf] at c3; cases c3
              · refine ⟨y.k, p, hp, ?_, rfl⟩
                simp only [acc, c3, if_true, Bool.and_eq_true, beq_iff_eq] at ha
                rw [ha.2]; exact c4
            · simp at h2
          · simp at h2
        · rename_i hd
          simp only [chk1, hd, Bool.and_eq_true, show ¬ ((2 : Nat) = 0) by omega, if_false, if_true] at hc
          simp only [List.mem_cons, List.not_mem_nil, or_false] at h2
          rcases h2 with rfl | rfl
          · exact go hc.1 _
          · exact go hc.2 _
        · rename_i hd
          simp only [chk1, hd, show ¬ ((3 : Nat) = 0) by omega, show ¬ ((3 : Nat) = 2) by omega, if_false, if_true] at hc
          simp only [List.mem_singleton] at h2
          subst h2
          exact go hc _
        · rename_i hd
          simp only [chk1, hd, show ¬ ((6 : Nat) = 0) by omega, show ¬ ((6 : Nat) = 2) by omega, show ¬ ((6 : Nat) = 3) by omega, show ¬ ((6 : Nat) = 7) by omega, show ¬ ((6 : Nat) = 8) by omega, if_false] at hc
          simp only [List.mem_singleton] at h2
          subst h2
          exact go hc _
        · rename_i hd
          simp only [chk1, hd, show ¬ ((7 : Nat) = 0) by omega, show ¬ ((7 : Nat) = 2) by omega, show ¬ ((7 : Nat) = 3) by omega, if_false, if_true] at hc
          split at h2
          · simp only [List.mem_singleton] at h2
            subst h2
            exact go hc _
          · simp at h2
        · rename_i hd
          simp only [chk1, hd, show ¬ ((4 : Nat) = 0) by omega, show ¬ ((4 : Nat) = 2) by omega, show ¬ ((4 : Nat) = 3) by omega, show ¬ ((4 : Nat) = 7) by omega, show ¬ ((4 : Nat) = 8) by omega, if_false] at hc
          simp only [List.mem_singleton] at h2
          subst h2
          exact go hc _
        · rename_i hd
          simp only [chk1, hd, show ¬ ((5 : Nat) = 0) by omega, show ¬ ((5 : Nat) = 2) by omega, show ¬ ((5 : Nat) = 3) by omega, show ¬ ((5 : Nat) = 7) by omega, show ¬ ((5 : Nat) = 8) by omega, if_false] at hc
          simp only [List.mem_singleton] at h2
          subst h2
          exact go hc _
        · simp at h2
  exact key y r

/-- A way ends behind a b or an x, and so many pieces before it were taken, too. -/
theorem chk_way {C : List Step} {need : Nat → Nat} {fin : Nat → Bool} {least : Nat} (h : chkA C need fin least = true) {ps : List Pc} {k t : Nat} (hw : Way C ps k t) :
    k + least + 1 ≤ t ∧ isEnd ps t := by
  obtain ⟨pc, c, r, st, hst, ho⟩ := hw
  obtain ⟨h1, h2⟩ := chk_reach h r
  simp only [chkA, Bool.and_eq_true] at h
  have hlt := (List.getElem?_eq_some_iff.1 hst).1
  have hc := List.all_eq_true.1 h.2.2 pc (List.mem_range.2 hlt)
  simp only [hst, chk1, ho, Bool.and_eq_true, decide_eq_true_eq, show ¬ ((8 : Nat) = 0) by omega, show ¬ ((8 : Nat) = 2) by omega, show ¬ ((8 : Nat) = 3) by omega, show ¬ ((8 : Nat) = 7) by omega, if_false, if_true] at hc
  refine ⟨?_, h2 hc.1⟩
  have : k + need pc ≤ t := h1
  omega

/-- One road: which of the next states is taken each time. -/
def follow (C : List Step) (ps : List Pc) : List Nat → Sg → Option Sg
  | [], x => some x
  | i :: r, x => match (succ C ps x)[i]? with
    | some y => follow C ps r y
    | none => none
theorem follow_reach {C : List Step} {ps : List Pc} : ∀ (cs : List Nat) (x y : Sg), follow C ps cs x = some y → Reach C ps x y
  | [], x, y, h => by cases h; exact .refl _
  | i :: r, x, y, h => by
    simp only [follow] at h
    split at h
    · rename_i z hz
      exact (Reach.one (List.mem_of_getElem? hz)).trans (follow_reach r z y h)
    · cases h

def pa : Pc := ⟨0, 1, 97, false⟩
def pb' : Pc := ⟨0, 1, 98, false⟩
/-- The pieces from k on are as these. -/
def LikeAt (ps' ps : List Pc) (k : Nat) : Prop := ∀ j p, ps'[j]? = some p → ∃ p', ps[k + j]? = some p' ∧ p'.rune = p.rune ∧ p'.broken = p.broken

theorem acc_like {st : Step} {p p' : Pc} (h1 : p'.rune = p.rune) (h2 : p'.broken = p.broken) : acc st p' = acc st p := by
  unfold acc; rw [h1, h2]

theorem succ_like {C : List Step} {ps' ps : List Pc} {k : Nat} (hl : LikeAt ps' ps k) {x y : Sg} (h : y ∈ succ C ps' x) : (⟨y.pc, y.c, k + y.k⟩ : Sg) ∈ succ C ps ⟨x.pc, x.c, k + x.k⟩ := by
  unfold succ at h ⊢
  split at h
  · simp at h
  · rename_i st hst
    simp only [hst]
    split at h
    · split at h
      · rename_i p hp
        obtain ⟨p', e1, e2, e3⟩ := hl _ _ hp
        simp only [e1]
        rw [acc_like e2 e3]
        split at h
        · rename_i ha
          rw [if_pos ha]
          simp only [List.mem_singleton] at h ⊢
          subst h
          rfl
        · simp at h
      · simp at h
    · simp only [List.mem_cons, List.not_mem_nil, or_false] at h ⊢
      rcases h with rfl | rfl
      · exact .inl rfl
      · exact .inr rfl
    · simp only [List.mem_singleton] at h ⊢
      subst h; rfl
    · simp only [List.mem_singleton] at h ⊢
      subst h; rfl
    · split at h
      · rename_i hc
        rw [if_pos hc]
        simp only [List.mem_singleton] at h ⊢
        subst h; rfl
      · simp at h
    · simp only [List.mem_singleton] at h ⊢
      subst h; rfl
    · simp only [List.mem_singleton] at h ⊢
      subst h; rfl
    · simp at h
theorem reach_like {C : List Step} {ps' ps : List Pc} {k : Nat} (hl : LikeAt ps' ps k) {x y : Sg} (r : Reach C ps' x y) : Reach C ps ⟨x.pc, x.c, k + x.k⟩ ⟨y.pc, y.c, k + y.k⟩ := by
  induction r with
  | refl => exact .refl _
  | tail _ h2 ih => exact .tail ih (succ_like hl h2)
theorem follow_like {C : List Step} {ps' ps : List Pc} {k : Nat} (hl : LikeAt ps' ps k) {cs : List Nat} {x y : Sg} (h : follow C ps' cs x = some y) : Reach C ps ⟨x.pc, x.c, k + x.k⟩ ⟨y.pc, y.c, k + y.k⟩ := reach_like hl (follow_reach cs x y h)

/-- So many a's, and then a b. -/
structure AB (ps : List Pc) (n : Nat) : Prop where
  a : ∀ j < n, ∃ p, ps[j]? = some p ∧ p.rune = 97 ∧ p.broken = false
  b : ∃ p, ps[n]? = some p ∧ p.rune = 98 ∧ p.broken = false
  only : ps.length = n + 1

theorem likeA {ps : List Pc} {n k d : Nat} (h : AB ps n) (hk : k + d ≤ n) : LikeAt (List.replicate d pa) ps k := fun j p hj => by
  rw [List.getElem?_replicate] at hj
  split at hj
  · cases hj
    obtain ⟨p', e1, e2, e3⟩ := h.a (k + j) (by omega)
    exact ⟨p', e1, e2, e3⟩
  · cases hj
theorem likeAB {ps : List Pc} {n k d : Nat} (h : AB ps n) (hk : k + d = n) : LikeAt (List.replicate d pa ++ [pb']) ps k := fun j p hj => by
  rw [List.getElem?_append] at hj
  split at hj
  · exact likeA h (Nat.le_of_eq hk) j p hj
  · rename_i hd
    simp only [List.length_replicate] at hj hd
    have : j - d = 0 := by
      have := (List.getElem?_eq_some_iff.1 hj).1
      simp at this; omega
    rw [this] at hj
    cases hj
    obtain ⟨p', e1, e2, e3⟩ := h.b
    exact ⟨p', by rw [show k + j = n by omega]; exact e1, e2, e3⟩

/-- So many a's, and nothing else. -/
structure AA (ps : List Pc) (n : Nat) : Prop where
  a : ∀ p ∈ ps, p.rune = 97
theorem AA.noEnd {ps : List Pc} {n t : Nat} (h : AA ps n) : ¬ isEnd ps t := by
  rintro ⟨j, p, hj, hr, _⟩
  have := h.a p (List.mem_of_getElem? hj)
  omega
theorem AB.end_ {ps : List Pc} {n t : Nat} (h : AB ps n) (he : isEnd ps t) : t = n + 1 := by
  obtain ⟨j, p, hj, hr, rfl⟩ := he
  have hlt := (List.getElem?_eq_some_iff.1 hj).1
  rw [h.only] at hlt
  by_cases hn : j < n
  · obtain ⟨p', e1, e2, _⟩ := h.a j hn
    rw [e1] at hj; cases hj; omega
  · omega

/-- A road in three parts: up to a loop, one round, the rest. -/
theorem way_loop {C : List Step} {pre round ex : List Nat} {L c d po co : Nat} (h1 : follow C (List.replicate d pa) pre ⟨0, 0, 0⟩ = some ⟨L, c, d⟩)
    (h2 : follow C (List.replicate 1 pa) round ⟨L, c, 0⟩ = some ⟨L, c, 1⟩) (h3 : follow C (List.replicate 0 pa ++ [pb']) ex ⟨L, c, 0⟩ = some ⟨po, co, 1⟩) (ho : isOver C po)
    {ps : List Pc} {n : Nat} (h : AB ps n) (hd : d ≤ n) : Way C ps 0 (n + 1) := by
  have r1 : Reach C ps ⟨0, 0, 0⟩ ⟨L, c, d⟩ := by
    have := follow_like (likeA (k := 0) (d := d) h (by omega)) h1
    simpa using this
  have r2 : ∀ m, d ≤ m → m ≤ n → Reach C ps ⟨L, c, d⟩ ⟨L, c, m⟩ := by
    intro m
    induction m with
    | zero =>
      intro hm _
      have : d = 0 := by omega
      subst this
      exact .refl _
    | succ m ih =>
      intro hm hmn
      by_cases he : d = m + 1
      · subst he; exact .refl _
      · exact (ih (by omega) (by omega)).trans (by simpa using follow_like (likeA (k := m) (d := 1) h hmn) h2)
  have r3 : Reach C ps ⟨L, c, n⟩ ⟨po, co, n + 1⟩ := by
    have := follow_like (likeAB (k := n) (d := 0) h rfl) h3
    simpa using this
  exact ⟨po, co, (r1.trans (r2 n hd (Nat.le_refl _))).trans r3, ho⟩
/-- One road of a fixed length, at the text's end. -/
theorem way_fix {C : List Step} {cs : List Nat} {d po co : Nat} (h1 : follow C (List.replicate d pa ++ [pb']) cs ⟨0, 0, 0⟩ = some ⟨po, co, d + 1⟩) (ho : isOver C po)
    {ps : List Pc} {n : Nat} (h : AB ps n) (hd : d ≤ n) : Way C ps (n - d) (n + 1) := by
  have := follow_like (likeAB (k := n - d) (d := d) h (by omega)) h1
  refine ⟨po, co, ?_, ho⟩
  rw [show n + 1 = n - d + (d + 1) by omega]
  simpa using this

theorem pieces_ascFrom {s : ByteArray} (ha : Asc s) : ∀ (f pos j : Nat), pos + f = s.size → (piecesFrom s f pos)[j]? = if j < f then some ⟨pos + j, 1, (byt s (pos + j) : Int), false⟩ else none
  | 0, pos, j, h => by simp [piecesFrom]
  | f + 1, pos, j, h => by
    have hp : pos < s.size := by omega
    have hw : (Utf8.decode s pos).2 = 1 := by
      have hd := decode_ascii s pos hp (ha pos hp)
      rw [hd]
    simp only [piecesFrom, if_pos hp, hw]
    cases j with
    | zero => simp [piece_asc ha hp]
    | succ j =>
      rw [List.getElem?_cons_succ, pieces_ascFrom ha f (pos + 1) j (by omega)]
      by_cases hj : j < f
      · rw [if_pos hj, if_pos (by omega)]
        simp only [Nat.add_assoc, Nat.add_comm 1 j]
      · rw [if_neg hj, if_neg (by omega)]
theorem pieces_asc_get {s : ByteArray} (ha : Asc s) (j : Nat) : (pieces s)[j]? = if j < s.size then some ⟨j, 1, (byt s j : Int), false⟩ else none := by
  have := pieces_ascFrom ha s.size 0 j (by omega)
  simpa [pieces] using this
theorem pieces_asc_length {s : ByteArray} (ha : Asc s) : (pieces s).length = s.size := by
  have h1 : (pieces s).length ≤ s.size := piecesFrom_length s s.size 0
  have h2 := pieces_asc_get ha (pieces s).length
  rw [List.getElem?_eq_none (Nat.le_refl _)] at h2
  split at h2
  · cases h2
  · omega
theorem plcS_asc {s : ByteArray} (ha : Asc s) {k : Nat} (hk : k ≤ s.size) : plcS s k = k := by
  unfold plcS
  rw [pieces_asc_get ha]
  split
  · rfl
  · simp; omega

def aS (n : Nat) : ByteArray := ⟨Array.replicate n 97⟩
def bS : ByteArray := ⟨#[98]⟩
theorem aS_size (n : Nat) : (aS n).size = n := by simp [aS, ByteArray.size]
theorem aS_get (n i : Nat) (h : i < (aS n).size) : (aS n)[i]'h = 97 := by
  show (aS n).data[i]'h = 97
  simp [aS]
theorem aS_asc (n : Nat) : Asc (aS n) := fun i h => by rw [aS_get]; decide
theorem aS_byt {n i : Nat} (h : i < n) : byt (aS n) i = 97 := by
  have h' : i < (aS n).size := by rw [aS_size]; exact h
  simp only [byt, h', dif_pos, aS_get]; rfl
theorem abS_size (n : Nat) : (aS n ++ bS).size = n + 1 := by rw [ByteArray.size_append, aS_size]; rfl
theorem abS_get (n i : Nat) (h : i < (aS n ++ bS).size) : (aS n ++ bS)[i]'h = if i < n then 97 else 98 := by
  by_cases hi : i < n
  · rw [if_pos hi, ByteArray.getElem_append_left (by rw [aS_size]; exact hi), aS_get]
  · rw [if_neg hi, ByteArray.getElem_append_right (by rw [aS_size]; omega)]
    rw [abS_size] at h
    have : i = n := by omega
    subst this
    simp only [aS_size, Nat.sub_self]
    rfl
theorem abS_asc (n : Nat) : Asc (aS n ++ bS) := fun i h => by rw [abS_get]; split <;> decide
theorem abS_byt {n i : Nat} (h : i < n + 1) : byt (aS n ++ bS) i = if i < n then 97 else 98 := by
  have h' : i < (aS n ++ bS).size := by rw [abS_size]; exact h
  simp only [byt, h', dif_pos, abS_get]
  split <;> rfl
theorem aS_AA (n : Nat) : AA (pieces (aS n)) n := ⟨fun p hp => by
  obtain ⟨i, hi, rfl⟩ := mem_pieces hp
  rw [piece_asc (aS_asc n) hi, aS_byt (by rw [aS_size] at hi; exact hi)]; rfl⟩
theorem abS_AB (n : Nat) : AB (pieces (aS n ++ bS)) n := by
  refine ⟨fun j hj => ?_, ?_, ?_⟩
  · rw [pieces_asc_get (abS_asc n), if_pos (by rw [abS_size]; omega), abS_byt (by omega), if_pos hj]
    exact ⟨_, rfl, rfl, rfl⟩
  · rw [pieces_asc_get (abS_asc n), if_pos (by rw [abS_size]; omega), abS_byt (by omega), if_neg (by omega)]
    exact ⟨_, rfl, rfl, rfl⟩
  · rw [pieces_asc_length (abS_asc n), abS_size]
theorem aS_simple (n : Nat) : ∀ p ∈ pieces (aS n), simple p := fun p hp => by
  obtain ⟨i, hi, rfl⟩ := mem_pieces hp
  rw [piece_asc (aS_asc n) hi, aS_byt (by rw [aS_size] at hi; exact hi)]
  exact ⟨rfl, by simp, by simp⟩
theorem abS_simple (n : Nat) : ∀ p ∈ pieces (aS n ++ bS), simple p := fun p hp => by
  obtain ⟨i, hi, rfl⟩ := mem_pieces hp
  rw [piece_asc (abS_asc n) hi, abS_byt (by rw [abS_size] at hi; exact hi)]
  refine ⟨rfl, ?_, ?_⟩ <;> (split <;> simp)

end Go.Proofs.YtlanodchnjojoaaDoor
