/- A law on a region that draws its order: some pure operations may be taken first, then those that only read, then a tail in one forced order. -/
import Derived.StillTailTactics
import Derived.OrdersHeld
import Derived.Laws.Entries
import Derived.RowKit
namespace Go.Proofs.YtlanodchnjojoaaDoor
open Go

section
variable {P : Program} {ops : Array Oper} {md : Region.Mode} {w : World}

def pickL (l : List Oper) : List Nat → List Oper
  | [] => []
  | i :: r => match l.drop i with
    | o :: _ => o :: pickL l r
    | [] => pickL l r
theorem pickL_cons {l : List Oper} {i : Nat} {o : Oper} (r : List Nat) (h : l[i]? = some o) : pickL l (i :: r) = o :: pickL l r := by
  obtain ⟨hi, ho⟩ := List.getElem?_eq_some_iff.1 h
  simp only [pickL]
  rw [List.drop_eq_getElem_cons hi, ho]

def takesB (md : Region.Mode) (ops : Array Oper) : List Nat → Array Bool → Bool
  | [], _ => true
  | i :: r, listed => (Region.ready md ops listed).contains i && Region.free md ops listed i && takesB md ops r (listed.setIfInBounds i true)
def listAll : List Nat → Array Bool → Array Bool
  | [], listed => listed
  | i :: r, listed => listAll r (listed.setIfInBounds i true)

def wpPure (P : Program) (ops : Array Oper) (K : Act → Prop) : List Oper → Act → Prop
  | [], a => K a
  | o :: r, a => ∃ v, Yields P ops o v a ∧ wpPure P ops K r (a.put o.dst v)

theorem ready_get {i : Nat} {listed : Array Bool} (h : (Region.ready md ops listed).contains i = true) : ∃ o, ops[i]? = some o := by
  obtain ⟨_, o, ho, _⟩ := mem_ready.1 (by simpa using h)
  exact ⟨o, ho⟩

theorem wpAny_pure {Q : Exit → Act → World → Prop} {l : List Oper} (hl : l.toArray = ops) (hs : Region.noSelect ops = true) (hQ : ∀ c a (d : Option Tmp) v w, Q (.panic c) (a.put d v) w → Q (.panic c) a w) {K : Act → Prop} {g : Nat} :
    ∀ (π : List Nat) (listed : Array Bool) (a : Act), takesB md ops π listed = true → wpPure P ops K (pickL l π) a → (∀ a', K a' → wpAny P md ops Q g (listAll π listed) a' w) → wpAny P md ops Q (π.length + g) listed a w
  | [], listed, a, _, h, hK => by simpa [listAll] using hK a h
  | i :: r, listed, a, hB, h, hK => by
    simp only [takesB, Bool.and_eq_true] at hB
    obtain ⟨⟨hr, hf⟩, hB'⟩ := hB
    obtain ⟨o, ho⟩ := ready_get hr
    have ho' : l[i]? = some o := by rw [← hl] at ho; simpa using ho
    rw [pickL_cons r ho'] at h
    obtain ⟨v, hy, h2⟩ := h
    rw [List.length_cons, show r.length + 1 + g = (r.length + g) + 1 by omega]
    exact wpAny_take ho hs hf hr (fun c a w => hQ c a o.dst v w) hy (wpAny_pure hl hs hQ r _ _ hB' h2 hK)

def chainL (md : Region.Mode) (ops : Array Oper) : List Nat → Bool
  | a :: b :: r => Region.waitsFor md ops b a && chainL md ops (b :: r)
  | _ => true
def sinkL (md : Region.Mode) (ops : Array Oper) (π : List Nat) (n : Nat) : Bool :=
  (List.range n).all fun i => π.contains i || (List.range (n + 1)).any fun j => decide (i < j) && Region.waitsFor md ops j i
def coverL (ops : Array Oper) (π τ : List Nat) (n : Nat) : Bool := (List.range ops.size).all fun i => decide (i < n) || π.contains i || τ.contains i
def closedB (md : Region.Mode) (ops : Array Oper) (listed : Array Bool) : Bool :=
  (List.range ops.size).all fun j => !listed.getD j false || match ops[j]? with
    | some oj => oj.after.all fun e => !Region.binds md e || listed.getD e.on false
    | none => true

structure HeadG (md : Region.Mode) (ops : Array Oper) (π τ : List Nat) (listed : Array Bool) : Prop where
  size : listed.size = ops.size
  closed : ∀ j oj, ops[j]? = some oj → listed.getD j false = true → ∀ e ∈ oj.after, Region.binds md e = true → listed.getD e.on false = true
  pi : ∀ i ∈ π, listed.getD i false = true
  tail : ∀ t ∈ τ, listed.getD t true = false

theorem HeadG.set {i : Nat} {π τ : List Nat} {listed : Array Bool} (inv : HeadG md ops π τ listed) (hi : i ∈ Region.ready md ops listed) (hin : i ∉ τ) : HeadG md ops π τ (listed.setIfInBounds i true) := by
  obtain ⟨_, oi, hoi, hall⟩ := mem_ready.1 hi
  refine ⟨by simp [inv.size], fun j oj hj hl e he hb => ?_, fun k hk => getD_set_true (inv.pi k hk), fun t ht => by rw [getD_set_ne true (fun e => hin (by rw [e]; exact ht))]; exact inv.tail t ht⟩
  by_cases hij : i = j
  · subst hij
    have : oj = oi := Option.some.inj (hj.symm.trans hoi)
    subst this
    exact getD_set_true (hall e he hb)
  · rw [getD_set_ne false hij] at hl
    exact getD_set_true (inv.closed j oj hj hl e he hb)

theorem chain_pred : ∀ {τ : List Nat} {n t : Nat}, chainL md ops (n :: τ) = true → t ∈ τ → ∃ a ∈ n :: τ, Region.waitsFor md ops t a = true
  | [], _, _, _, ht => by cases ht
  | b :: r, n, t, h, ht => by
    simp only [chainL, Bool.and_eq_true] at h
    rcases List.mem_cons.1 ht with rfl | ht
    · exact ⟨n, by simp, h.1⟩
    · obtain ⟨a, ha, h2⟩ := chain_pred h.2 ht
      exact ⟨a, by simp at ha ⊢; exact .inr ha, h2⟩

theorem tail_waitsG {n : Nat} {π τ : List Nat} {listed : Array Bool} (hs : sinkL md ops π n = true) (hc : chainL md ops (n :: τ) = true) (hn : n < ops.size) (inv : HeadG md ops π (n :: τ) listed) :
    ∀ (d i : Nat), n - i = d → i < n → listed.getD i true = false → ∀ t ∈ n :: τ, t ∉ Region.ready md ops listed := by
  intro d
  induction d using Nat.strongRecOn with
  | _ d ih =>
    intro i hd hi hun t ht hr
    obtain ⟨_, ot, hot, hall⟩ := mem_ready.1 hr
    rcases List.mem_cons.1 ht with rfl | ht'
    · have h1 := List.all_eq_true.1 hs i (List.mem_range.2 hi)
      have hpi : i ∉ π := fun hp => by
        have := inv.pi i hp
        rw [getD_both hun] at this
        cases this
      simp only [Bool.or_eq_true, List.contains_iff_mem, hpi, false_or] at h1
      obtain ⟨j, hj, hj2⟩ := List.any_eq_true.1 h1
      simp only [Bool.and_eq_true, decide_eq_true_eq] at hj2
      obtain ⟨oj, hoj, e, he, hb, hon⟩ := Region.waitsFor_spec hj2.2
      have hjle : j ≤ t := by have := List.mem_range.1 hj; omega
      by_cases hjt : j = t
      · subst hjt
        have : oj = ot := Option.some.inj (hoj.symm.trans hot)
        subst this
        have h2 := hall e he hb
        rw [hon, getD_both hun] at h2
        cases h2
      · cases hl : listed.getD j false with
        | true =>
          have h2 := inv.closed j oj hoj hl e he hb
          rw [hon, getD_both hun] at h2
          cases h2
        | false =>
          have hjs : j < listed.size := by rw [inv.size]; omega
          exact ih (t - j) (by omega) j rfl (by omega) (getD_in hjs hl) t (by simp) hr
    · obtain ⟨a, ha, h1⟩ := chain_pred hc ht'
      obtain ⟨o', ho', e, he, hb, hon⟩ := Region.waitsFor_spec h1
      have : o' = ot := Option.some.inj (ho'.symm.trans hot)
      subst this
      have h2 := hall e he hb
      rw [hon, getD_both (inv.tail a ha)] at h2
      cases h2

theorem head_only {n : Nat} {π τ : List Nat} {listed : Array Bool} (hs : sinkL md ops π n = true) (hc : chainL md ops (n :: τ) = true) (hn : n < ops.size) (hcov : coverL ops π (n :: τ) n = true) (inv : HeadG md ops π (n :: τ) listed)
    {i : Nat} (hi : i < n) (hun : listed.getD i true = false) {j : Nat} (hj : j ∈ Region.ready md ops listed) : j < n ∧ j ∉ n :: τ := by
  have h1 : j ∉ n :: τ := fun h => tail_waitsG hs hc hn inv _ i rfl hi hun j h hj
  obtain ⟨hju, oj, hoj, _⟩ := mem_ready.1 hj
  have hlt := (Array.getElem?_eq_some_iff.1 hoj).1
  have h2 := List.all_eq_true.1 hcov j (List.mem_range.2 hlt)
  simp only [Bool.or_eq_true, decide_eq_true_eq, List.contains_iff_mem] at h2
  rcases h2 with (h2 | h2) | h2
  · exact ⟨h2, h1⟩
  · have := inv.pi j h2
    rw [getD_both hju] at this
    cases this
  · exact absurd h2 h1

theorem wpAnyL_firstG {n i : Nat} {π τ : List Nat} {oi : Oper} {v : Value} {L : Array Bool → Act → Prop} (hi : ops[i]? = some oi) (hsel : ∀ (j : Nat) (o : Oper) cs b, ops[j]? = some o → o.op ≠ .select cs b)
    (hs : sinkL md ops π n = true) (hc : chainL md ops (n :: τ) = true) (hn : n < ops.size) (hcov : coverL ops π (n :: τ) n = true) (hin : i < n)
    (hdone : ∀ listed a, L listed a → ∀ j ∈ Region.ready md ops listed, n ≤ j) :
    ∀ (f : Nat) (listed : Array Bool) (a : Act), HeadG md ops π (n :: τ) listed →
      (∀ j oj, ops[j]? = some oj → j ≠ i → listed.getD j true = false → (∀ e ∈ oj.after, Region.binds md e = true → e.on ≠ i) → oi.apart ops oj = true) →
      i ∈ Region.ready md ops listed → YieldsAt P ops w oi v a →
      wpAnyL P md ops w n L f (listed.setIfInBounds i true) (a.put oi.dst v) → wpAnyL P md ops w n L (f + 1) listed a := by
  intro f
  induction f with
  | zero =>
    intro listed a inv _ hr hy H
    have hun := (mem_ready.1 hr).1
    refine ⟨fun h => (by rw [h] at hr; cases hr), fun j hj => ?_⟩
    have hjn := (head_only hs hc hn hcov inv hin hun hj).1
    refine ⟨hjn, ?_⟩
    by_cases hji : j = i
    · subst hji; exact hy.stOp hi H
    · have := hdone _ _ H j (ready_mono hj hji)
      omega
  | succ f ih =>
    intro listed a inv hfree hr hy H
    have hun := (mem_ready.1 hr).1
    refine ⟨fun h => (by rw [h] at hr; cases hr), fun j hj => ?_⟩
    obtain ⟨hjn, hjt⟩ := head_only hs hc hn hcov inv hin hun hj
    refine ⟨hjn, ?_⟩
    by_cases hji : j = i
    · subst hji; exact hy.stOp hi H
    · have h1 := (H.2 j (ready_mono hj hji)).2
      obtain ⟨hjun, oj, hoj, hall⟩ := mem_ready.1 hj
      have hnot : ∀ e ∈ oj.after, Region.binds md e = true → e.on ≠ i := fun e he hb heq => by
        have h1 := hall e he hb
        rw [heq, getD_both hun] at h1
        cases h1
      have h2 := stOp_put hoj (hfree j oj hoj hji hjun hnot) (fun cs b => hsel i oi cs b hi) (fun cs b => hsel j oj cs b hoj) hy h1
      have hfree' : ∀ k ok, ops[k]? = some ok → k ≠ i → (listed.setIfInBounds j true).getD k true = false →
          (∀ e ∈ ok.after, Region.binds md e = true → e.on ≠ i) → oi.apart ops ok = true := fun k ok hk hki hun hno => by
        refine hfree k ok hk hki ?_ hno
        by_cases hjk : j = k
        · subst hjk; exact hjun
        · rw [getD_set_ne true hjk] at hun; exact hun
      refine stOp_mono (fun a' h3 => ih (listed.setIfInBounds j true) a' (inv.set hj hjt) hfree' (ready_mono hr (Ne.symm hji)) h3.1 ?_) h2
      rw [Array.setIfInBounds_comm _ _ hji]
      exact h3.2

def seqG (md : Region.Mode) (ops : Array Oper) : List Nat → Array Bool → Bool
  | [], listed => (Region.ready md ops listed).isEmpty
  | k :: τ, listed => decide (Region.ready md ops listed = [k]) && seqG md ops τ (listed.setIfInBounds k true)

theorem wpAny_of_seqG {l : List Oper} (hl : l.toArray = ops) {Q' : Exit → Act → World → Prop} : ∀ (τ : List Nat) (listed : Array Bool) (a : Act) (w : World),
    seqG md ops τ listed = true → wpList P ops Q' (pickL l τ) a w → wpAny P md ops Q' τ.length listed a w
  | [], _, _, _, hB, h => ⟨by simpa [seqG] using hB, h⟩
  | k :: τ, listed, a, w, hB, h => by
    simp only [seqG, Bool.and_eq_true, decide_eq_true_eq] at hB
    obtain ⟨o, ho⟩ := ready_get (md := md) (ops := ops) (listed := listed) (i := k) (by rw [hB.1]; simp)
    have ho' : l[k]? = some o := by rw [← hl] at ho; simpa using ho
    rw [pickL_cons τ ho'] at h
    refine ⟨fun h1 => (by rw [hB.1] at h1; cases h1), fun i hi => ?_⟩
    rw [hB.1] at hi
    have hik : i = k := by simpa using hi
    subst hik
    have hw : wpOp P ops Q' i (wpList P ops Q' (pickL l τ)) a w := by unfold wpOp; simp only [ho]; exact h
    exact wpOp_mono (fun a' w' h' => wpAny_of_seqG hl τ _ a' w' hB.2 h') hw

def lexG (md : Region.Mode) (ops : Array Oper) (τ : List Nat) : List Nat → Array Bool → Bool
  | [], listed => seqG md ops τ listed
  | k :: σ, listed => (Region.ready md ops listed).contains k && Region.free md ops listed k && lexG md ops τ σ (listed.setIfInBounds k true)

theorem seqG_ready {n : Nat} {τ : List Nat} {listed : Array Bool} (h : seqG md ops (n :: τ) listed = true) : ∀ j ∈ Region.ready md ops listed, n ≤ j := by
  intro j hj
  simp only [seqG, Bool.and_eq_true, decide_eq_true_eq] at h
  rw [h.1] at hj
  have : j = n := by simpa using hj
  omega

theorem wpAnyL_lexG {n : Nat} {π τ : List Nat} {l : List Oper} (hl : l.toArray = ops) {Lq : Act → Prop} (hsel : Region.noSelect ops = true) (hs : sinkL md ops π n = true) (hc : chainL md ops (n :: τ) = true) (hn : n < ops.size) (hcov : coverL ops π (n :: τ) n = true) (hnt : (n :: τ).all (fun t => decide (n ≤ t)) = true) :
    ∀ (σ : List Nat) (listed : Array Bool) (a : Act), σ.all (fun i => decide (i < n)) = true → HeadG md ops π (n :: τ) listed →
    lexG md ops (n :: τ) σ listed = true → wpStill P ops w Lq (pickL l σ) a →
    wpAnyL P md ops w n (fun listed' a' => seqG md ops (n :: τ) listed' = true ∧ Lq a') σ.length listed a
  | [], listed, a, _, _, hB, h => ⟨by simpa [lexG] using hB, h⟩
  | k :: σ, listed, a, hlt, inv, hB, h => by
    simp only [lexG, Bool.and_eq_true] at hB
    obtain ⟨⟨hr, hf⟩, hB'⟩ := hB
    simp only [List.all_cons, Bool.and_eq_true, decide_eq_true_eq] at hlt
    obtain ⟨o, h0⟩ := ready_get hr
    have ho' : l[k]? = some o := by rw [← hl] at h0; simpa using h0
    rw [pickL_cons σ ho'] at h
    have hr' : k ∈ Region.ready md ops listed := by simpa using hr
    have hst : stOp P ops w k (wpStill P ops w Lq (pickL l σ)) a := by unfold stOp; simp only [h0]; exact h
    obtain ⟨v, hy, hK⟩ := yieldsAt_of_stOp h0 hst
    have hkt : k ∉ n :: τ := fun hm => by
      have := List.all_eq_true.1 hnt k hm
      simp at this; omega
    exact wpAnyL_firstG h0 (Region.noSelect_spec hsel) hs hc hn hcov hlt.1 (fun listed' a' hL => seqG_ready hL.1) σ.length listed a inv (Region.free_spec h0 hf) hr' hy
      (wpAnyL_lexG hl hsel hs hc hn hcov hnt σ _ _ hlt.2 (inv.set hr' hkt) hB' hK)

def mixB (md : Region.Mode) (ops : Array Oper) (π σ : List Nat) (n : Nat) (τ : List Nat) : Bool :=
  Region.noSelect ops && (takesB md ops π (Array.replicate ops.size false) && (closedB md ops (listAll π (Array.replicate ops.size false)) && (decide ((listAll π (Array.replicate ops.size false)).size = ops.size) &&
    (π.all (fun i => (listAll π (Array.replicate ops.size false)).getD i false) && ((n :: τ).all (fun t => !(listAll π (Array.replicate ops.size false)).getD t true) &&
    (sinkL md ops π n && (chainL md ops (n :: τ) && (decide (n < ops.size) && (coverL ops π (n :: τ) n && ((n :: τ).all (fun t => decide (n ≤ t)) && (σ.all (fun i => decide (i < n)) &&
    (lexG md ops (n :: τ) σ (listAll π (Array.replicate ops.size false)) && decide (π.length + (σ.length + (τ.length + 1)) = ops.size)))))))))))))

/-- The law. -/
theorem wp_region_mix {id : Nat} {Q : Exit → Act → World → Prop} {a : Act} {l : List Oper} (π σ : List Nat) (n : Nat) (τ : List Nat) (hm : P.follows .mixedOrders = true) (hB : mixB .any l.toArray π σ n τ = true)
    (hQ : ∀ c a (d : Option Tmp) v w, Q (.panic c) (a.put d v) w → Q (.panic c) a w)
    (h : wpPure P l.toArray (fun a' => wpStill P l.toArray w.drew (fun a'' => wpList P l.toArray Q (pickL l (n :: τ)) a'' w.drew) (pickL l σ) a') (pickL l π) a) : (Code.region id l.toArray true).wp P Q a w := by
  simp only [mixB, Bool.and_eq_true, decide_eq_true_eq] at hB
  obtain ⟨b1, b2, b3, b4, b5, b6, b7, b8, b9, b10, b11, b12, b13, b14⟩ := hB
  refine wp_region_any hm ?_
  have inv : HeadG .any l.toArray π (n :: τ) (listAll π (Array.replicate l.toArray.size false)) := by
    refine ⟨b4, fun j oj hj hl e he hb => ?_, fun i hi => ?_, fun t ht => ?_⟩
    · have h1 := List.all_eq_true.1 b3 j (List.mem_range.2 (Array.getElem?_eq_some_iff.1 hj).1)
      rw [hl, hj] at h1
      simp only [Bool.not_true, Bool.false_or] at h1
      have := Array.all_eq_true_iff_forall_mem.1 h1 e he
      simpa [hb] using this
    · exact List.all_eq_true.1 b5 i hi
    · have := List.all_eq_true.1 b6 t ht
      simpa using this
  have key := wpAny_pure (md := .any) (Q := Q) (w := w.drew) (g := σ.length + (τ.length + 1)) rfl b1 hQ π (Array.replicate l.toArray.size false) a b2 h (fun a' hK => by
    have H := wpAnyL_lexG (md := .any) (P := P) (w := w.drew) (l := l) rfl b1 b7 b8 b9 b10 b11 σ _ a' b12 inv b13 hK
    exact wpAny_of_head (Q' := Q) (g := τ.length + 1) (fun listed a' hL => wpAny_of_seqG rfl (n :: τ) listed a' w.drew hL.1 hL.2) _ _ _ H)
  rw [b14] at key
  exact key

end

section
variable {P : Program} {ops : Array Oper} {md : Region.Mode}

def Closed (md : Region.Mode) (ops : Array Oper) (listed : Array Bool) : Prop :=
  ∀ j oj, ops[j]? = some oj → listed.getD j false = true → ∀ e ∈ oj.after, Region.binds md e = true → listed.getD e.on false = true
theorem Closed.set {i : Nat} {listed : Array Bool} (h : Closed md ops listed) (hi : i ∈ Region.ready md ops listed) : Closed md ops (listed.setIfInBounds i true) := by
  obtain ⟨_, oi, hoi, hall⟩ := mem_ready.1 hi
  intro j oj hj hl e he hb
  by_cases hij : i = j
  · subst hij
    have : oj = oi := Option.some.inj (hj.symm.trans hoi)
    subst this
    exact getD_set_true (hall e he hb)
  · rw [getD_set_ne false hij] at hl
    exact getD_set_true (h j oj hj hl e he hb)

/-- Till operation number s is done, S holds. -/
def Till (s : Nat) (S : World → Prop) (listed : Array Bool) (w : World) : Prop := listed.getD s false = true ∨ S w
theorem Till.mono {s i : Nat} {S : World → Prop} {listed : Array Bool} {w : World} (h : Till s S listed w) : Till s S (listed.setIfInBounds i true) w := h.imp getD_set_true id
theorem Till.back {s i : Nat} {S : World → Prop} {listed : Array Bool} {w : World} (hne : i ≠ s) (h : Till s S (listed.setIfInBounds i true) w) : Till s S listed w := by
  rcases h with h | h
  · rw [getD_set_ne false hne] at h; exact .inl h
  · exact .inr h

def wpAnyR (P : Program) (md : Region.Mode) (ops : Array Oper) (Q : Exit → Act → World → Prop) (s : Nat) (S : World → Prop) : Nat → Array Bool → Act → World → Prop
  | 0, listed, a, w => Region.ready md ops listed = [] ∧ Q .normal a w
  | fuel + 1, listed, a, w =>
    (Region.ready md ops listed = [] → Q .normal a w) ∧
    ∀ i ∈ Region.ready md ops listed, wpOp P ops Q i (fun a' w' => Till s S (listed.setIfInBounds i true) w' ∧ wpAnyR P md ops Q s S fuel (listed.setIfInBounds i true) a' w') a w

theorem wpAny_of_R {Q : Exit → Act → World → Prop} {s : Nat} {S : World → Prop} : ∀ (fuel : Nat) (listed : Array Bool) (a : Act) (w : World), wpAnyR P md ops Q s S fuel listed a w → wpAny P md ops Q fuel listed a w
  | 0, _, _, _, h => h
  | fuel + 1, _, _, _, h => ⟨h.1, fun i hi => wpOp_mono (fun a' w' h' => wpAny_of_R fuel _ a' w' h'.2) (h.2 i hi)⟩
theorem wpAnyR_of_done {Q : Exit → Act → World → Prop} {s : Nat} {S : World → Prop} : ∀ (fuel : Nat) (listed : Array Bool) (a : Act) (w : World), listed.getD s false = true → wpAny P md ops Q fuel listed a w → wpAnyR P md ops Q s S fuel listed a w
  | 0, _, _, _, _, h => h
  | fuel + 1, _, _, _, hs, h => ⟨h.1, fun i hi => wpOp_mono (fun a' w' h' => ⟨.inl (getD_set_true hs), wpAnyR_of_done fuel _ a' w' (getD_set_true hs) h'⟩) (h.2 i hi)⟩

theorem wpAnyR_first {Q : Exit → Act → World → Prop} {s : Nat} {S S0 : World → Prop} {i : Nat} {oi : Oper} {v : Value} (hi : ops[i]? = some oi) (hsel : ∀ (j : Nat) (o : Oper) cs b, ops[j]? = some o → o.op ≠ .select cs b)
    (hQ : ∀ c a w, Q (.panic c) (a.put oi.dst v) w → Q (.panic c) a w) (hne : i ≠ s)
    (hSR : ∀ listed w, Closed md ops listed → listed.getD i true = false → Till s S listed w → S0 w) :
    ∀ (fuel : Nat) (listed : Array Bool) (a : Act) (w : World),
      (∀ j oj, ops[j]? = some oj → j ≠ i → listed.getD j true = false → (∀ e ∈ oj.after, Region.binds md e = true → e.on ≠ i) → oi.apart ops oj = true) →
      Closed md ops listed → i ∈ Region.ready md ops listed → YieldsIf P ops S0 oi v a → Till s S listed w →
      wpAnyR P md ops Q s S fuel (listed.setIfInBounds i true) (a.put oi.dst v) w → wpAnyR P md ops Q s S (fuel + 1) listed a w := by
  intro fuel
  induction fuel with
  | zero =>
    intro listed a w _ hcl hr hy hS H
    have hun := (mem_ready.1 hr).1
    refine ⟨fun h => (by rw [h] at hr; cases hr), fun j hj => ?_⟩
    by_cases hji : j = i
    · subst hji; exact hy.wpOp hi (hSR _ _ hcl hun hS) ⟨hS.mono, H⟩
    · have := ready_mono hj hji
      rw [H.1] at this
      cases this
  | succ fuel ih =>
    intro listed a w hfree hcl hr hy hS H
    have hun := (mem_ready.1 hr).1
    refine ⟨fun h => (by rw [h] at hr; cases hr), fun j hj => ?_⟩
    by_cases hji : j = i
    · subst hji; exact hy.wpOp hi (hSR _ _ hcl hun hS) ⟨hS.mono, H⟩
    · have h1 := H.2 j (ready_mono hj hji)
      obtain ⟨hjun, oj, hoj, hall⟩ := mem_ready.1 hj
      have hnot : ∀ e ∈ oj.after, Region.binds md e = true → e.on ≠ i := fun e he hb heq => by
        have h1 := hall e he hb
        rw [heq, getD_both hun] at h1
        cases h1
      have h2 := wpOp_putIf hoj (hfree j oj hoj hji hjun hnot) (fun cs b => hsel i oi cs b hi) (fun cs b => hsel j oj cs b hoj) hQ hy h1
      have hfree' : ∀ k ok, ops[k]? = some ok → k ≠ i → (listed.setIfInBounds j true).getD k true = false →
          (∀ e ∈ ok.after, Region.binds md e = true → e.on ≠ i) → oi.apart ops ok = true := fun k ok hk hki hun hno => by
        refine hfree k ok hk hki ?_ hno
        by_cases hjk : j = k
        · subst hjk; exact hjun
        · rw [getD_set_ne true hjk] at hun; exact hun
      refine wpOp_mono (fun a' w' h3 => ?_) h2
      have hcomm : (listed.setIfInBounds i true).setIfInBounds j true = (listed.setIfInBounds j true).setIfInBounds i true := Array.setIfInBounds_comm _ _ (Ne.symm hji)
      have h4 := h3.2.1
      rw [hcomm] at h4
      have h5 := h4.back hne
      refine ⟨h5, ih (listed.setIfInBounds j true) a' w' hfree' (hcl.set hj) (ready_mono hr (Ne.symm hji)) h3.1 h5 ?_⟩
      rw [← hcomm]
      exact h3.2.2

theorem wpAnyR_pure {Q : Exit → Act → World → Prop} {s : Nat} {S : World → Prop} {w : World} {l : List Oper} (hl : l.toArray = ops) (hsel : Region.noSelect ops = true) (hQ : ∀ c a (d : Option Tmp) v w, Q (.panic c) (a.put d v) w → Q (.panic c) a w) {K : Act → Prop} {g : Nat} (hS : S w) :
    ∀ (π : List Nat) (listed : Array Bool) (a : Act), s ∉ π → Closed md ops listed → takesB md ops π listed = true → wpPure P ops K (pickL l π) a → (∀ a', Closed md ops (listAll π listed) → K a' → wpAnyR P md ops Q s S g (listAll π listed) a' w) → wpAnyR P md ops Q s S (π.length + g) listed a w
  | [], listed, a, _, hcl, _, h, hK => by simpa [listAll] using hK a hcl h
  | i :: r, listed, a, hs, hcl, hB, h, hK => by
    simp only [takesB, Bool.and_eq_true] at hB
    obtain ⟨⟨hr, hf⟩, hB'⟩ := hB
    obtain ⟨o, ho⟩ := ready_get hr
    have ho' : l[i]? = some o := by rw [← hl] at ho; simpa using ho
    rw [pickL_cons r ho'] at h
    obtain ⟨v, hy, h2⟩ := h
    have hr' : i ∈ Region.ready md ops listed := by simpa using hr
    have hy' : YieldsIf P ops (fun _ => True) o v a := hy.yieldsIf
    rw [List.length_cons, show r.length + 1 + g = (r.length + g) + 1 by omega]
    exact wpAnyR_first (S0 := fun _ => True) ho (Region.noSelect_spec hsel) (fun c a w => hQ c a o.dst v w) (fun e => hs (by simp [e])) (fun _ _ _ _ _ => trivial) _ listed a w (Region.free_spec ho hf) hcl hr' hy' (.inr hS)
      (wpAnyR_pure hl hsel hQ hS r _ _ (fun h => hs (by simp [h])) (hcl.set hr') hB' h2 hK)

theorem wpAnyR_of_head {w : World} {n g s : Nat} {S : World → Prop} {L : Array Bool → Act → Prop} {Q' : Exit → Act → World → Prop} (hS : S w) (hL : ∀ listed a, L listed a → wpAnyR P md ops Q' s S g listed a w) :
    ∀ (f : Nat) (listed : Array Bool) (a : Act), wpAnyL P md ops w n L f listed a → wpAnyR P md ops Q' s S (f + g) listed a w
  | 0, listed, a, h => by rw [Nat.zero_add]; exact hL _ _ h
  | f + 1, listed, a, h => by
    rw [show f + 1 + g = (f + g) + 1 by omega]
    exact ⟨fun h0 => absurd h0 h.1, fun i hi => wpOp_of_stOp (fun a' h' => ⟨.inr hS, wpAnyR_of_head hS hL f _ a' h'⟩) (h.2 i hi).2⟩

/-- A run that leaves the world as it is, or stops. -/
def Same (P : Program) {α : Type} (x : Sem α) : Prop := ∀ w, (∃ v, x.run P w = .ok v w) ∨ ∃ h, x.run P w = .halt h w
theorem same_underlying (t : TypeId) : Same P (underlying t) := fun w => by
  simp only [underlying, program, Sem.run_bind]
  simp only [Sem.run]
  simp only [Result.andThen_ok]
  cases P.underlying t <;> simp [stuck, Sem.run]
theorem same_typeInfo (t : TypeId) : Same P (typeInfo t) := fun w => by
  simp only [typeInfo, program, Sem.run_bind]
  simp only [Sem.run]
  simp only [Result.andThen_ok]
  cases P.info? t <;> simp [stuck, Sem.run]
theorem same_sizeOf (t : TypeId) : Same P (sizeOf t) := fun w => by
  simp only [sizeOf, Sem.run_bind]
  rcases same_typeInfo (P := P) t w with ⟨v, h⟩ | ⟨h', h⟩ <;> simp [h]
theorem same_zeroValue (t : TypeId) : Same P (zeroValue t) := fun w => by
  simp only [zeroValue, Sem.run_bind]
  rcases same_typeInfo (P := P) t w with ⟨v, h⟩ | ⟨h', h⟩
  · rw [h]; simp only [Result.andThen_ok]
    cases v.zero <;> simp [unsupported, Sem.run]
  · simp [h]
theorem buildSlice_world (t : TypeId) (len : Nat) (parts : Array (Nat × Value)) (w : World) : (∃ v o, (Instr.buildSlice t len parts).run P w = .ok v (w.alloc o)) ∨ ∃ h, (Instr.buildSlice t len parts).run P w = .halt h w := by
  unfold Instr.buildSlice
  rw [Sem.run_bind]
  rcases same_underlying (P := P) t w with ⟨d, h⟩ | ⟨h', h⟩
  · rw [h]; simp only [Result.andThen_ok]
    cases d <;> try exact .inr ⟨_, rfl⟩
    rename_i e
    simp only [Sem.run_bind]
    rcases same_sizeOf (P := P) e w with ⟨sz, h2⟩ | ⟨h', h2⟩
    · rw [h2]; simp only [Result.andThen_ok]
      split
      · simp only [unsupported, Sem.run, Result.andThen_halt]; exact .inr ⟨_, rfl⟩
      · split
        · simp only [Sem.run_bind, Sem.run_pure, Result.andThen_ok]
          split
          · simp only [newRow, Sem.run_bind, run_newObj, Result.andThen_ok, Sem.run_pure]; exact .inl ⟨_, _, rfl⟩
          · exact .inr ⟨_, rfl⟩
        · simp only [Sem.run_bind]
          rcases same_zeroValue (P := P) e w with ⟨z, h3⟩ | ⟨h', h3⟩
          · rw [h3]; simp only [Result.andThen_ok, Sem.run_pure]
            split
            · simp only [newRow, Sem.run_bind, run_newObj, Result.andThen_ok, Sem.run_pure]; exact .inl ⟨_, _, rfl⟩
            · exact .inr ⟨_, rfl⟩
          · exact .inr ⟨h', by rw [h3]; rfl⟩
    · exact .inr ⟨h', by rw [h2]; rfl⟩
  · exact .inr ⟨h', by rw [h]; rfl⟩

theorem buildSlice_wp {o : Oper} {t : TypeId} {len : Nat} {parts : Array (Nat × Operand)} (ho : o.op = .buildSlice t len parts) {a : Act} {w : World} {K : Act → World → Prop} {Q : Exit → Act → World → Prop} (h : o.wp P a w K Q) :
    o.wp P a w (fun a' w' => (∃ o, w' = w.alloc o) ∧ K a' w') Q := by
  unfold Oper.wp at *
  have e : execOp a.eval o = (do let x ← Instr.buildSlice t len (parts.map fun (i, x) => (i, a.eval x)); pure (.value x)) := by
    unfold execOp; rw [ho]
  rw [e, Sem.run_bind] at h ⊢
  rcases buildSlice_world (P := P) t len (parts.map fun (i, x) => (i, a.eval x)) w with ⟨v, b, hr⟩ | ⟨hh, hr⟩
  · rw [hr] at h ⊢
    simp only [Result.andThen_ok, Sem.run_pure, Oper.upon] at h ⊢
    exact ⟨⟨b, rfl⟩, h⟩
  · rw [hr] at h ⊢
    simp only [Result.andThen_halt] at h ⊢
    cases hh <;> first | exact h | simpa [Oper.upon] using h

theorem takesB_append (π σ : List Nat) : ∀ listed : Array Bool, takesB md ops (π ++ σ) listed = (takesB md ops π listed && takesB md ops σ (listAll π listed)) := by
  induction π with
  | nil => intro listed; simp [takesB, listAll]
  | cons i r ih => intro listed; simp [takesB, listAll, ih, Bool.and_assoc]
theorem listAll_append (π σ : List Nat) : ∀ listed : Array Bool, listAll (π ++ σ) listed = listAll σ (listAll π listed) := by
  induction π with
  | nil => intro listed; simp [listAll]
  | cons i r ih => intro listed; simp [listAll, ih]

def appB (md : Region.Mode) (ops : Array Oper) (π : List Nat) (ld : Nat) (σ : List Nat) (n s : Nat) (τ : List Nat) : Bool :=
  mixB md ops (π ++ [ld]) σ n (s :: τ) && (Region.waitsFor md ops s ld && (!π.contains s && (decide (ld ≠ s) && match ops[n]? with
    | some o => o.guard.isNone && (match o.op with | .buildSlice .. => true | _ => false)
    | none => false)))

/-- The law on a region that ends in an append of a new element, and a store. -/
theorem wp_region_app {id : Nat} {Q : Exit → Act → World → Prop} {a : Act} {w : World} {l : List Oper} (π : List Nat) (ld : Nat) (σ : List Nat) (n s : Nat) (τ : List Nat) (hm : P.follows .mixedOrders = true) (hB : appB .any l.toArray π ld σ n s τ = true)
    (hQ : ∀ c a (d : Option Tmp) v w, Q (.panic c) (a.put d v) w → Q (.panic c) a w)
    (h : wpPure P l.toArray (fun a' => ∃ ol v, l[ld]? = some ol ∧ (Region.wanted ol (yielded l.toArray a'.tmps) = true ∧ (execOp a'.eval ol).run P w.drew = .ok (.value v) w.drew ∧ ∀ o, (execOp a'.eval ol).run P (w.drew.alloc o) = .ok (.value v) (w.drew.alloc o)) ∧
      wpStill P l.toArray w.drew (fun a'' => wpList P l.toArray Q (pickL l (n :: s :: τ)) a'' w.drew) (pickL l σ) (a'.put ol.dst v)) (pickL l π) a) : (Code.region id l.toArray true).wp P Q a w := by
  simp only [appB, mixB, Bool.and_eq_true, decide_eq_true_eq] at hB
  obtain ⟨⟨b1, b2, b3, b4, b5, b6, b7, b8, b9, b10, b11, b12, b13, b14⟩, c1, c2, c3, c4⟩ := hB
  rw [takesB_append, Bool.and_eq_true] at b2
  obtain ⟨b2, b2'⟩ := b2
  simp only [listAll_append] at b3 b4 b5 b6 b13
  refine wp_region_any hm (wpAny_of_R (s := s) (S := fun w' => w' = w.drew ∨ ∃ o, w' = w.drew.alloc o) _ _ _ _ ?_)
  have hcl0 : Closed .any l.toArray (Array.replicate l.toArray.size false) := fun j oj _ hl => by rw [getD_replicate_false] at hl; cases hl
  have hs0 : s ∉ π := by
    simp only [Bool.not_eq_true'] at c2
    intro hm
    have := List.contains_iff_mem.2 hm
    rw [this] at c2; cases c2
  have key := wpAnyR_pure (md := .any) (P := P) (Q := Q) (s := s) (S := fun w' => w' = w.drew ∨ ∃ o, w' = w.drew.alloc o) (w := w.drew) (g := (σ.length + (τ.length + 1 + 1)) + 1) rfl b1 hQ (.inl rfl) π (Array.replicate l.toArray.size false) a hs0 hcl0 b2 h ?_
  · simp only [List.length_append, List.length_cons, List.length_nil] at b14
    rw [show π.length + ((σ.length + (τ.length + 1 + 1)) + 1) = l.toArray.size by omega] at key
    exact key
  · rintro a' hcl ⟨ol, v, hol, ⟨hw, h1, h2⟩, hst⟩
    simp only [takesB, Bool.and_true, Bool.and_eq_true] at b2'
    have hol' : l.toArray[ld]? = some ol := by simpa using hol
    have hr' : ld ∈ Region.ready .any l.toArray (listAll π (Array.replicate l.toArray.size false)) := by simpa using b2'.1
    obtain ⟨os, hos, e, he, hb, hon⟩ := Region.waitsFor_spec c1
    refine wpAnyR_first (S0 := fun w' => w' = w.drew ∨ ∃ o, w' = w.drew.alloc o) hol' (Region.noSelect_spec b1) (fun c a w => hQ c a ol.dst v w) c3 ?_ _ _ a' w.drew (Region.free_spec hol' b2'.2) hcl hr'
      (.inl ⟨hw, fun w' hw' => (hw'.elim (fun e => by rw [e]; exact h1) fun ⟨o, e⟩ => by rw [e]; exact h2 o)⟩) (.inr (.inl rfl)) ?_
    · intro listed w' hcl' hun hT
      rcases hT with hT | hT
      · have := hcl' s os hos hT e he hb
        rw [hon, getD_both hun] at this; cases this
      · exact hT
    · simp only [listAll] at b3 b4 b5 b6 b13
      have inv : HeadG .any l.toArray (π ++ [ld]) (n :: s :: τ) ((listAll π (Array.replicate l.toArray.size false)).setIfInBounds ld true) := by
        refine ⟨b4, hcl.set hr', fun i hi => ?_, fun t ht => ?_⟩
        · exact List.all_eq_true.1 b5 i hi
        · have := List.all_eq_true.1 b6 t ht
          simpa using this
      have H := wpAnyL_lexG (md := .any) (P := P) (w := w.drew) (l := l) rfl b1 b7 b8 b9 b10 b11 σ _ _ b12 inv b13 hst
      refine wpAnyR_of_head (s := s) (S := fun w' => w' = w.drew ∨ ∃ o, w' = w.drew.alloc o) (g := τ.length + 1 + 1) (.inl rfl) (fun listed a'' hL => ?_) _ _ _ H
      obtain ⟨hseq, hwl⟩ := hL
      simp only [seqG, Bool.and_eq_true, decide_eq_true_eq] at hseq
      obtain ⟨r1, r2, r3⟩ := hseq
      cases hn : l.toArray[n]? with
      | none => rw [hn] at c4; cases c4
      | some o =>
        rw [hn] at c4
        simp only [Bool.and_eq_true] at c4
        have hn' : l[n]? = some o := by simpa using hn
        rw [pickL_cons _ hn'] at hwl
        have hg : o.guard = none := by simpa using c4.1
        have hwant : Region.wanted o (yielded l.toArray a''.tmps) = true := by simp [Region.wanted, hg]
        refine ⟨fun h0 => (by rw [r1] at h0; cases h0), fun i hi => ?_⟩
        rw [r1] at hi
        have hik : i = n := by simpa using hi
        subst hik
        simp only [wpList, hwant, if_true] at hwl
        unfold wpOp
        simp only [hn, hwant, if_true]
        rcases hwl with hwl | hwl
        · refine .inl ?_
          cases hop : o.op with
          | buildSlice t len parts =>
            refine Oper.wp_mono (fun a3 w3 h3 => ?_) (buildSlice_wp hop hwl)
            obtain ⟨⟨b, hb3⟩, h4⟩ := h3
            refine ⟨.inr (.inr ⟨b, hb3⟩), ?_⟩
            obtain ⟨o2, ho2⟩ := ready_get (md := .any) (ops := l.toArray) (listed := listed.setIfInBounds i true) (i := s) (by rw [r2]; simp)
            have ho2' : l[s]? = some o2 := by simpa using ho2
            rw [pickL_cons _ ho2'] at h4
            refine ⟨fun h0 => (by rw [r2] at h0; cases h0), fun k hk => ?_⟩
            rw [r2] at hk
            have hks : k = s := by simpa using hk
            subst hks
            have hw2 : wpOp P l.toArray Q k (wpList P l.toArray Q (pickL l τ)) a3 w3 := by unfold wpOp; simp only [ho2]; exact h4
            have hsz : k < (listed.setIfInBounds i true).size := by
              have hm := (mem_ready.1 (show k ∈ Region.ready .any l.toArray (listed.setIfInBounds i true) by rw [r2]; simp)).1
              rcases Nat.lt_or_ge k (listed.setIfInBounds i true).size with h' | h'
              · exact h'
              · simp [Array.getElem?_eq_none h'] at hm
            have hdone : ((listed.setIfInBounds i true).setIfInBounds k true).getD k false = true := by simp at hsz ⊢; first | done | simp [hsz]
            exact wpOp_mono (fun a4 w4 h5 => ⟨.inl hdone, wpAnyR_of_done _ _ _ _ hdone (wpAny_of_seqG rfl τ _ _ _ r3 h5)⟩) hw2
          | _ => rw [hop] at c4; simp at c4
        · exact .inr hwl

/-- Operations that yield in the world at hand and behind one new block. -/
def wpS (P : Program) (ops : Array Oper) (w : World) (K : Act → Prop) : List Oper → Act → Prop
  | [], a => K a
  | o :: r, a => ∃ v, (Region.wanted o (yielded ops a.tmps) = true ∧ (execOp a.eval o).run P w = .ok (.value v) w ∧ ∀ b, (execOp a.eval o).run P (w.alloc b) = .ok (.value v) (w.alloc b)) ∧ wpS P ops w K r (a.put o.dst v)

theorem alloc_world (t : TypeId) (w : World) : (∃ v o, (Instr.alloc t true (.tuple #[])).run P w = .ok v (w.alloc o)) ∨ ∃ h, (Instr.alloc t true (.tuple #[])).run P w = .halt h w := by
  unfold Instr.alloc
  rw [Sem.run_bind]
  rcases same_zeroValue (P := P) t w with ⟨z, h⟩ | ⟨h', h⟩
  · rw [h]
    simp only [Result.andThen_ok, newVar, newRow, Sem.run_bind, run_newObj, Sem.run_pure]
    exact .inl ⟨_, _, rfl⟩
  · exact .inr ⟨h', by rw [h]; rfl⟩
theorem alloc_wp {o : Oper} {t : TypeId} (ho : o.op = .alloc t) {a : Act} {w : World} {K : Act → World → Prop} {Q : Exit → Act → World → Prop} (h : o.wp P a w K Q) :
    o.wp P a w (fun a' w' => (∃ o, w' = w.alloc o) ∧ K a' w') Q := by
  unfold Oper.wp at *
  have e : execOp a.eval o = (do let x ← Instr.alloc t true (.tuple #[]); pure (.value x)) := by
    unfold execOp; rw [ho]
  rw [e, Sem.run_bind] at h ⊢
  rcases alloc_world (P := P) t w with ⟨v, b, hr⟩ | ⟨hh, hr⟩
  · rw [hr] at h ⊢
    simp only [Result.andThen_ok, Sem.run_pure, Oper.upon] at h ⊢
    exact ⟨⟨b, rfl⟩, h⟩
  · rw [hr] at h ⊢
    simp only [Result.andThen_halt] at h ⊢
    cases hh <;> first | exact h | simpa [Oper.upon] using h

theorem wpAnyR_S {Q : Exit → Act → World → Prop} {s : Nat} {w : World} {l : List Oper} (hl : l.toArray = ops) (hsel : Region.noSelect ops = true) (hQ : ∀ c a (d : Option Tmp) v w, Q (.panic c) (a.put d v) w → Q (.panic c) a w) {K : Act → Prop} {g : Nat} :
    ∀ (π : List Nat) (listed : Array Bool) (a : Act), π.all (fun i => Region.waitsFor md ops s i) = true → s ∉ π → Closed md ops listed → takesB md ops π listed = true → wpS P ops w K (pickL l π) a → (∀ a', Closed md ops (listAll π listed) → K a' → wpAnyR P md ops Q s (fun w' => w' = w ∨ ∃ o, w' = w.alloc o) g (listAll π listed) a' w) →
      wpAnyR P md ops Q s (fun w' => w' = w ∨ ∃ o, w' = w.alloc o) (π.length + g) listed a w
  | [], listed, a, _, _, hcl, _, h, hK => by simpa [listAll] using hK a hcl h
  | i :: r, listed, a, hw, hs, hcl, hB, h, hK => by
    simp only [takesB, Bool.and_eq_true] at hB
    simp only [List.all_cons, Bool.and_eq_true] at hw
    obtain ⟨⟨hr, hf⟩, hB'⟩ := hB
    obtain ⟨o, ho⟩ := ready_get hr
    have ho' : l[i]? = some o := by rw [← hl] at ho; simpa using ho
    rw [pickL_cons r ho'] at h
    obtain ⟨v, ⟨hwt, h1, h2⟩, h3⟩ := h
    have hr' : i ∈ Region.ready md ops listed := by simpa using hr
    obtain ⟨os, hos, e, he, hb, hon⟩ := Region.waitsFor_spec hw.1
    rw [List.length_cons, show r.length + 1 + g = (r.length + g) + 1 by omega]
    refine wpAnyR_first (S0 := fun w' => w' = w ∨ ∃ o, w' = w.alloc o) ho (Region.noSelect_spec hsel) (fun c a w => hQ c a o.dst v w) (fun e => hs (by simp [e])) ?_ _ listed a w (Region.free_spec ho hf) hcl hr'
      (.inl ⟨hwt, fun w' hw' => hw'.elim (fun e => by rw [e]; exact h1) fun ⟨o, e⟩ => by rw [e]; exact h2 o⟩) (.inr (.inl rfl))
      (wpAnyR_S hl hsel hQ r _ _ hw.2 (fun h => hs (by simp [h])) (hcl.set hr') hB' h3 hK)
    intro listed w' hcl' hun hT
    rcases hT with hT | hT
    · have := hcl' s os hos hT e he hb
      rw [hon, getD_both hun] at this; cases this
    · exact hT

def newB (md : Region.Mode) (ops : Array Oper) (π : List Nat) (n s : Nat) (τ : List Nat) : Bool :=
  Region.noSelect ops && (takesB md ops π (Array.replicate ops.size false) && (π.all (fun i => Region.waitsFor md ops s i) && (!π.contains s && (seqG md ops (n :: s :: τ) (listAll π (Array.replicate ops.size false)) &&
    (decide (π.length + (τ.length + 1 + 1) = ops.size) && match ops[n]? with
    | some o => o.guard.isNone && (match o.op with | .alloc .. => true | _ => false)
    | none => false)))))

/-- The law on a region that reads, makes one new variable whenever it likes, and then stores. -/
theorem wp_region_new {id : Nat} {Q : Exit → Act → World → Prop} {a : Act} {w : World} {l : List Oper} (π : List Nat) (n s : Nat) (τ : List Nat) (hm : P.follows .mixedOrders = true) (hB : newB .any l.toArray π n s τ = true)
    (hQ : ∀ c a (d : Option Tmp) v w, Q (.panic c) (a.put d v) w → Q (.panic c) a w)
    (h : wpS P l.toArray w.drew (fun a' => wpList P l.toArray Q (pickL l (n :: s :: τ)) a' w.drew) (pickL l π) a) : (Code.region id l.toArray true).wp P Q a w := by
  simp only [newB, Bool.and_eq_true, decide_eq_true_eq] at hB
  obtain ⟨b1, b2, b3, b4, b5, b6, b7⟩ := hB
  refine wp_region_any hm (wpAny_of_R (s := s) (S := fun w' => w' = w.drew ∨ ∃ o, w' = w.drew.alloc o) _ _ _ _ ?_)
  have hcl0 : Closed .any l.toArray (Array.replicate l.toArray.size false) := fun j oj _ hl => by rw [getD_replicate_false] at hl; cases hl
  have hs0 : s ∉ π := by
    simp only [Bool.not_eq_true'] at b4
    intro hm
    have := List.contains_iff_mem.2 hm
    rw [this] at b4; cases b4
  have key := wpAnyR_S (md := .any) (P := P) (Q := Q) (s := s) (w := w.drew) (g := τ.length + 1 + 1) rfl b1 hQ π (Array.replicate l.toArray.size false) a b3 hs0 hcl0 b2 h ?_
  · rw [b6] at key
    exact key
  · intro a'' hcl hwl
    simp only [seqG, Bool.and_eq_true, decide_eq_true_eq] at b5
    obtain ⟨r1, r2, r3⟩ := b5
    generalize listAll π (Array.replicate l.toArray.size false) = listed at *
    cases hn : l.toArray[n]? with
    | none => rw [hn] at b7; cases b7
    | some o =>
      rw [hn] at b7
      simp only [Bool.and_eq_true] at b7
      have hn' : l[n]? = some o := by simpa using hn
      rw [pickL_cons _ hn'] at hwl
      have hg : o.guard = none := by simpa using b7.1
      have hwant : Region.wanted o (yielded l.toArray a''.tmps) = true := by simp [Region.wanted, hg]
      refine ⟨fun h0 => (by rw [r1] at h0; cases h0), fun i hi => ?_⟩
      rw [r1] at hi
      have hik : i = n := by simpa using hi
      subst hik
      simp only [wpList, hwant, if_true] at hwl
      unfold wpOp
      simp only [hn, hwant, if_true]
      rcases hwl with hwl | hwl
      · refine .inl ?_
        cases hop : o.op with
        | alloc t =>
          refine Oper.wp_mono (fun a3 w3 h3 => ?_) (alloc_wp hop hwl)
          obtain ⟨⟨b, hb3⟩, h4⟩ := h3
          refine ⟨.inr (.inr ⟨b, hb3⟩), ?_⟩
          obtain ⟨o2, ho2⟩ := ready_get (md := .any) (ops := l.toArray) (listed := listed.setIfInBounds i true) (i := s) (by rw [r2]; simp)
          have ho2' : l[s]? = some o2 := by simpa using ho2
          rw [pickL_cons _ ho2'] at h4
          refine ⟨fun h0 => (by rw [r2] at h0; cases h0), fun k hk => ?_⟩
          rw [r2] at hk
          have hks : k = s := by simpa using hk
          subst hks
          have hw2 : wpOp P l.toArray Q k (wpList P l.toArray Q (pickL l τ)) a3 w3 := by unfold wpOp; simp only [ho2]; exact h4
          have hsz : k < (listed.setIfInBounds i true).size := by
            have hm := (mem_ready.1 (show k ∈ Region.ready .any l.toArray (listed.setIfInBounds i true) by rw [r2]; simp)).1
            rcases Nat.lt_or_ge k (listed.setIfInBounds i true).size with h' | h'
            · exact h'
            · simp [Array.getElem?_eq_none h'] at hm
          have hdone : ((listed.setIfInBounds i true).setIfInBounds k true).getD k false = true := by simp at hsz ⊢; first | done | simp [hsz]
          exact wpOp_mono (fun a4 w4 h5 => ⟨.inl hdone, wpAnyR_of_done _ _ _ _ hdone (wpAny_of_seqG rfl τ _ _ _ r3 h5)⟩) hw2
        | _ => rw [hop] at b7; simp at b7
      · exact .inr hwl
end
end Go.Proofs.YtlanodchnjojoaaDoor
