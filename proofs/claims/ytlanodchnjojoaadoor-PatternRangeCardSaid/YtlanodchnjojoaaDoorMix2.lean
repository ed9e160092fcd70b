/- A law on a region with two stores, of which the second one's reads may come behind the first one. -/
import Derived.Test.YtlanodchnjojoaaDoorMix
namespace Go.Proofs.YtlanodchnjojoaaDoor
open Go

section
variable {P : Program} {ops : Array Oper} {md : Region.Mode}

/-- Operations that yield in every world that meets S. -/
def wpSS (P : Program) (ops : Array Oper) (S : World → Prop) (K : Act → Prop) : List Oper → Act → Prop
  | [], a => K a
  | o :: r, a => ∃ v, (Region.wanted o (yielded ops a.tmps) = true ∧ ∀ w, S w → (execOp a.eval o).run P w = .ok (.value v) w) ∧ wpSS P ops S K r (a.put o.dst v)

theorem wpAnyR_SS {Q : Exit → Act → World → Prop} {s : Nat} {S : World → Prop} {w : World} {l : List Oper} (hl : l.toArray = ops) (hsel : Region.noSelect ops = true) (hQ : ∀ c a (d : Option Tmp) v w, Q (.panic c) (a.put d v) w → Q (.panic c) a w) {K : Act → Prop} {g : Nat} (hS : S w) :
    ∀ (π : List Nat) (listed : Array Bool) (a : Act), π.all (fun i => Region.waitsFor md ops s i) = true → s ∉ π → Closed md ops listed → takesB md ops π listed = true → wpSS P ops S K (pickL l π) a → (∀ a', Closed md ops (listAll π listed) → K a' → wpAnyR P md ops Q s S g (listAll π listed) a' w) →
      wpAnyR P md ops Q s S (π.length + g) listed a w
  | [], listed, a, _, _, hcl, _, h, hK => by simpa [listAll] using hK a hcl h
  | i :: r, listed, a, hw, hs, hcl, hB, h, hK => by
    simp only [takesB, Bool.and_eq_true] at hB
    simp only [List.all_cons, Bool.and_eq_true] at hw
    obtain ⟨⟨hr, hf⟩, hB'⟩ := hB
    obtain ⟨o, ho⟩ := ready_get hr
    have ho' : l[i]? = some o := by rw [← hl] at ho; simpa using ho
    rw [pickL_cons r ho'] at h
    obtain ⟨v, ⟨hwt, h1⟩, h3⟩ := h
    have hr' : i ∈ Region.ready md ops listed := by simpa using hr
    obtain ⟨os, hos, e, he, hb, hon⟩ := Region.waitsFor_spec hw.1
    rw [List.length_cons, show r.length + 1 + g = (r.length + g) + 1 by omega]
    refine wpAnyR_first (S0 := S) ho (Region.noSelect_spec hsel) (fun c a w => hQ c a o.dst v w) (fun e => hs (by simp [e])) ?_ _ listed a w (Region.free_spec ho hf) hcl hr' (.inl ⟨hwt, h1⟩) (.inr hS)
      (wpAnyR_SS hl hsel hQ hS r _ _ hw.2 (fun h => hs (by simp [h])) (hcl.set hr') hB' h3 hK)
    intro listed w' hcl' hun hT
    rcases hT with hT | hT
    · have := hcl' s os hos hT e he hb
      rw [hon, getD_both hun] at this; cases this
    · exact hT

/-- One operation, run by hand. -/
theorem wpAnyR_one {Q : Exit → Act → World → Prop} {s k : Nat} {S : World → Prop} {w w' : World} {listed : Array Bool} {a : Act} {g : Nat} {o : Oper} {x : Next} {v : Value} (hr : Region.ready md ops listed = [k]) (ho : ops[k]? = some o) (hg : o.guard = none)
    (hx : x = .value v ∨ (x = .skip ∧ v = undef)) (hrun : (execOp a.eval o).run P w = .ok x w') (hS : Till s S (listed.setIfInBounds k true) w') (h : wpAnyR P md ops Q s S g (listed.setIfInBounds k true) (a.put o.dst v) w') : wpAnyR P md ops Q s S (g + 1) listed a w := by
  refine ⟨fun h0 => (by rw [hr] at h0; cases h0), fun i hi => ?_⟩
  rw [hr] at hi
  have hik : i = k := by simpa using hi
  subst hik
  have hwant : Region.wanted o (yielded ops a.tmps) = true := by simp [Region.wanted, hg]
  unfold wpOp
  simp only [ho, hwant, if_true]
  refine .inl ?_
  unfold Oper.wp
  rw [hrun]
  rcases hx with rfl | ⟨rfl, rfl⟩
  · exact ⟨hS, h⟩
  · exact ⟨hS, h⟩

def twoB (md : Region.Mode) (ops : Array Oper) (π : List Nat) (n1 n2 n3 s : Nat) : Bool :=
  Region.noSelect ops && (takesB md ops π (Array.replicate ops.size false) && (π.all (fun i => Region.waitsFor md ops s i) && (!π.contains s && (seqG md ops [n1, n2, n3, s] (listAll π (Array.replicate ops.size false)) &&
    (decide (π.length + 4 = ops.size) && [n1, n2, n3, s].all fun n => match ops[n]? with
    | some o => o.guard.isNone
    | none => false)))))

theorem wp_region_two {id : Nat} {Q : Exit → Act → World → Prop} {a : Act} {w w1 : World} {l : List Oper} (π : List Nat) (n1 n2 n3 s : Nat) (hm : P.follows .mixedOrders = true) (hB : twoB .any l.toArray π n1 n2 n3 s = true)
    (hQ : ∀ c a (d : Option Tmp) v w, Q (.panic c) (a.put d v) w → Q (.panic c) a w)
    (h : wpSS P l.toArray (fun w' => w' = w.drew ∨ w' = w1) (fun a' => ∃ o1 o2 o3 v1 v3, l[n1]? = some o1 ∧ l[n2]? = some o2 ∧ l[n3]? = some o3 ∧ (execOp a'.eval o1).run P w.drew = .ok (.value v1) w.drew ∧ (execOp (a'.put o1.dst v1).eval o2).run P w.drew = .ok .skip w1 ∧
      (execOp ((a'.put o1.dst v1).put o2.dst undef).eval o3).run P w1 = .ok (.value v3) w1 ∧ wpList P l.toArray Q (pickL l [s]) (((a'.put o1.dst v1).put o2.dst undef).put o3.dst v3) w1) (pickL l π) a) : (Code.region id l.toArray true).wp P Q a w := by
  simp only [twoB, Bool.and_eq_true, decide_eq_true_eq] at hB
  obtain ⟨b1, b2, b3, b4, b5, b6, b7⟩ := hB
  refine wp_region_any hm (wpAny_of_R (s := s) (S := fun w' => w' = w.drew ∨ w' = w1) _ _ _ _ ?_)
  have hcl0 : Closed .any l.toArray (Array.replicate l.toArray.size false) := fun j oj _ hl => by rw [getD_replicate_false] at hl; cases hl
  have hs0 : s ∉ π := by
    simp only [Bool.not_eq_true'] at b4
    intro hm
    have := List.contains_iff_mem.2 hm
    rw [this] at b4; cases b4
  have key := wpAnyR_SS (md := .any) (P := P) (Q := Q) (s := s) (S := fun w' => w' = w.drew ∨ w' = w1) (w := w.drew) (g := 1 + 1 + 1 + 1) rfl b1 hQ (.inl rfl) π (Array.replicate l.toArray.size false) a b3 hs0 hcl0 b2 h ?_
  · rw [show π.length + (1 + 1 + 1 + 1) = l.toArray.size by omega] at key
    exact key
  · rintro a' hcl ⟨o1, o2, o3, v1, v3, h1, h2, h3, r1, r2, r3, h4⟩
    simp only [seqG, Bool.and_eq_true, decide_eq_true_eq] at b5
    obtain ⟨q1, q2, q3, q4, q5⟩ := b5
    simp only [List.all_cons, List.all_nil, Bool.and_true, Bool.and_eq_true] at b7
    have e1 : l.toArray[n1]? = some o1 := by simpa using h1
    have e2 : l.toArray[n2]? = some o2 := by simpa using h2
    have e3 : l.toArray[n3]? = some o3 := by simpa using h3
    rw [e1, e2, e3] at b7
    generalize listAll π (Array.replicate l.toArray.size false) = listed at *
    refine wpAnyR_one q1 e1 (by simpa using b7.1) (.inl rfl) r1 (.inr (.inl rfl)) ?_
    refine wpAnyR_one q2 e2 (by simpa using b7.2.1) (.inr ⟨rfl, rfl⟩) r2 (.inr (.inr rfl)) ?_
    refine wpAnyR_one q3 e3 (by simpa using b7.2.2.1) (.inl rfl) r3 (.inr (.inr rfl)) ?_
    obtain ⟨o4, e4⟩ := ready_get (md := .any) (ops := l.toArray) (i := s) (listed := ((listed.setIfInBounds n1 true).setIfInBounds n2 true).setIfInBounds n3 true) (by rw [q4]; simp)
    have e4' : l[s]? = some o4 := by simpa using e4
    rw [pickL_cons _ e4'] at h4
    refine ⟨fun h0 => (by rw [q4] at h0; cases h0), fun k hk => ?_⟩
    have hsz : s < (((listed.setIfInBounds n1 true).setIfInBounds n2 true).setIfInBounds n3 true).size := by
      have hm := (mem_ready.1 (show s ∈ Region.ready .any l.toArray (((listed.setIfInBounds n1 true).setIfInBounds n2 true).setIfInBounds n3 true) by rw [q4]; simp)).1
      rcases Nat.lt_or_ge s (((listed.setIfInBounds n1 true).setIfInBounds n2 true).setIfInBounds n3 true).size with h' | h'
      · exact h'
      · simp [Array.getElem?_eq_none h'] at hm
    rw [q4] at hk
    have hks : k = s := by simpa using hk
    subst hks
    have hw2 : wpOp P l.toArray Q k (wpList P l.toArray Q (pickL l [])) (((a'.put o1.dst v1).put o2.dst undef).put o3.dst v3) w1 := by unfold wpOp; simp only [e4]; exact h4
    have hdone : ((((listed.setIfInBounds n1 true).setIfInBounds n2 true).setIfInBounds n3 true).setIfInBounds k true).getD k false = true := by simp at hsz ⊢; first | done | simp [hsz]
    exact wpOp_mono (fun a4 w4 h5 => ⟨.inl hdone, wpAnyR_of_done _ _ _ _ hdone (wpAny_of_seqG rfl [] _ _ _ q5 h5)⟩) hw2
end
end Go.Proofs.YtlanodchnjojoaaDoor
