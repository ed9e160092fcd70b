/- A law on a drawn region that reads, calls a function, and makes one new variable whenever it likes. -/
import Derived.Test.YtlanodchnjojoaaDoorMix
namespace Go.Proofs.YtlanodchnjojoaaDoor
open Go
section
variable {P : Program} {ops : Array Oper} {md : Region.Mode}

theorem Oper.wp_then {o : Oper} {a : Act} {w : World} {K : Act → World → Prop} {K' : Act → World → Prop} {Q : Exit → Act → World → Prop} (h : o.wp P a w K (Exit.then K' Q)) : o.wp P a w K Q := by
  unfold Oper.wp at *
  generalize (execOp a.eval o).run P w = r at *
  cases r with
  | ok n w' => cases n <;> exact h
  | halt hh w' => cases hh <;> exact h

theorem wpOp_of_list1 {l : List Oper} (hl : l.toArray = ops) {Q : Exit → Act → World → Prop} {K : Act → World → Prop} {i : Nat} {o : Oper} (ho : ops[i]? = some o) {a : Act} {w : World} (h : wpList P ops (Exit.then K Q) (pickL l [i]) a w) : wpOp P ops Q i K a w := by
  have ho' : l[i]? = some o := by rw [← hl] at ho; simpa using ho
  rw [pickL_cons _ ho'] at h
  unfold wpOp
  simp only [ho]
  simp only [wpList, pickL] at h
  split
  · rename_i hw
    rw [if_pos hw] at h
    rcases h with h | ⟨h1, a2, w2, h2⟩
    · exact .inl (Oper.wp_then h)
    · exact .inr ⟨h1, a2, w2, h2⟩
  · rename_i hw
    rw [if_neg hw] at h
    exact h

/-- Operation s waits for operation i, if need be by way of others. -/
def reachB (md : Region.Mode) (ops : Array Oper) : Nat → Nat → Nat → Bool
  | 0, _, _ => false
  | f + 1, s, i => Region.waitsFor md ops s i || (List.range ops.size).any fun j => Region.waitsFor md ops s j && reachB md ops f j i
theorem waits_listed {s i : Nat} {listed : Array Bool} (h : Region.waitsFor md ops s i = true) (hcl : Closed md ops listed) (hs : listed.getD s false = true) : listed.getD i false = true := by
  obtain ⟨os, hos, e, he, hb, hon⟩ := Region.waitsFor_spec h
  have := hcl s os hos hs e he hb
  rwa [hon] at this
theorem reach_listed {listed : Array Bool} (hcl : Closed md ops listed) : ∀ (f s i : Nat), reachB md ops f s i = true → listed.getD s false = true → listed.getD i false = true
  | 0, _, _, h, _ => by cases h
  | f + 1, s, i, h, hs => by
    simp only [reachB, Bool.or_eq_true] at h
    rcases h with h | h
    · exact waits_listed h hcl hs
    · obtain ⟨j, _, hj⟩ := List.any_eq_true.1 h
      simp only [Bool.and_eq_true] at hj
      exact reach_listed hcl f j i hj.2 (waits_listed hj.1 hcl hs)

theorem wpAnyR_S2 {Q : Exit → Act → World → Prop} {s : Nat} {w : World} {l : List Oper} (hl : l.toArray = ops) (hsel : Region.noSelect ops = true) (hQ : ∀ c a (d : Option Tmp) v w, Q (.panic c) (a.put d v) w → Q (.panic c) a w) {K : Act → Prop} {g : Nat} :
    ∀ (π : List Nat) (listed : Array Bool) (a : Act), (∀ i ∈ π, ∀ listed, Closed md ops listed → listed.getD s false = true → listed.getD i false = true) → s ∉ π → Closed md ops listed → takesB md ops π listed = true → wpS P ops w K (pickL l π) a → (∀ a', Closed md ops (listAll π listed) → K a' → wpAnyR P md ops Q s (fun w' => w' = w ∨ ∃ o, w' = w.alloc o) g (listAll π listed) a' w) →
      wpAnyR P md ops Q s (fun w' => w' = w ∨ ∃ o, w' = w.alloc o) (π.length + g) listed a w
  | [], listed, a, _, _, hcl, _, h, hK => by simpa [listAll] using hK a hcl h
  | i :: r, listed, a, hw, hs, hcl, hB, h, hK => by
    simp only [takesB, Bool.and_eq_true] at hB
    obtain ⟨⟨hr, hf⟩, hB'⟩ := hB
    obtain ⟨o, ho⟩ := ready_get hr
    have ho' : l[i]? = some o := by rw [← hl] at ho; simpa using ho
    rw [pickL_cons r ho'] at h
    obtain ⟨v, ⟨hwt, h1, h2⟩, h3⟩ := h
    have hr' : i ∈ Region.ready md ops listed := by simpa using hr
    have hw1 := hw i (by simp)
    have hw2 : ∀ i ∈ r, ∀ listed, Closed md ops listed → listed.getD s false = true → listed.getD i false = true := fun i' h' => hw i' (by simp [h'])
    rw [List.length_cons, show r.length + 1 + g = (r.length + g) + 1 by omega]
    refine wpAnyR_first (S0 := fun w' => w' = w ∨ ∃ o, w' = w.alloc o) ho (Region.noSelect_spec hsel) (fun c a w => hQ c a o.dst v w) (fun e => hs (by simp [e])) ?_ _ listed a w (Region.free_spec ho hf) hcl hr'
      (.inl ⟨hwt, fun w' hw' => hw'.elim (fun e => by rw [e]; exact h1) fun ⟨o, e⟩ => by rw [e]; exact h2 o⟩) (.inr (.inl rfl))
      (wpAnyR_S2 hl hsel hQ r _ _ hw2 (fun h => hs (by simp [h])) (hcl.set hr') hB' h3 hK)
    intro listed w' hcl' hun hT
    rcases hT with hT | hT
    · have := hw1 _ hcl' hT
      rw [getD_both hun] at this; cases this
    · exact hT

def callocB (md : Region.Mode) (ops : Array Oper) (π : List Nat) (c n : Nat) (ρ τ : List Nat) : Bool :=
  let L := listAll π (Array.replicate ops.size false)
  Region.noSelect ops && (takesB md ops π (Array.replicate ops.size false) && (π.all (fun i => reachB md ops 4 c i) && (!π.contains c && (decide (Region.ready md ops L = [c, n]) && (decide (Region.ready md ops (L.setIfInBounds n true) = [c]) &&
    (takesB md ops ρ ((L.setIfInBounds n true).setIfInBounds c true) && (seqG md ops τ (listAll ρ ((L.setIfInBounds n true).setIfInBounds c true)) && (takesB md ops ρ (L.setIfInBounds c true) && (seqG md ops (n :: τ) (listAll ρ (L.setIfInBounds c true)) &&
    (decide (π.length + (ρ.length + (τ.length + 1) + 1) = ops.size) && (decide (c < L.size) && match ops[n]? with
    | some o => o.guard.isNone && (match o.op with | .alloc .. => true | _ => false)
    | none => false)))))))))))

theorem wp_region_calloc {id : Nat} {Q : Exit → Act → World → Prop} {a : Act} {w : World} {l : List Oper} (π : List Nat) (c n : Nat) (ρ τ : List Nat) (hm : P.follows .mixedOrders = true) (hB : callocB .any l.toArray π c n ρ τ = true)
    (hQ : ∀ c a (d : Option Tmp) v w, Q (.panic c) (a.put d v) w → Q (.panic c) a w)
    (h : wpS P l.toArray w.drew (fun a' =>
      wpList P l.toArray (Exit.then (fun a1 w1 => wpList P l.toArray (Exit.then (fun a2 w2 => wpPure P l.toArray (fun a3 => wpList P l.toArray Q (pickL l τ) a3 w2) (pickL l ρ) a2) Q) (pickL l [c]) a1 w1) Q) (pickL l [n]) a' w.drew ∧
      wpList P l.toArray (Exit.then (fun a1 w1 => wpPure P l.toArray (fun a2 => wpList P l.toArray Q (pickL l (n :: τ)) a2 w1) (pickL l ρ) a1) Q) (pickL l [c]) a' w.drew) (pickL l π) a) : (Code.region id l.toArray true).wp P Q a w := by
  simp only [callocB, Bool.and_eq_true, decide_eq_true_eq] at hB
  obtain ⟨b1, b2, b3, b4, b5, b6, b7, b8, b9, b10, b11, b12, b13⟩ := hB
  refine wp_region_any hm (wpAny_of_R (s := c) (S := fun w' => w' = w.drew ∨ ∃ o, w' = w.drew.alloc o) _ _ _ _ ?_)
  have hcl0 : Closed .any l.toArray (Array.replicate l.toArray.size false) := fun j oj _ hl => by rw [getD_replicate_false] at hl; cases hl
  have hs0 : c ∉ π := by
    simp only [Bool.not_eq_true'] at b4
    intro hm
    have := List.contains_iff_mem.2 hm
    rw [this] at b4; cases b4
  have key := wpAnyR_S2 (md := .any) (P := P) (Q := Q) (s := c) (w := w.drew) (g := ρ.length + (τ.length + 1) + 1) rfl b1 hQ π (Array.replicate l.toArray.size false) a (fun i hi listed hcl hs => reach_listed hcl 4 c i (List.all_eq_true.1 b3 i hi) hs) hs0 hcl0 b2 h ?_
  · rw [b11] at key
    exact key
  · rintro a' hcl ⟨hA, hBB⟩
    generalize listAll π (Array.replicate l.toArray.size false) = listed at *
    obtain ⟨oc, hoc⟩ := ready_get (md := .any) (ops := l.toArray) (listed := listed) (i := c) (by rw [b5]; simp)
    have hdone : (listed.setIfInBounds c true).getD c false = true := by simp [b12]
    have hdone2 : ((listed.setIfInBounds n true).setIfInBounds c true).getD c false = true := by simp [b12]
    refine ⟨fun h0 => (by rw [b5] at h0; cases h0), fun i hi => ?_⟩
    rw [b5] at hi
    rcases List.mem_cons.1 hi with rfl | hi
    · -- the call first
      refine wpOp_mono (fun a1 w1 h1 => ⟨.inl hdone, wpAnyR_of_done _ _ _ _ hdone ?_⟩) (wpOp_of_list1 rfl hoc hBB)
      exact wpAny_pure rfl b1 hQ ρ _ a1 b9 h1 fun a2 h2 => wpAny_of_seqG rfl (n :: τ) _ _ _ b10 h2
    · -- the new variable first
      have hin : i = n := by simpa using hi
      subst hin
      cases hn : l.toArray[i]? with
      | none => rw [hn] at b13; cases b13
      | some o =>
        rw [hn] at b13
        simp only [Bool.and_eq_true] at b13
        have hop := wpOp_of_list1 rfl hn hA
        have hg : o.guard = none := by simpa using b13.1
        have hwant : Region.wanted o (yielded l.toArray a'.tmps) = true := by simp [Region.wanted, hg]
        unfold wpOp at hop ⊢
        simp only [hn, hwant, if_true] at hop ⊢
        rcases hop with hop | hop
        · refine .inl ?_
          cases hoo : o.op with
          | alloc t =>
            refine Oper.wp_mono (fun a3 w3 h3 => ?_) (alloc_wp hoo hop)
            obtain ⟨⟨b, hb3⟩, h4⟩ := h3
            refine ⟨.inr (.inr ⟨b, hb3⟩), ⟨fun h0 => (by rw [b6] at h0; cases h0), fun k hk => ?_⟩⟩
            rw [b6] at hk
            have hkc : k = c := by simpa using hk
            subst hkc
            refine wpOp_mono (fun a4 w4 h5 => ⟨.inl hdone2, wpAnyR_of_done _ _ _ _ hdone2 ?_⟩) (wpOp_of_list1 rfl hoc h4)
            exact wpAny_pure rfl b1 hQ ρ _ a4 b7 h5 fun a5 h6 => wpAny_of_seqG rfl τ _ _ _ b8 h6
          | _ => rw [hoo] at b13; simp at b13
        · exact .inr hop

end
end Go.Proofs.YtlanodchnjojoaaDoor
