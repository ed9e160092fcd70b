/- A matcher and what lies beside it. -/
import Derived.Test.YtlanodchnjojoaaDoorAt5
namespace Go.Proofs.YtlanodchnjojoaaDoor
open Go.RowKit

variable {w w' : World} {G : Geo} {D : Dyn} {bit : Nat → Nat → Bool}

theorem Mat0.mlt (h : Mat0 w G D bit) : G.mb < w.heap.size := by
  obtain ⟨_, _, _, h1⟩ := h.m; exact h1.lt

theorem Mat0.keep (h : Mat0 w G D bit) (hb : Below G.B w w') (hk : ∀ b, b < w.heap.size → w'.heap[b]? = w.heap[b]?) : Mat0 w' G D bit :=
  have hg : w.grownBy w' none := ⟨hb.os, hb.tape, hb.output, hb.size, fun k hk' _ => hk k hk'⟩
  { h with
    pat := h.pat.keep hb
    below := h.below.trans hb
    m := by obtain ⟨v4, v5, v6, h1⟩ := h.m; exact ⟨v4, v5, v6, h1.keep (hk _ h1.lt)⟩
    pc := h.pc.kept hg (by cases h : G.pv.ownBlock <;> simp)
    jo := h.jo.kept hg (by cases h : D.jv.ownBlock <;> simp)
    bn := h.bn.keep (hk _ h.bn.lt)
    row := fun k hk' => Mat.rowKeep (h.row k hk') fun b hb _ => hk b hb
    kp := fun q o hq => ⟨(h.kp q o hq).1, (hk q (get_lt (h.kp q o hq).2)).trans (h.kp q o hq).2⟩ }
theorem Mat0.new (h : Mat0 w G D bit) (hb : Below w.heap.size w w') : Mat0 w' G D bit := h.keep (hb.mono h.Bsize) fun b hb' => hb.block b hb'

/-- A block more that is to be kept. -/
def Geo.with_ (G : Geo) (b : Nat) (o : Obj) : Geo := { G with kept := (b, o) :: G.kept }

theorem Mat0.fresh (h : Mat0 w G D bit) (hb : Below w.heap.size w w') {b : Nat} {o : Obj} (hge : w.heap.size ≤ b) (ho : w'.heap[b]? = some o) : ∃ D', Mat0 w' (G.with_ b o) D' bit := by
  have h' := h.new hb
  have hre : ∀ q t, q < w.heap.size → D.tag q = t → retag D.tag b 0 q = t := fun q t hq ht => by rw [retag_ne (by omega), ht]
  refine ⟨{ D with tag := retag D.tag b 0 }, ?_⟩
  exact { pat := h'.pat, below := h'.below, m := h'.m, pc := h'.pc, jc := h'.jc, jo := h'.jo, bn := h'.bn, rl := h'.rl,
          row := fun k hk => by
            rcases h.row k hk with h1 | ⟨h1, h2, h3, h4, h5⟩
            · exact .inl h1
            · exact .inr ⟨h1, h2.keep (hb.block _ h2.lt), h3, hre _ _ h2.lt h4, h5⟩,
          tm := hre _ _ h.mlt h.tm, tb := hre _ _ h.bn.lt h.tb, tp := fun q hq => hre _ _ (h.pc.lt q hq).2 (h.tp q hq), tj := fun q hq => hre _ _ (h.jo.lt q hq).2 (h.tj q hq),
          lm := h.lm, lb := h.lb, wf := h.wf, np := h.np, sz := h.sz, pcs := h.pcs, acs := h.acs,
          kp := fun q o' hq => by
            rcases List.mem_cons.1 hq with e | hq
            · cases e; exact ⟨retag_eq _ _ _, ho⟩
            · have := h.kp q o' hq
              exact ⟨hre _ _ (get_lt this.2) this.1, (hb.block q (get_lt this.2)).trans this.2⟩ }

/-- A kept block is given up, and turns. -/
theorem Mat0.turn {b : Nat} {o : Obj} (h : Mat0 w (G.with_ b o) D bit) (hB : G.B ≤ b) (hne : ∀ q o, (q, o) ∈ G.kept → q ≠ b) (hg : w.grownBy w' (some b)) : Mat0 w' G D bit := by
  have h0 := (h.kp b o (by simp [Geo.with_])).1
  have hb : Below G.B w w' := (Below.refl _ _).grown hg h.Bsize fun k hk => by cases hk; exact hB
  have hn : ∀ q t, D.tag q = t → t ≠ 0 → some q ≠ some b := fun q t ht h1 e => by cases e; exact h1 (ht.symm.trans h0)
  exact { pat := h.pat.keep hb, below := h.below.trans hb, m := by obtain ⟨v4, v5, v6, h1⟩ := h.m; exact ⟨v4, v5, v6, h1.grown hg (hn _ _ h.tm (by decide))⟩,
          pc := h.pc.kept hg (Mat.own_ne h.tp (by rw [h0]; decide)), jc := h.jc, jo := h.jo.kept hg (Mat.own_ne h.tj (by rw [h0]; decide)),
          bn := h.bn.grown hg (hn _ _ h.tb (by decide)), rl := h.rl,
          row := fun k hk => by
            rcases h.row k hk with h1 | ⟨h1, h2, h3, h4, h5⟩
            · exact .inl h1
            · exact .inr ⟨h1, h2.grown hg (hn _ _ h4 (by omega)), h3, h4, h5⟩,
          tm := h.tm, tb := h.tb, tp := h.tp, tj := h.tj, lm := h.lm, lb := h.lb, wf := h.wf, np := h.np, sz := h.sz, pcs := h.pcs, acs := h.acs,
          kp := fun q o' hq => by
            have h1 := h.kp q o' (by simp [Geo.with_, hq])
            exact ⟨h1.1, (hg.block q (get_lt h1.2) (fun e => hne q o' hq (by cases e; rfl))).trans h1.2⟩ }

end Go.Proofs.YtlanodchnjojoaaDoor
