/- A matcher is made. -/
import Derived.Test.YtlanodchnjojoaaDoorPi
import Derived.Test.YtlanodchnjojoaaDoorFd
namespace Go.Proofs.YtlanodchnjojoaaDoor
open Go.RowKit

theorem pieces_fn (s : ByteArray) (w : World) : Calls Tryd.prog 25 #[.string s] w fun e w' => e = .returned (.func (.func 34) #[] #[.pointer (some ⟨w.heap.size, 0, none⟩)]) ∧ w' = w.alloc (.cells #[.string s] 9) := by
  go_enter Tryd.func25, Tryd.ntmps25
  go_wp2
  go_ret
  exact ⟨rfl, rfl⟩

theorem collect_met (Bs : Nat) (s : ByteArray) (hs : s.size ≤ 100000) (w : World) (hb : Bs < w.heap.size) (hBs : w.cell? ⟨Bs, 0, none⟩ = some (.string s)) :
    Calls Tryd.prog 24 #[.func (.func 34) #[] #[.pointer (some ⟨Bs, 0, none⟩)]] w fun e w' => ∃ v, e = .returned v ∧ w'.ownsRow w.heap.size 85 4 v (pieces s).length ((pieces s).flatMap pcCells) ∧ Below w.heap.size w w' := by
  go_enter Tryd.func24, Tryd.ntmps24
  go_wp2_with (go_at_call 33; refine (appendSeq_met Bs s hs _ hb hBs).mono ?_; rintro e w' ⟨v, rfl, h1, h2⟩)
  go_ret
  exact ⟨v, rfl, h1, h2⟩

theorem Tryd.infoWords : (Tryd.prog.info? 116).map (fun i => (i.zero, i.size, i.bytes)) = some (some (.slice none 0 0), 1, 24) := by kernel_rfl

theorem ownsRow_form2 {w : World} {B : Nat} {e : TypeId} {size n : Nat} {v : Value} {xs : List Value} (h : w.ownsRow B e size v n xs) : ∃ a c, v = .slice a n c := by
  rcases h.2 with ⟨h1, h2⟩ | ⟨g, cap, cur, h1, _⟩
  · subst h2; exact ⟨_, _, h1⟩
  · exact ⟨_, _, h1⟩
theorem ownsRow_base {w : World} {B B' : Nat} {e : TypeId} {size n : Nat} {v : Value} {xs : List Value} (h : w.ownsRow B e size v n xs) (hb : B' ≤ B) : w.ownsRow B' e size v n xs := by
  refine ⟨h.1, ?_⟩
  rcases h.2 with h1 | ⟨g, cap, cur, h1, h2, h3⟩
  · exact .inl h1
  · exact .inr ⟨g, cap, cur, h1, by omega, h3⟩

set_option maxRecDepth 100000 in
set_option maxHeartbeats 2000000 in
theorem newMatcher_met {w : World} {pb cb capc : Nat} {C : List Step} {ng nl S : Nat} (hp : PatAt w.heap.size w pb cb capc C ng nl S) (wf : WF C ng nl S) (s : ByteArray) (hs : s.size ≤ 65536) (hac : ∀ st ∈ C, st.dO = 0 → st.what = 0 ∨ (st.what = 1 ∧ ∀ p ∈ pieces s, simple p)) :
    Calls Tryd.prog 14 #[.pointer (some ⟨pb, 0, none⟩), .string s] w fun e w' => ∃ mb bb pv D, e = .returned (.pointer (some ⟨mb, 0, none⟩)) ∧ Mat0 w' ⟨w, w.heap.size, pb, cb, capc, C, pieces s, ng, nl, S, s, mb, bb, pv, []⟩ D (fun _ _ => false) := by
  have hpl : (pieces s).length ≤ s.size := piecesFrom_length s s.size 0
  have hmk : ∀ W : World, (Instr.makeSlice 63 (.int .i64 ((pieces s).length + 1 : Int)) (.int .i64 ((pieces s).length + 1 : Int))).run Tryd.prog W = .ok (.slice (some ⟨W.heap.size, 0, none⟩) ((pieces s).length + 1) ((pieces s).length + 1)) (W.alloc (.cells (madeCells #[.slice none 0 0] ((pieces s).length + 1)) 116)) := fun W => by
    obtain ⟨i0, hi, hz0, hz1, hz2⟩ := info_parts Tryd.infoWords
    have := run_make_rowN (P := Tryd.prog) 63 116 i0 (.slice none 0 0) Tryd.underlying63 hi hz0 .i64 .i64 ((pieces s).length + 1) ((pieces s).length + 1) (Nat.le_refl _) (by rw [hz2]; omega) (by omega) W
    rw [hz1, Nat.mul_one] at this
    exact this
  have hwr : IntKind.i64.wrap (((pieces s).length : Int) + 1) = ((pieces s).length : Int) + 1 := by rw [IntKind.wrap_i64]; omega
  go_enter Tryd.func14, Tryd.ntmps14
  go_wp2_with (first
    | (go_at_call 25; refine (pieces_fn s _).mono ?_; rintro e w1 ⟨rfl, rfl⟩)
    | (go_at_call 24; refine (collect_met w.heap.size s (by omega) _ (by simp) (by simp)).mono ?_; rintro e w1 ⟨v, rfl, h1, h2⟩; obtain ⟨va, vc, rfl⟩ := ownsRow_form2 h1))
  have hB1 : Below w.heap.size w w1 := ((Below.refl _ w).alloc (Nat.le_refl _) _).trans (h2.mono (by simp))
  have hB : Below w.heap.size w ((w1.alloc (.cells #[.pointer (some ⟨pb, 0, none⟩), .string s, .slice va (pieces s).length vc, .slice (some ⟨w1.heap.size + 1, 0, none⟩) ((pieces s).length + 1) ((pieces s).length + 1), .slice none 0 0, .slice none 0 0, .slice none 0 0, .slice none 0 0] 66)).alloc (.cells (madeCells #[.slice none 0 0] ((pieces s).length + 1)) 116)) := (hB1.alloc hB1.size _).alloc (by have := hB1.size; simp; omega) _
  have hm := (Blk.new w1 66 [.pointer (some ⟨pb, 0, none⟩), .string s, .slice va (pieces s).length vc, .slice (some ⟨w1.heap.size + 1, 0, none⟩) ((pieces s).length + 1) ((pieces s).length + 1), .slice none 0 0, .slice none 0 0, .slice none 0 0, .slice none 0 0]).alloc (.cells (madeCells #[.slice none 0 0] ((pieces s).length + 1)) 116)
  have hbn := Blk.new (w1.alloc (.cells #[.pointer (some ⟨pb, 0, none⟩), .string s, .slice va (pieces s).length vc, .slice (some ⟨w1.heap.size + 1, 0, none⟩) ((pieces s).length + 1) ((pieces s).length + 1), .slice none 0 0, .slice none 0 0, .slice none 0 0, .slice none 0 0] 66)) 116 (List.replicate ((pieces s).length + 1) (.slice none 0 0))
  rw [show ((List.replicate ((pieces s).length + 1) (Value.slice none 0 0)).toArray) = madeCells #[.slice none 0 0] ((pieces s).length + 1) from by apply Array.ext'; rw [toList_madeCells_one], World.size_alloc] at hbn
  have hpc := (((ownsRow_base h1 (B' := w.heap.size) (by simp)).alloc (.cells #[.pointer (some ⟨pb, 0, none⟩), .string s, .slice va (pieces s).length vc, .slice (some ⟨w1.heap.size + 1, 0, none⟩) ((pieces s).length + 1) ((pieces s).length + 1), .slice none 0 0, .slice none 0 0, .slice none 0 0, .slice none 0 0] 66)).alloc (.cells (madeCells #[.slice none 0 0] ((pieces s).length + 1)) 116))
  have hpv : ∀ q, (Value.slice va (pieces s).length vc).ownBlock = some q → q < w1.heap.size := fun q hq => (h1.lt q hq).2
  go_ret
  generalize (w1.alloc (.cells #[.pointer (some ⟨pb, 0, none⟩), .string s, .slice va (pieces s).length vc, .slice (some ⟨w1.heap.size + 1, 0, none⟩) ((pieces s).length + 1) ((pieces s).length + 1), .slice none 0 0, .slice none 0 0, .slice none 0 0, .slice none 0 0] 66)).alloc (.cells (madeCells #[.slice none 0 0] ((pieces s).length + 1)) 116) = w2 at *
  refine ⟨w1.heap.size, w1.heap.size + 1, .slice va (pieces s).length vc, ⟨.slice none 0 0, .slice none 0 0, 0, 0, 0, [], [], List.replicate ((pieces s).length + 1) (.slice none 0 0), fun _ => 0, fun _ => [], fun b => if b = w1.heap.size then 1 else if b = w1.heap.size + 1 then 2 else 3⟩, rfl, ?_⟩
  exact { pat := hp.keep hB, below := hB, m := ⟨_, _, _, hm⟩, pc := hpc, jc := .inl ⟨rfl, rfl⟩, jo := World.ownsRow_nil _ _ _ _, bn := hbn, rl := by simp, row := fun k hk => .inl ⟨by have hk2 : k ≤ (pieces s).length := hk; show (List.replicate _ _)[k]? = _; rw [List.getElem?_replicate, if_pos (by omega)], fun _ _ => rfl⟩,
          tm := by simp, tb := by simp, tp := fun q hq => by
            have := hpv q hq
            simp only []
            rw [if_neg (by omega), if_neg (by omega)],
          tj := fun q hq => by simp [Value.ownBlock] at hq, lm := hB1.size, lb := by have := hB1.size; show w.heap.size ≤ w1.heap.size + 1; omega, wf := wf, np := by show (pieces s).length ≤ 65536; omega, sz := hs, pcs := fun p hp => piecesFrom_at s s.size 0 p hp, acs := hac, kp := fun q o hq => by simp at hq }

end Go.Proofs.YtlanodchnjojoaaDoor
