/- The method Find of a pattern, from the text's beginning on. -/
import Derived.Test.YtlanodchnjojoaaDoorFd
import Derived.Test.YtlanodchnjojoaaDoorNm
namespace Go.Proofs.YtlanodchnjojoaaDoor
open Go.RowKit

theorem place_mat0 {w : World} {G : Geo} {D : Dyn} {bit : Nat → Nat → Bool} (h : Mat0 w G D bit) (k : Nat) (hk : k ≤ G.ps.length) :
    Calls Tryd.prog 15 #[.pointer (some ⟨G.mb, 0, none⟩), .int .i64 k] w fun e w' => e = .returned (.int .i64 (plc G k)) ∧ w = w' := by
  obtain ⟨v4, v5, v6, hm⟩ := h.m
  have h1 := hm.cell (j := 1) (v := .string G.s) rfl
  have h2 := hm.cell (j := 2) (v := G.pv) rfl
  have hpf : (G.pv = .slice none 0 0 ∧ G.ps.length = 0) ∨ ∃ q cap, G.pv = .slice (some ⟨q, 0, none⟩) G.ps.length cap := by
    rcases h.pc.2 with ⟨h1, h2⟩ | ⟨g, cap, _, h1, _⟩
    · exact .inl ⟨h1, h2⟩
    · exact .inr ⟨g, cap, h1⟩
  by_cases e : k = G.ps.length
  · subst e
    have e1 : plc G G.ps.length = G.s.size := by simp [plc]
    rw [e1]
    rcases hpf with ⟨hp, h0⟩ | ⟨q, cap, hp⟩
    · rw [hp] at h2
      rw [h0]
      exact place_end w G.mb G.s none 0 0 h.sz h1 h2 (by omega)
    · rw [hp] at h2
      exact place_end w G.mb G.s _ _ _ h.sz h1 h2 h.np
  · have hlt : k < G.ps.length := by omega
    have hg := List.getElem?_eq_getElem hlt
    rcases hpf with ⟨hp, h0⟩ | ⟨q, cap, hp⟩
    · omega
    · have e1 : plc G k = G.ps[k].at_ := by simp [plc, hg]
      rw [e1]
      have h3 : w.cell? ⟨q, k * 4 + 0, none⟩ = some (.int .i64 (G.ps[k].at_ : Int)) := by
        have h4 := h.pc
        rw [hp] at h4
        rw [h4.cellAt (k * 4 + 0) (by omega)]
        exact flat_get pcCells 4 (fun _ => rfl) _ _ _ _ _ hg rfl
      rw [hp] at h2
      exact place_in w G.mb q G.ps.length cap k _ hlt h.np h2 h3

theorem PatAt.up {B B' : Nat} {w w' : World} {pb cb capc : Nat} {C : List Step} {ng nl S : Nat} (h : PatAt B w pb cb capc C ng nl S) (hB : B ≤ B') (hb : Below B w w') : PatAt B' w' pb cb capc C ng nl S :=
  have h' := h.keep hb
  { h' with
    pbB := Nat.lt_of_lt_of_le h.pbB hB
    cbB := Nat.lt_of_lt_of_le h.cbB hB
    code := fun i st hi => by
      obtain ⟨la, lb, capl, h1, h2, h3⟩ := h'.code i st hi
      exact ⟨la, lb, capl, h1, h2, fun j hj => ⟨Nat.lt_of_lt_of_le (h3 j hj).1 hB, (h3 j hj).2⟩⟩ }

/-- Where piece k of a text stands. -/
def plcS (s : ByteArray) (k : Nat) : Nat := ((pieces s)[k]?.map (·.at_)).getD s.size

/-- What Find finds. -/
def Finds (C : List Step) (s : ByteArray) (e : Ending) : Prop :=
  (∃ k t a n c, k ≤ (pieces s).length ∧ t ≤ (pieces s).length ∧ (∀ k' < k, ∀ t, ¬ Way C (pieces s) k' t) ∧ Way C (pieces s) k t ∧ e = .returned (.tuple #[matchV (plcS s k) (plcS s t) (.slice a n c), .int .i64 0])) ∨
  ((∀ k ≤ (pieces s).length, ∀ t, ¬ Way C (pieces s) k t) ∧ e = .returned (.tuple #[matchV 0 0 (.slice none 0 0), .int .i64 4]))

theorem find_form {G : Geo} {fr : Nat} {e : Ending} (h : (∃ k t a n c, fr ≤ k ∧ k ≤ G.ps.length ∧ t ≤ G.ps.length ∧ (∀ k', fr ≤ k' → k' < k → ∀ t, ¬ Way G.C G.ps k' t) ∧ Way G.C G.ps k t ∧ e = .returned (.tuple #[matchV (plc G k) (plc G t) (.slice a n c), .int .i64 (t : Int), .bool true])) ∨
   ((∀ k', fr ≤ k' → k' ≤ G.ps.length → ∀ t, ¬ Way G.C G.ps k' t) ∧ e = .returned (.tuple #[matchV 0 0 (.slice none 0 0), .int .i64 0, .bool false]))) :
    ∃ (x y : Nat) (a : Option Addr) (n c t : Nat) (b : Bool), e = .returned (.tuple #[.agg #[.int .i64 (x : Int), .int .i64 (y : Int), .slice a n c], .int .i64 (t : Int), .bool b]) ∧
      ((b = true ∧ ∃ k, fr ≤ k ∧ k ≤ G.ps.length ∧ t ≤ G.ps.length ∧ (∀ k', fr ≤ k' → k' < k → ∀ t, ¬ Way G.C G.ps k' t) ∧ Way G.C G.ps k t ∧ x = plc G k ∧ y = plc G t) ∨ (b = false ∧ ∀ k', fr ≤ k' → k' ≤ G.ps.length → ∀ t, ¬ Way G.C G.ps k' t)) := by
  rcases h with ⟨k, t, a, n, c, h1, h2, h3, h4, h5, rfl⟩ | ⟨h1, rfl⟩
  · exact ⟨_, _, a, n, c, t, true, rfl, .inl ⟨rfl, k, h1, h2, h3, h4, h5, rfl, rfl⟩⟩
  · exact ⟨0, 0, none, 0, 0, 0, false, rfl, .inr ⟨rfl, h1⟩⟩

set_option maxRecDepth 100000 in
set_option maxHeartbeats 4000000 in
theorem Find_met {w : World} {pb cb capc : Nat} {C : List Step} {ng nl S : Nat} (hp : PatAt w.heap.size w pb cb capc C ng nl S) (wf : WF C ng nl S) (s : ByteArray) (hs : s.size ≤ 65536) (hac : ∀ st ∈ C, st.dO = 0 → st.what = 0 ∨ (st.what = 1 ∧ ∀ p ∈ pieces s, simple p)) :
    Calls Tryd.prog 7 #[.pointer (some ⟨pb, 0, none⟩), .string s, .int .i64 0] w fun e w' => Finds C s e ∧ Below w.heap.size w w' := by
  have hs1 : ¬ ((65536 : Int) < (s.size : Int)) := by omega
  have hs2 : ¬ ((s.size : Int) < 0) := by omega
  have hp1 := fun o => hp.up (B' := (w.alloc o).heap.size) (w' := w.alloc o) (by simp) ((Below.refl _ w).alloc (Nat.le_refl _) o)
  go_enter Tryd.func7, Tryd.ntmps7
  go_wp2_with (go_at_call 14; refine (newMatcher_met (hp1 _) wf s hs hac).mono ?_; rintro e w1 ⟨mb, bb, pv, D, rfl, hM⟩)
  have hl0 : w.heap.size < (w.alloc (.cells #[.int .i64 0, .int .i64 0, .slice none 0 0] 35)).heap.size := by simp
  have hpl := place_mat0 hM 0 (Nat.zero_le _)
  have hfd := find_met hM (fr := 0) (Nat.zero_le _) (fun x hx _ => by have := hx.2.2; cases this)
  refine wp_loop_ghost (fun n a' w' => n = 0 ∧ a' = _ ∧ w' = _) 0 ⟨rfl, rfl, rfl⟩ ?_
  rintro n a' w' ⟨hn, rfl, rfl⟩
  generalize hpv : plc _ 0 = pv0 at hpl
  have hnn : ¬ ((pv0 : Int) < 0) := by omega
  clear hpv hp1 hp
  go_wp2_with (first
    | (go_at_call 15; refine hpl.mono ?_; rintro e w2 ⟨rfl, rfl⟩; clear hpl)
    | (go_at_call 16; refine hfd.mono ?_; rintro e w2 ⟨⟨D2, bit2, hM2⟩, hfnd⟩; obtain ⟨x, y, a, n', c, t, b, rfl, hfnd'⟩ := find_form hfnd; have hbel : Below (w.alloc (.cells #[.int .i64 0, .int .i64 0, .slice none 0 0] 35)).heap.size (w.alloc (.cells #[.int .i64 0, .int .i64 0, .slice none 0 0] 35)) w2 := hM2.below; have hB0 : Blk w2 w.heap.size 35 [.int .i64 0, .int .i64 0, .slice none 0 0] := (Blk.new w 35 [.int .i64 0, .int .i64 0, .slice none 0 0]).keep (hbel.block _ hl0); have hbw : Below w.heap.size w w2 := ((Below.refl _ w).alloc (Nat.le_refl _) _).trans (hbel.mono (Nat.le_of_lt hl0)); have q0 := hB0.cell (j := 0) rfl; have q1 := hB0.cell (j := 1) rfl; have q2 := hB0.cell (j := 2) rfl; have r0 := hB0.frozen 0; have r1 := hB0.frozen 1; have r2 := hB0.frozen 2; have hlt2 := hB0.lt; have HBW := Lib.hid hbw; have HB0 := Lib.hid hB0; have HF := Lib.hid hfnd'; clear hM hM2 hbel hB0 hbw hfd hfnd hfnd'))
  · have hb : b = false := by cases b <;> simp_all
    have hB3 := (((HB0.out.set 0 (.int .i64 0)).set 1 (.int .i64 0)).set 2 (.slice none 0 0)).alloc (.cells #[.int .i64 (x : Int), .int .i64 (y : Int), .slice a n' c] 35)
    have e0 := hB3.cell (j := 0) rfl
    have e1 := hB3.cell (j := 1) rfl
    have e2 := hB3.cell (j := 2) rfl
    clear hB3
    refine bodyPost_ret_by (v := .tuple #[.agg #[.int .i64 0, .int .i64 0, (.slice none 0 0)], .int .i64 4]) ?_ rfl ⟨?_, (((HBW.out.setCell (p := ⟨w.heap.size, 0, none⟩) (Nat.le_refl _) _).setCell (p := ⟨w.heap.size, 1, none⟩) (Nat.le_refl _) _).setCell (p := ⟨w.heap.size, 2, none⟩) (Nat.le_refl _) _).alloc (by simp [World.setCell]; omega) _⟩
    · simp only [results, show Tryd.f7.results = #[.cell 6 35, .tmp 7] from rfl] <;> go_simp
    · rcases HF.out with ⟨h1, _⟩ | ⟨_, h2⟩
      · rw [hb] at h1; cases h1
      · exact .inr ⟨fun k hk => h2 k (Nat.zero_le _) hk, rfl⟩
  · have hb : b = true := by cases b <;> simp_all
    have hB3 := (((HB0.out.set 0 (.int .i64 (x : Int))).set 1 (.int .i64 (y : Int))).set 2 (.slice a n' c)).alloc (.cells #[.int .i64 (x : Int), .int .i64 (y : Int), .slice a n' c] 35)
    have e0 := hB3.cell (j := 0) rfl
    have e1 := hB3.cell (j := 1) rfl
    have e2 := hB3.cell (j := 2) rfl
    clear hB3
    refine bodyPost_ret_by (v := .tuple #[.agg #[.int .i64 (x : Int), .int .i64 (y : Int), (.slice a n' c)], .int .i64 0]) ?_ rfl ⟨?_, (((HBW.out.setCell (p := ⟨w.heap.size, 0, none⟩) (Nat.le_refl _) _).setCell (p := ⟨w.heap.size, 1, none⟩) (Nat.le_refl _) _).setCell (p := ⟨w.heap.size, 2, none⟩) (Nat.le_refl _) _).alloc (by simp [World.setCell]; omega) _⟩
    · simp only [results, show Tryd.f7.results = #[.cell 6 35, .tmp 7] from rfl] <;> go_simp
    · rcases HF.out with ⟨_, k, _, h2, h3, h4, h5, h6, h7⟩ | ⟨h1, _⟩
      · exact .inl ⟨k, t, a, n', c, h2, h3, fun k' hk' => h4 k' (Nat.zero_le _) hk', h5, by rw [h6, h7]; rfl⟩
      · rw [hb] at h1; cases h1

end Go.Proofs.YtlanodchnjojoaaDoor
