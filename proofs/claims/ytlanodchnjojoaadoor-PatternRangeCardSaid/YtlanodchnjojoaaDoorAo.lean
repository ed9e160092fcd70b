/- Plain facts on laying; the pattern's method atomOnce. -/
import Derived.Test.YtlanodchnjojoaaDoorAd
namespace Go.Proofs.YtlanodchnjojoaaDoor
open Go.RowKit

theorem add_len (s : Gs) (do_ what : Nat) (r : Int) (grp a : Nat) : (s.add do_ what r grp a).code.length = s.code.length + 1 := by simp [Gs.add]
theorem setA_len (s : Gs) (i v : Nat) : (s.setA i v).code.length = s.code.length := by simp [Gs.setA]
theorem setB_len (s : Gs) (i v : Nat) : (s.setB i v).code.length = s.code.length := by simp [Gs.setB]
theorem setAs_len : ∀ (l : List Nat) (s : Gs), (setAs l s).code.length = s.code.length
  | [], _ => rfl
  | i :: r, s => by rw [setAs, setAs_len r, setA_len]
theorem setBs_len : ∀ (l : List Nat) (s : Gs), (setBs l s).code.length = s.code.length
  | [], _ => rfl
  | i :: r, s => by rw [setBs, setBs_len r, setB_len]
theorem iter_le {α : Type} (f : α → α) (m : α → Nat) (hf : ∀ s, m s ≤ m (f s)) : ∀ n s, m s ≤ m (iter f n s)
  | 0, _ => Nat.le_refl _
  | n + 1, s => Nat.le_trans (hf s) (iter_le f m hf n (f s))
theorem iter_le2 {α : Type} (f : α → α) (m : α → Nat) (hf : ∀ s, m s ≤ m (f s)) (s : α) : ∀ n k, k ≤ n → m (iter f k s) ≤ m (iter f n s)
  | 0, k, h => by rw [Nat.le_zero.1 h]; exact Nat.le_refl _
  | n + 1, k, h => by
    rcases Nat.lt_or_ge n k with h1 | h1
    · have : k = n + 1 := by omega
      rw [this]; exact Nat.le_refl _
    · refine Nat.le_trans (iter_le2 f m hf s n k h1) ?_
      rw [iter_succ]; exact hf _
theorem loop0_len (s : Gs) : (loop0 s).code.length = s.code.length + 2 := by simp [loop0, Gs.add, Gs.setA]
theorem genOpt_le {f : Gs → Gs} (hf : ∀ s : Gs, s.code.length ≤ (f s).code.length) (x : Gs × List Nat) : x.1.code.length + 1 ≤ (genOpt f x).1.code.length := by
  have := hf ((x.1.add 2 0 0 0 0).setA x.1.code.length (x.1.add 2 0 0 0 0).code.length)
  rw [setA_len] at this
  rw [add_len] at this
  show x.1.code.length + 1 ≤ (f ((x.1.add 2 0 0 0 0).setA x.1.code.length (x.1.add 2 0 0 0 0).code.length)).code.length
  rw [add_len]
  exact this
theorem genPart_le {f : Gs → Gs} (hf : ∀ s : Gs, s.code.length ≤ (f s).code.length) (l m : Int) (s : Gs) : s.code.length ≤ (genPart f l m s).code.length := by
  have h1 := iter_le f (fun s : Gs => s.code.length) hf l.toNat s
  unfold genPart
  split
  · have h2 := hf (loop0 (iter f l.toNat s))
    rw [loop0_len] at h2
    simp only [setB_len, add_len]
    omega
  · have h2 := iter_le (genOpt f) (fun x : Gs × List Nat => x.1.code.length) (fun x => Nat.le_of_succ_le (genOpt_le hf x)) (m - l).toNat (iter f l.toNat s, [])
    simp only [setBs_len]
    exact Nat.le_trans h1 h2

mutual
theorem gen_le : ∀ (t : T) (s : Gs), s.code.length ≤ (gen t s).code.length
  | .nil, s => by simp [gen]
  | .cons x r, s => by rw [gen]; exact Nat.le_trans (gen_le x s) (gen_le r _)
  | .pl what r l m _, s => by rw [gen]; exact genPart_le (fun s => by rw [genLeaf, add_len]; omega) l m s
  | .pg g bs l m _, s => by
    rw [gen]
    refine genPart_le (fun s => ?_) l m s
    have := genB_le bs (s.add 4 0 0 g 0, [])
    rw [genGrp, add_len, setAs_len]
    rw [add_len] at this
    omega
  | .lst ps, s => by rw [gen]; exact gen_le ps s
theorem genB_le : ∀ (t : T) (y : Gs × List Nat), y.1.code.length ≤ (genB t y).1.code.length
  | .nil, y => by simp [genB]
  | .cons x r, y => by
    rw [genB]
    split
    · exact gen_le x y.1
    · have h1 := gen_le x ((y.1.add 2 0 0 0 0).setA y.1.code.length (y.1.add 2 0 0 0 0).code.length)
      rw [setA_len, add_len] at h1
      refine Nat.le_trans ?_ (genB_le r _)
      simp only [setB_len, add_len]
      omega
  | .pl .., y => by simp [genB]
  | .pg .., y => by simp [genB]
  | .lst _, y => by simp [genB]
end
theorem genBrs_le (t : T) (s : Gs) : s.code.length ≤ (genBrs t s).code.length := by
  unfold genBrs
  rw [setAs_len]
  exact genB_le t (s, [])
theorem genAtm_le (a : Atm) (s : Gs) : s.code.length ≤ (genAtm a s).code.length := by
  cases a with
  | leaf what r => show s.code.length ≤ (s.add 0 what r 0 0).code.length; rw [add_len]; omega
  | grp g bs =>
    show s.code.length ≤ ((genBrs bs (s.add 4 0 0 g 0)).add 5 0 0 g 0).code.length
    have := genBrs_le bs (s.add 4 0 0 g 0)
    rw [add_len] at this ⊢
    omega

/-- What is read is of its kind: 0: branches; 1: parts; 2: a branch; 3: a part. -/
def T.ok : Nat → T → Bool
  | 0, .nil => true
  | 0, .cons x r => x.ok 2 && r.ok 0
  | 1, .nil => true
  | 1, .cons x r => x.ok 3 && r.ok 1
  | 2, .lst ps => ps.ok 1
  | 3, .pl what _ l m _ => decide (what ≤ 1) && (decide (0 ≤ l) && (decide (l ≤ 255) && (decide (-1 ≤ m) && (decide (m ≤ 255)))))
  | 3, .pg _ bs l m _ => bs.ok 0 && (decide (0 ≤ l) && (decide (l ≤ 255) && (decide (-1 ≤ m) && (decide (m ≤ 255)))))
  | _, _ => false
def T.deep : T → Nat
  | .nil => 0
  | .cons x r => max x.deep r.deep
  | .pl .. => 0
  | .pg _ bs .. => bs.deep + 1
  | .lst ps => ps.deep

/-- Branches are laid as they must be. -/
def BrLay (w0 : World) (pb : Nat) (bv : Value) (ng z : Nat) (bs : T) : Prop :=
  ∀ (w : World) (K : List (Nat × Obj)) (G : Gs) (cv iv : Value) (ls : List Value) (v : Value), LI w0 w pb bv ng z K G cv iv ls → (∀ q o, (q, o) ∈ K → w0.heap.size ≤ q) → RepV w0 (fun b => b ≠ pb) v bs → (genBrs bs G).code.length ≤ 5000 →
    Calls Tryd.prog 22 #[.pointer (some ⟨pb, 0, none⟩), v] w fun e w' => e = .returned (.tuple #[]) ∧ ∃ cv' iv' ls', LI w0 w' pb bv ng z K (genBrs bs G) cv' iv' ls'

set_option maxRecDepth 100000 in
set_option maxHeartbeats 4000000 in
theorem atom_lay {w0 w : World} {pb : Nat} {bv : Value} {ng z : Nat} {K : List (Nat × Obj)} {G : Gs} {cv iv : Value} {ls : List Value} {a : Atm} {v : Value} (h : LI w0 w pb bv ng z K G cv iv ls) (hK : ∀ q o, (q, o) ∈ K → w0.heap.size ≤ q) (ha : AtmV w0 (fun b => b ≠ pb) a v) (hw : ∀ what r, a = .leaf what r → what ≤ 1) (hB : ∀ g bs, a = .grp g bs → BrLay w0 pb bv ng z bs)
    (hsm : (genAtm a G).code.length ≤ 5000) :
    Calls Tryd.prog 49 #[.pointer (some ⟨pb, 0, none⟩), aV a.what a.r a.gn v] w fun e w' => e = .returned (.tuple #[]) ∧ ∃ cv' iv' ls', LI w0 w' pb bv ng z K (genAtm a G) cv' iv' ls' := by
  have hle := genAtm_le a G
  cases a with
  | leaf what r =>
    have hw1 := hw what r rfl
    cases ha
    have d6 : ((what : Int) == 6) = false := by rw [beq_eq_false_iff_ne]; omega
    have d3 : ((what : Int) == 3) = false := by rw [beq_eq_false_iff_ne]; omega
    have d4 : ((what : Int) == 4) = false := by rw [beq_eq_false_iff_ne]; omega
    have d5 : ((what : Int) == 5) = false := by rw [beq_eq_false_iff_ne]; omega
    have H := Lib.hid h
    unfold aV Atm.what Atm.r Atm.gn
    go_enter Tryd.func49, Tryd.ntmps49
    go_wp2_with (go_at_call 23; refine (add_lay (H.out.alloc _) (by omega) 0 what r 0 0).mono ?_; rintro e w1 ⟨rfl, g, cap, ls', h1⟩)
    go_end0
    exact ⟨rfl, _, _, _, h1⟩
  | grp g bs =>
    have hb := hB g bs rfl
    have hv : RepV w0 (fun b => b ≠ pb) v bs := ha
    obtain ⟨va, vn, vc, rfl⟩ := hv.form
    have hle1 := genBrs_le bs (G.add 4 0 0 g 0)
    have hl2 : (genAtm (.grp g bs) G).code.length = (genBrs bs (G.add 4 0 0 g 0)).code.length + 1 := add_len _ _ _ _ _ _
    rw [add_len] at hle1
    have H := Lib.hid h
    have hlt : w.heap.size < (w.alloc (.cells #[.int .i64 6, .int .i32 0, .bool false, .int .u8 0, .bool false, .slice none 0 0, .bool false, .int .i64 g, .slice va vn vc] 74)).heap.size := by simp
    unfold aV Atm.what Atm.r Atm.gn
    go_enter Tryd.func49, Tryd.ntmps49
    go_wp2_with fail
    refine (add_lay (H.out.new _) (by omega) 4 0 0 g 0).mono ?_
    rintro e w1 ⟨rfl, g1, c1, ls1, h1⟩
    have X1 := h1.old (List.mem_cons_self ..)
    have x5 := X1.cell (j := 7) rfl
    have x6 := X1.cell (j := 8) rfl
    have H1 := Lib.hid h1
    have V1 := Lib.hid (RepV.turn hv h1.turn (fun b _ hb => ⟨hb, hb⟩))
    clear h1 X1 hv
    go_wp2_with fail
    refine (hb _ _ _ _ _ _ _ H1.out (fun q o hq => by
      rcases List.mem_cons.1 hq with hq | hq
      · cases hq; exact H.out.turn.size
      · exact hK q o hq) ha (by omega)).mono ?_
    rintro e w2 ⟨rfl, cv2, iv2, ls2, h2⟩
    have X2 := h2.old (List.mem_cons_self ..)
    have y5 := X2.cell (j := 7) rfl
    have H2 := Lib.hid h2
    clear h2 X2
    go_wp2_with (go_at_call 23; refine (add_lay H2.out (by omega) 5 0 0 g 0).mono ?_; rintro e w3 ⟨rfl, g3, c3, ls3, h3⟩)
    go_end0
    exact ⟨rfl, _, _, _, h3.sub fun x hx => List.mem_cons_of_mem _ hx⟩

end Go.Proofs.YtlanodchnjojoaaDoor

namespace Go.Proofs.YtlanodchnjojoaaDoor
open Go.RowKit

variable {w0 w w3 : World} {pb : Nat} {bv : Value} {ng z : Nat} {K K0 : List (Nat × Obj)} {G : Gs} {cv iv : Value} {ls : List Value}

/-- The step at a place, as it lies in memory. -/
theorem LI.codeAt (h : LI w0 w pb bv ng z K G cv iv ls) {i : Nat} (hi : i < G.code.length) (j : Nat) (hj : j < 15) : ∃ cb cap v, cv = .slice (some ⟨cb, 0, none⟩) G.code.length cap ∧ w.cell? ⟨cb, i * 15 + j, none⟩ = some v ∧ w.frozen? ⟨cb, i * 15 + j, none⟩ = false := by
  have hc := @World.ownsRow.cells _ _ _ _ _ _ _ h.co
  rcases h.co.2 with ⟨rfl, h1⟩ | ⟨g, cap, cur, rfl, h2, h3, h4, h5, h6, h7⟩
  · omega
  · have hlen : i < ls.length := by rw [h.ll]; exact hi
    obtain ⟨v, hv⟩ : ∃ v, (cCells G.code ls)[i * 15 + j]? = some v := by
      rw [cCells_get _ _ i j _ _ (List.getElem?_eq_getElem hi) (List.getElem?_eq_getElem hlen) hj]
      exact ⟨_, List.getElem?_eq_getElem (by rw [stepCells_len]; exact hj)⟩
    have := hc rfl _ _ hv
    rw [add_addr] at this
    exact ⟨g, cap, v, rfl, this, by simp [World.frozen?, h3]⟩

theorem LI.putA (h : LI w0 w pb bv ng z K G cv iv ls) {cb n cap : Nat} (hc : cv = .slice (some ⟨cb, 0, none⟩) n cap) (i : Nat) (hi : i < G.code.length) (x : Int) {v : Nat} (hx : x = v) : LI w0 (w.setCell ⟨cb, i * 15 + 11, none⟩ (.int .i64 x)) pb bv ng z K (G.setA i v) cv iv ls := by
  subst hx
  exact h.step (by rw [hc]; rfl) i 11 _ (fun st => { st with a := v }) hi (by omega) (fun _ _ => rfl) fun _ => rfl
theorem LI.putB (h : LI w0 w pb bv ng z K G cv iv ls) {cb n cap : Nat} (hc : cv = .slice (some ⟨cb, 0, none⟩) n cap) (i : Nat) (hi : i < G.code.length) (x : Int) {v : Nat} (hx : x = v) : LI w0 (w.setCell ⟨cb, i * 15 + 12, none⟩ (.int .i64 x)) pb bv ng z K (G.setB i v) cv iv ls := by
  subst hx
  exact h.step (by rw [hc]; rfl) i 12 _ (fun st => { st with b := v }) hi (by omega) (fun _ _ => rfl) fun _ => rfl

/-- A list of places of the call's own, kept beside. -/
structure Ends (n0 : Nat) (w : World) (K0 KE : List (Nat × Obj)) (ev : Value) (ends : List Nat) : Prop where
  own : w.ownsRow n0 3 1 ev ends.length (natVals ends)
  ke : ∀ q o, (q, o) ∈ KE → ev.ownBlock = some q
  me : ∀ q, ev.ownBlock = some q → ∃ o, (q, o) ∈ KE
  dis : ∀ q, ev.ownBlock = some q → ∀ o, (q, o) ∉ K0

theorem Ends.nil (n0 : Nat) (w : World) (K0 : List (Nat × Obj)) : Ends n0 w K0 [] (.slice none 0 0) [] := ⟨World.ownsRow_nil _ _ _ _, fun _ _ h => by simp at h, (fun q h => by cases h), (fun q h => by cases h)⟩
/-- What stays of the list where the code is laid on. -/
theorem Ends.after {n0 : Nat} {KE : List (Nat × Obj)} {ev : Value} {ends : List Nat} (h : Ends n0 w K0 KE ev ends) (hl : LI w0 w pb bv ng z (KE ++ K0) G cv iv ls) {G' : Gs} {cv' iv' : Value} {ls' : List Value} (hl' : LI w0 w3 pb bv ng z (KE ++ K0) G' cv' iv' ls') : Ends n0 w3 K0 KE ev ends := by
  refine ⟨⟨h.own.1, ?_⟩, h.ke, h.me, h.dis⟩
  rcases h.own.2 with h1 | ⟨g, cap, cur, rfl, h2, h3, h4⟩
  · exact .inl h1
  · obtain ⟨o, ho⟩ := h.me g rfl
    have e1 := (hl.kp g o (List.mem_append_left _ ho)).1
    have e2 := (hl'.kp g o (List.mem_append_left _ ho)).1
    exact .inr ⟨g, cap, cur, rfl, h2, by rw [e2, ← e1, h3], h4⟩
/-- One place more. -/
theorem Ends.push {n0 : Nat} {KE : List (Nat × Obj)} {ev : Value} {ends : List Nat} {x : Nat} (h : Ends n0 w K0 KE ev ends) (hl : LI w0 w pb bv ng z (KE ++ K0) G cv iv ls) (hn0 : ∀ q o, (q, o) ∈ K0 → w0.heap.size ≤ q) (hw0 : w0.heap.size ≤ n0) {g cap : Nat}
    (hown : w3.ownsRow n0 3 1 (.slice (some ⟨g, 0, none⟩) (ends.length + 1) cap) (ends.length + 1) (natVals ends ++ [.int .i64 (x : Int)])) (hg : w.grownBy w3 ev.ownBlock) (hor : ev.ownBlock = some g ∨ g = w.heap.size) :
    ∃ KE', Ends n0 w3 K0 KE' (.slice (some ⟨g, 0, none⟩) (ends.length + 1) cap) (ends ++ [x]) ∧ LI w0 w3 pb bv ng z (KE' ++ K0) G cv iv ls := by
  obtain ⟨cur, hcur⟩ : ∃ cur, w3.heap[g]? = some (.cells cur 3 (0, 0)) := by
    rcases hown.2 with ⟨h1, _⟩ | ⟨g', cap', cur, h1, _, h3, _⟩
    · cases h1
    · cases h1; exact ⟨cur, h3⟩
  refine ⟨[(g, .cells cur 3 (0, 0))], ⟨?_, fun q o hq => ?_, fun q hq => ?_, fun q hq o ho => ?_⟩, ?_⟩
  · have e : natVals (ends ++ [x]) = natVals ends ++ [.int .i64 (x : Int)] := by simp [natVals]
    rw [e, List.length_append, List.length_singleton]
    exact hown
  · simp only [List.mem_singleton, Prod.mk.injEq] at hq
    rw [hq.1]; rfl
  · cases hq; exact ⟨_, List.mem_singleton.2 rfl⟩
  · cases hq
    rcases hor with h1 | h1
    · exact h.dis _ h1 o ho
    · have := get_lt (hl.kp g o (List.mem_append_right _ ho)).1; omega
  · refine hl.foreign hg.os hg.tape hg.output hg.size (fun b hb hn => hg.block b hb fun e => ?_) (fun q o hq => ?_) (fun q o hq => ?_)
    · obtain ⟨o, ho⟩ := h.me b e.symm
      exact hn o (List.mem_append_left _ ho)
    · rcases List.mem_append.1 hq with hq | hq
      · simp only [List.mem_singleton, Prod.mk.injEq] at hq
        obtain ⟨rfl, rfl⟩ := hq
        refine ⟨hcur, ?_⟩
        rcases hor with ho | ho
        · obtain ⟨o, ho'⟩ := h.me _ ho
          exact .inl ⟨o, List.mem_append_left _ ho'⟩
        · exact .inr (by omega)
      · have := (hl.kp q o (List.mem_append_right _ hq)).1
        refine ⟨(hg.block q (get_lt this) fun e => ?_).trans this, .inl ⟨o, List.mem_append_right _ hq⟩⟩
        exact h.dis _ e.symm o hq
    · rcases List.mem_append.1 hq with hq | hq
      · have h1 := h.own.lt _ (h.ke q o hq); omega
      · exact hn0 q o hq

/-- A row in memory stays where the pattern alone turns. -/
theorem RowIs.turn {S F F' : Nat → Prop} {v : Value} {n : Nat} {cs : List Value} (h : RowIs w F v n cs) (t : Turn S w w3) (hF : ∀ b, b < w.heap.size → F b → F' b ∧ ¬ S b) : RowIs w3 F' v n cs :=
  h.keep (fun b h1 h2 => (hF b h1 h2).1) t.size fun b h1 h2 => t.block b h1 (hF b h1 h2).2

theorem T.len_toL : ∀ t : T, t.toL.length = t.len
  | .cons _ r => by simp [T.toL, T.len, T.len_toL r]
  | .nil => rfl
  | .pl .. => rfl
  | .pg .. => rfl
  | .lst _ => rfl

end Go.Proofs.YtlanodchnjojoaaDoor
