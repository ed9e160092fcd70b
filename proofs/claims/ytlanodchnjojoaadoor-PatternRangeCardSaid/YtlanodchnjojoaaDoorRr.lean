/- The method All, and its iterator where it ends at once: a nil pattern, or a text that is too long. -/
import Derived.Test.YtlanodchnjojoaaDoorPi
import Derived.Test.YtlanodchnjojoaaDoorRk
namespace Go.Proofs.YtlanodchnjojoaaDoor
open Go.RowKit Go.Shelf
attribute [local go_sem] Oper.semAt_some

theorem all_met (pv : Value) (hpv : ∃ x, pv = .pointer x) (s : ByteArray) (w : World) :
    Calls Tryd.prog 9 #[pv, .string s] w fun e w' => e = .returned (.func (.func 17) #[] #[.pointer (some ⟨w.heap.size, 0, none⟩), .pointer (some ⟨w.heap.size + 1, 0, none⟩)]) ∧ w' = (w.alloc (.cells #[pv] 25)).alloc (.cells #[.string s] 9) := by
  obtain ⟨x, rfl⟩ := hpv
  have hmf : ∀ (fn : Fn) (first cap : Array Value) (w : World), (Instr.makeFunc fn first cap).run Tryd.prog w = .ok (.func fn first cap) w := fun _ _ _ _ => rfl
  go_enter Tryd.func9, Tryd.ntmps9
  go_wp2
  go_ret
  exact ⟨rfl, rfl⟩

set_option maxRecDepth 100000 in
theorem all1_early {α : Type} (encs : α → Array Value) {Kp : World → World → Prop} {N : Nat} (n : Nat) (Bp Bs n₀ : Nat) (pv : Value) (s : ByteArray) (hpv : pv = .pointer none ∨ ∃ b, pv = .pointer (some ⟨b, 0, none⟩) ∧ (65536 : Int) < (s.size : Int)) (w : World) (hn : n₀ = w.heap.size) (hBp : Bp < n₀) (hBs : Bs < n₀) (hp : w.cell? ⟨Bp, 0, none⟩ = some pv) (hs : w.cell? ⟨Bs, 0, none⟩ = some (.string s)) :
    SeqStopsK Fence.wide n Tryd.prog 17 #[.pointer (some ⟨Bp, 0, none⟩), .pointer (some ⟨Bs, 0, none⟩)] encs Kp (fun ys => ys = []) (fun _ => False) N w := fun l J Jx W hW hJ hJx hY h0 => by
  subst hn
  have cp := (hW.cell (p := ⟨Bp, 0, none⟩) hBp).trans hp
  have cs := (hW.cell (p := ⟨Bs, 0, none⟩) hBs).trans hs
  refine callsIn_of_wp Tryd.func17 rfl trivial ?_ rfl
  simp only [Tryd.ntmps17, List.size_toArray, List.length_cons, List.length_nil, Nat.reduceAdd, Nat.reduceSub, Array.replicate_succ, Array.replicate_zero, List.push_toArray, List.append_toArray, List.nil_append, List.cons_append]
  have hJ0 := Lib.hid h0
  clear hJ hJx hY h0 hp hs
  rcases hpv with rfl | ⟨b, rfl, hlen⟩
  · gi_wp2
    refine bodyPost_ret (results_none rfl _ _ _) rfl ?_
    exact ⟨⟨_, rfl⟩, .inl ⟨[], rfl, hJ0.out⟩⟩
  · gi_wp2
    refine bodyPost_ret (results_none rfl _ _ _) rfl ?_
    exact ⟨⟨_, rfl⟩, .inl ⟨[], rfl, hJ0.out⟩⟩

end Go.Proofs.YtlanodchnjojoaaDoor

namespace Go.Proofs.YtlanodchnjojoaaDoor
open Go.RowKit
attribute [local go_sem] Oper.semAt_some

theorem text_any {b0 R i : Nat} {w : World} {xs : Array Value} (hf : Ft xs b0) (h6 : Sl xs 6 (.string (XT R i))) (h7 : Sl xs 7 (.int .i64 (20 - 4 * (i : Int)))) (hi : i < 6) (hR : R < 16777216) (hc : w.cell? ⟨b0 + 1, 0, none⟩ = some (.int .i32 (R : Int)))
    {Q : Exit → Act → World → Prop} (hQ : ∀ xs w', Ft xs b0 → Sl xs 6 (.string (XT R (i + 1))) → Sl xs 7 (.int .i64 (20 - 4 * ((i + 1 : Nat) : Int))) → Turn (fun _ => False) w w' → Q .normal ⟨xs, []⟩ w') : Code.wp Tryd.prog textBody Q ⟨xs, []⟩ w := by
  have ht : (XT R i).size ≤ 100 := by rw [XT_size]; omega
  have hT : ∀ o, Turn (fun _ => False) w (w.alloc o) := fun o => (Turn.refl _ w).alloc o
  have : i = 0 ∨ i = 1 ∨ i = 2 ∨ i = 3 ∨ i = 4 ∨ i = 5 := by omega
  rcases this with rfl | rfl | rfl | rfl | rfl | rfl
  · exact text_0 hf h6 h7 hR ht hc fun xs a b c => hQ xs _ a b c (hT _)
  · exact text_1 hf h6 h7 hR ht hc fun xs a b c => hQ xs _ a b c (hT _)
  · exact text_2 hf h6 h7 hR ht hc fun xs a b c => hQ xs _ a b c (hT _)
  · exact text_3 hf h6 h7 hR ht hc fun xs a b c => hQ xs _ a b c (hT _)
  · exact text_4 hf h6 h7 hR ht hc fun xs a b c => hQ xs _ a b c (hT _)
  · exact text_5 hf h6 h7 hR ht hc fun xs a b c => hQ xs _ a b c (hT _)

set_option maxRecDepth 100000 in
set_option maxHeartbeats 2000000 in
theorem text_out {b0 : Nat} {w : World} {xs : Array Value} (hf : Ft xs b0) (h7 : Sl xs 7 (.int .i64 (-4))) {Q : Exit → Act → World → Prop} (hQ : ∀ xs', xs' = (xs.setIfInBounds 35 (.int .i64 (-4))).setIfInBounds 36 (.bool false) → Q (.exit 0) ⟨xs', []⟩ w) : Code.wp Tryd.prog textBody Q ⟨xs, []⟩ w := by
  have HQ := Lib.hid hQ
  obtain ⟨⟨sz, g2, g3, g4⟩, h5⟩ := hf
  unfold Sl at h5 h7
  clear hQ
  conv => arg 2; whnf
  repeat (first | go_skip | go_guarded | ((with_reducible refine wp_cond_true ?_ ?_); focus (simp [Act.eval, sz]; done)) | ((with_reducible refine wp_cond_false ?_ ?_); focus (simp [Act.eval, sz]; done)) | ((fail_if_success (with_reducible refine wp_cond_true ?_ ?_)); go_step) | go_upon)
  exact HQ.out _ rfl

set_option maxRecDepth 100000 in
set_option maxHeartbeats 2000000 in
theorem inner2_end {b0 ab mb it : Nat} {W : World} {xs : Array Value} {ds : List Deferred} (hf : F2 xs b0 ab mb it) (hnx : ∀ ty, (Instr.next (.pointer (some ⟨it, 0, none⟩)) true ty).run Tryd.prog W = .ok (.tuple #[.bool false]) W)
    {Q : Exit → Act → World → Prop} (hQ : ∀ xs, F2 xs b0 ab mb it → Q (.exit 6) ⟨xs, ds⟩ W) : Code.wp Tryd.prog inner2 Q ⟨xs, ds⟩ W := by
  have HF := Lib.hid hf
  have HQ := Lib.hid hQ
  obtain ⟨⟨sz, g2, g3, g4⟩, g10, _, g70⟩ := hf
  unfold Sl at g10 g70
  clear hQ
  conv => arg 2; whnf
  repeat (first | go_skip | go_guarded | ((with_reducible refine wp_cond_true ?_ ?_); focus (simp [Act.eval, sz]; done)) | ((with_reducible refine wp_cond_false ?_ ?_); focus (simp [Act.eval, sz]; done)) | ((fail_if_success (with_reducible refine wp_cond_true ?_ ?_)); go_step) | go_upon)
  exact HQ.out _ (by repeat (first | (with_reducible exact HF.out) | (with_reducible refine F2.set ?_ _ _ (by decide))))

/-- The range over a function itself. -/
def findRange : Code → Option Code
  | .rangeFunc g p a b => some (.rangeFunc g p a b)
  | .seq a b => match findRange a with
    | some c => some c
    | none => findRange b
  | .block _ c => findRange c
  | .loop c => findRange c
  | .scope c => findRange c
  | _ => none
noncomputable def rangeC : Code := (findRange restC).getD .skip

/-- What the law's own blocks hold between two rounds. -/
structure RI (w : World) (b0 ab R : Nat) (s : ByteArray) (j : Nat) (A : World) : Prop where
  c0 : Blk A b0 9 [.string s]
  c1 : Blk A (b0 + 1) 21 [.int .i32 (R : Int)]
  c2 : Blk A (b0 + 2) 4 [.bool false]
  ca : Blk A ab 3 [.int .i64 ((plcS s j : Nat) : Int)]
  low : Below w.heap.size w A
theorem RI.keep {w : World} {b0 ab R : Nat} {s : ByteArray} {j : Nat} {A A' : World} (h : RI w b0 ab R s j A) {B : Nat} (hb : Below B A A') (h1 : b0 + 2 < B) (h2 : ab < B) (h3 : w.heap.size ≤ B) : RI w b0 ab R s j A' :=
  ⟨h.c0.keep (hb.block _ (by omega)), h.c1.keep (hb.block _ (by omega)), h.c2.keep (hb.block _ (by omega)), h.ca.keep (hb.block _ (by omega)), h.low.trans (hb.mono h3)⟩

structure RAx (b0 ab n₁ : Nat) (s : ByteArray) (k : Nat) (a' : Act) (A : World) : Prop where
  ex : ∃ xs mb a m c, a' = ⟨xs, []⟩ ∧ Fg xs b0 ∧ Sl xs 10 (.pointer (some ⟨ab, 0, none⟩)) ∧ Sl xs 11 (.pointer (some ⟨mb, 0, none⟩)) ∧ n₁ ≤ mb ∧ Blk A mb 35 [.int .i64 ((plcS s k : Nat) : Int), .int .i64 ((plcS s (k + 1) : Nat) : Int), .slice a m c]

set_option maxRecDepth 100000 in
set_option maxHeartbeats 4000000 in
theorem range_rf {b0 ab R Bp Bs pb cb cap : Nat} {s : ByteArray} {w W : World} {X : Array Value} (hf : Fg X b0) (h10 : Sl X 10 (.pointer (some ⟨ab, 0, none⟩))) (h65 : Sl X 65 (.func (.func 17) #[] #[.pointer (some ⟨Bp, 0, none⟩), .pointer (some ⟨Bs, 0, none⟩)]))
    (hs : s.size ≤ 3000) (hI : RI w b0 ab R s 0 W) (hb : b0 = w.heap.size) (hab : b0 + 2 < ab) (hp : PatAt ab W pb cb cap (CR R) 0 0 2) (cp : W.cell? ⟨Bp, 0, none⟩ = some (.pointer (some ⟨pb, 0, none⟩))) (cs : W.cell? ⟨Bs, 0, none⟩ = some (.string s)) (hBp : Bp < W.heap.size) (hBs : Bs < W.heap.size)
    {Q : Exit → Act → World → Prop} (hQ : ∀ D W', W.heap.size ≤ D → RI w b0 ab R s (nextOf (hitsTo (hitK s R) (pieces s).length)) W' → W'.heap[D]? = some (.deferred (some [])) → Q .normal ⟨X, [{ target := .collected D, args := #[] }]⟩ W') :
    Code.wp Tryd.prog rangeC Q ⟨X, []⟩ W := by
  have habl := hI.ca.lt
  have h0l := hI.c2.lt
  have HS := all1_cells 3 (by omega) Bp Bs ab s (by omega) W hp (wfR R) (fun st hst h0 => by
      simp only [CR, List.mem_cons, List.not_mem_nil, or_false] at hst
      rcases hst with rfl | rfl
      · exact .inl rfl
      · cases h0) (hitK s R) (fun k t => CR_way) (fun k hk => by
      obtain ⟨h1, _⟩ := hitK_len hk
      obtain ⟨h2, h3⟩ := hitK_width hk
      exact ⟨h1, by omega⟩) (by omega) hBp hBs cp cs
  have sz := hf.sz
  refine (wpIn_wide (n := 4)).1 ?_
  have e : rangeC = Code.rangeFunc (.tmp 65) #[66] asgC bodyC := by kernel_rfl
  rw [e]
  refine wpIn_rangeCells (F := Fence.wide) (n := 4) rfl (by omega) (gf := 17) (lb := #[.pointer (some ⟨Bp, 0, none⟩), .pointer (some ⟨Bs, 0, none⟩)]) ?hg trivial (enters_of Tryd.func17 (by kernel_rfl) rfl) HS (Below.refl _ _) (by omega)
    (fun x v ⟨_, _, _, hv⟩ => by subst hv; rfl) (fun pre A => RI w b0 ab R s (nextOf pre) A) (fun pre A A' h hb' => h.keep hb' (by omega) habl (by omega)) hI (fun k a' A => RAx b0 ab W.heap.size s k a' A) ?hax ?assign ?body ?done
  case hg => simp [Act.eval, h65 (by rw [sz]; decide), sz]
  case hax =>
    rintro k a' A l r o ⟨xs, mb, a, m, c, rfl, h1, h2, h3, h4, h5⟩ hl
    refine ⟨xs, mb, a, m, c, rfl, h1, h2, h3, h4, h5.keep (World.putObj_heap_other fun e => ?_)⟩
    rw [e] at h5
    rw [show A.heap[l]? = _ from h5] at hl
    cases hl
  case assign =>
    rintro l pre k v A K ⟨a, m, c, rfl⟩ hIA hsz hK
    have HFX := Lib.hid hf
    have HX10 := Lib.hid h10
    have HK := Lib.hid hK
    clear hK hIA HS hQ h10 h65 hf hI hp cp cs e
    have ef : ∀ mv : Value, (#[66].zip #[mv]).foldl (fun (t : Array Value) (x : Nat × Value) => match x with | (p, v) => t.setIfInBounds p v) X = X.setIfInBounds 66 mv := fun mv => by simp
    dsimp only
    have ef' := ef (matchV (plcS s k) (plcS s (k + 1)) (.slice a m c))
    refine (congrArg (fun t => Code.wpIn (Fence.wide.inRound l) (4 - 1 - 1) Tryd.prog asgC (Exit.then K fun _ _ _ => False) { tmps := t, defers := [] } A) ef').mpr ?_
    clear ef ef'
    unfold matchV
    conv => arg 4; whnf
    repeat (first | gi_guarded | ((with_reducible refine wpIn_cond_true ?_ ?_); focus (simp [Act.eval, sz]; done)) | ((with_reducible refine wpIn_cond_false ?_ ?_); focus (simp [Act.eval, sz]; done)) | ((fail_if_success (with_reducible refine wpIn_cond_true ?_ ?_)); gi_step) | gi_upon)
    exact HK.out _ _ ((Turn.refl _ A).alloc _) ⟨_, A.heap.size, a, m, c, rfl, (by repeat (first | (with_reducible exact HFX.out) | (with_reducible refine Fg.set ?_ _ _ (by decide)))), (by repeat (first | (with_reducible exact Sl.same _) | (with_reducible exact HX10.out) | (with_reducible refine Sl.ne ?_ (by decide)))), (by repeat (first | (with_reducible exact Sl.same _) | (with_reducible exact HX10.out) | (with_reducible refine Sl.ne ?_ (by decide)))), by omega, Blk.new A 35 [.int .i64 ((plcS s k : Nat) : Int), .int .i64 ((plcS s (k + 1) : Nat) : Int), .slice a m c]⟩
  case body =>
    rintro l pre k a' A hIA ⟨xs, mb, a, m, c, rfl, hfg, hh10, hh11, hmb, hBM⟩ hsz hpre
    obtain ⟨hk, hkl, rfl⟩ := prefix_hits _ hpre
    refine body_met (j := nextOf (hitsTo (hitK s R) k)) hfg hh10 hh11 hIA.c0 hIA.c1 hIA.ca hBM (nextOf_hits k).1 (nextOf_hits k).2 hk hs (by omega) (by omega) (by omega) ?_
    intro a' W' hBA' hT
    refine ⟨rfl, hT.mono fun b _ h => by omega, ?_⟩
    rw [nextOf_snoc]
    exact ⟨hT.keep hIA.c0 (by omega), hT.keep hIA.c1 (by omega), hT.keep hIA.c2 (by omega), hBA', hIA.low.trans (turn_below hT (by omega) fun b h => by omega)⟩
  case done =>
    intro D W' hD hIW hdef
    exact hQ D W' hD hIW hdef

set_option maxRecDepth 100000 in
set_option maxHeartbeats 4000000 in
theorem range_rest {b0 R : Nat} {s : ByteArray} {w W : World} {xs : Array Value} (hf : Fg xs b0) (hR : okR R) (hs : s.size ≤ 3000) (hb : b0 = w.heap.size)
    (B0 : Blk W b0 9 [.string s]) (B1 : Blk W (b0 + 1) 21 [.int .i32 (R : Int)]) (B2 : Blk W (b0 + 2) 4 [.bool false]) (hw : Below w.heap.size w W)
    {Q : Exit → Act → World → Prop} (hQ : ∀ xs D w', Fg xs b0 → Blk w' (b0 + 2) 4 [.bool true] → Below w.heap.size w w' → w'.heap[D]? = some (.deferred (some [])) → b0 + 2 < D → Q .ret ⟨xs, [{ target := .collected D, args := #[] }]⟩ w') :
    Code.wp Tryd.prog restC Q ⟨xs, []⟩ W := by
  have hR24 : R < 16777216 := by have := hR.1; omega
  have HF := Lib.hid hf
  have HR := Lib.hid hR
  have HBB := Lib.hid hb
  have HQ := Lib.hid hQ
  have HB0 := Lib.hid B0
  have HB1 := Lib.hid B1
  have HB2 := Lib.hid B2
  have HW := Lib.hid hw
  obtain ⟨sz, g2, g3, g4⟩ := hf
  clear hQ B0 B1 B2 hw hR hb
  conv => arg 2; whnf
  repeat (first | go_skip | go_guarded | ((with_reducible refine wp_cond_true ?_ ?_); focus (simp [Act.eval, sz]; done)) | ((with_reducible refine wp_cond_false ?_ ?_); focus (simp [Act.eval, sz]; done)) | ((fail_if_success (with_reducible refine wp_cond_true ?_ ?_)); go_step) | go_upon)
  refine wp_of_eq (c := Code.loop textBody) (by kernel_rfl) ?_
  refine wp_loop_ghost (fun m a' W' => ∃ (xs : Array Value) (i : Nat), a' = ⟨xs, []⟩ ∧ Ft xs b0 ∧ Sl xs 6 (.string (XT R i)) ∧ Sl xs 7 (.int .i64 (20 - 4 * (i : Int))) ∧ i ≤ 6 ∧ Turn (fun _ => False) W W' ∧ m = 6 - i) 6
    ⟨_, 0, rfl, ⟨(by repeat (first | (with_reducible exact HF.out) | (with_reducible refine Fg.set ?_ _ _ (by decide)))), (by repeat (first | (with_reducible exact Sl.same _) | (with_reducible exact HF.out) | (with_reducible refine Sl.ne ?_ (by decide))))⟩, (show Sl _ 6 (.string ⟨#[92, 58]⟩) from (by repeat (first | (with_reducible exact Sl.same _) | (with_reducible exact HF.out) | (with_reducible refine Sl.ne ?_ (by decide))))), (show Sl _ 7 (.int .i64 20) from (by repeat (first | (with_reducible exact Sl.same _) | (with_reducible exact HF.out) | (with_reducible refine Sl.ne ?_ (by decide))))), by omega, Turn.refl _ _, rfl⟩ ?_
  rintro m a' W' ⟨xs1, i, rfl, hf1, h6, h7, hi, ht, hm⟩
  by_cases hi6 : i < 6
  · refine text_any hf1 h6 h7 hi6 hR24 ((ht.keep HB1.out fun h => h).cell rfl) ?_
    intro xs2 w2 hf2 h62 h72 ht2
    exact ⟨6 - (i + 1), by omega, xs2, i + 1, rfl, hf2, h62, h72, hi6, ht.trans (ht2.mono fun b _ h => h), rfl⟩
  · have hi6' : i = 6 := by omega
    subst hi6'
    refine text_out hf1 h7 ?_
    intro xs2 hx2
    subst hx2
    have HF1 := Lib.hid hf1
    have HT := Lib.hid ht
    obtain ⟨⟨sz, g2, g3, g4⟩, h5⟩ := hf1
    unfold Sl at h5 h6 h7
    have hcl : (XT R 6).size + 1 ≤ 9223372036854775807 := by rw [XT_size]; omega
    clear ht hm
    go_simp
    repeat (first | go_skip | go_guarded | ((with_reducible refine wp_cond_true ?_ ?_); focus (simp [Act.eval, sz]; done)) | ((with_reducible refine wp_cond_false ?_ ?_); focus (simp [Act.eval, sz]; done)) | ((fail_if_success (with_reducible refine wp_cond_true ?_ ?_)); go_step) | go_upon)
    refine (compileR HR.out _).mono ?_
    rintro e w1 ⟨⟨pb, cb, cap, rfl, hp⟩, hb1⟩
    have hW1 : Below w.heap.size w w1 := (HW.out.trans ((turn_below (B := W.heap.size) HT.out (Nat.le_refl _) fun b h => h.elim).mono HW.out.size)).trans (hb1.mono (Nat.le_trans HW.out.size HT.out.size))
    have C0 := Lib.hid (below_keeps' hb1 (HT.out.keep HB0.out fun h => h))
    have C1 := Lib.hid (below_keeps' hb1 (HT.out.keep HB1.out fun h => h))
    have C2 := Lib.hid (below_keeps' hb1 (HT.out.keep HB2.out fun h => h))
    have HP := Lib.hid hp
    have HW1 := Lib.hid hW1
    have c0 := C0.out.cell (j := 0) rfl
    have l0 := C0.out.lt
    clear hp hb1 hW1 HT HB0 HB1 HB2 HW
    go_simp
    repeat (first | go_skip | go_guarded | ((with_reducible refine wp_cond_true ?_ ?_); focus (simp [Act.eval, sz]; done)) | ((with_reducible refine wp_cond_false ?_ ?_); focus (simp [Act.eval, sz]; done)) | ((fail_if_success (with_reducible refine wp_cond_true ?_ ?_)); go_step) | go_upon)
    refine (all_met _ ⟨_, rfl⟩ _ _).mono ?_
    rintro e w2 ⟨rfl, rfl⟩
    go_simp
    repeat (first | go_skip | go_guarded | ((with_reducible refine wp_cond_true ?_ ?_); focus (simp [Act.eval, sz]; done)) | ((with_reducible refine wp_cond_false ?_ ?_); focus (simp [Act.eval, sz]; done)) | ((fail_if_success (with_reducible refine wp_cond_true ?_ ?_)); go_step) | go_upon)
    have HFG := Lib.hid HF1.out.g
    have hz1 := HW1.out.size
    have hl2 := C2.out.lt
    have hBA : Below w1.heap.size w1 ((((w1.alloc (.cells #[.int .i64 0, .int .i64 0] 28)).alloc (.cells #[.int .i64 0] 3)).alloc (.cells #[.pointer (some ⟨pb, 0, none⟩)] 25)).alloc (.cells #[.string s] 9)) :=
      ((((Below.refl _ w1).alloc (Nat.le_refl _) _).alloc (by simp) _).alloc (by simp; omega) _).alloc (by simp; omega) _
    have hRI : RI w b0 (w1.heap.size + 1) R s 0 ((((w1.alloc (.cells #[.int .i64 0, .int .i64 0] 28)).alloc (.cells #[.int .i64 0] 3)).alloc (.cells #[.pointer (some ⟨pb, 0, none⟩)] 25)).alloc (.cells #[.string s] 9)) :=
      ⟨(((C0.out.alloc _).alloc _).alloc _).alloc _, (((C1.out.alloc _).alloc _).alloc _).alloc _, (((C2.out.alloc _).alloc _).alloc _).alloc _, (by
        rw [plcS_zero]
        exact ((Blk.newAt (w := w1.alloc (.cells #[.int .i64 0, .int .i64 0] 28)) (b := w1.heap.size + 1) (by simp) 3 [.int .i64 0]).alloc _).alloc _), HW1.out.trans (hBA.mono hz1)⟩
    have hcp := ((Blk.newAt (w := (w1.alloc (.cells #[.int .i64 0, .int .i64 0] 28)).alloc (.cells #[.int .i64 0] 3)) (b := w1.heap.size + 1 + 1) (by simp) 25 [.pointer (some ⟨pb, 0, none⟩)]).alloc (.cells #[.string s] 9)).cell (j := 0) rfl
    have hcs := (Blk.newAt (w := ((w1.alloc (.cells #[.int .i64 0, .int .i64 0] 28)).alloc (.cells #[.int .i64 0] 3)).alloc (.cells #[.pointer (some ⟨pb, 0, none⟩)] 25)) (b := w1.heap.size + 1 + 1 + 1) (by simp) 9 [.string s]).cell (j := 0) rfl
    have hz5 : ((((w1.alloc (.cells #[.int .i64 0, .int .i64 0] 28)).alloc (.cells #[.int .i64 0] 3)).alloc (.cells #[.pointer (some ⟨pb, 0, none⟩)] 25)).alloc (.cells #[.string s] 9)).heap.size = w1.heap.size + 4 := by simp
    have hPP := HP.out.up (B' := w1.heap.size + 1) (by omega) hBA
    clear hBA c0 l0
    generalize ((((w1.alloc (.cells #[.int .i64 0, .int .i64 0] 28)).alloc (.cells #[.int .i64 0] 3)).alloc (.cells #[.pointer (some ⟨pb, 0, none⟩)] 25)).alloc (.cells #[.string s] 9)) = W5 at *
    refine wp_of_eq (c := rangeC) (by kernel_rfl) ?_
    refine range_rf (ab := w1.heap.size + 1) (Bp := w1.heap.size + 1 + 1) (Bs := w1.heap.size + 1 + 1 + 1) (by repeat (first | (with_reducible exact HFG.out) | (with_reducible refine Fg.set ?_ _ _ (by decide)))) (by repeat (first | (with_reducible exact Sl.same _) | (with_reducible exact HF1.out) | (with_reducible refine Sl.ne ?_ (by decide)))) (by repeat (first | (with_reducible exact Sl.same _) | (with_reducible exact HF1.out) | (with_reducible refine Sl.ne ?_ (by decide)))) hs hRI HBB.out (by omega) hPP hcp hcs (by omega) (by omega) ?_
    intro D W6 hD hI6 hdef
    obtain ⟨j, hj⟩ : ∃ j, j = nextOf (hitsTo (hitK s R) (pieces s).length) := ⟨_, rfl⟩
    obtain ⟨hjl, hjno⟩ := nextOf_hits (hit := hitK s R) (pieces s).length
    rw [← hj] at hI6 hjl hjno
    obtain ⟨A, hA⟩ : ∃ A, A = plcS s j := ⟨_, rfl⟩
    have hAl : A ≤ s.size := by
      have := plcS_le (s := s) (j := j) (k := (pieces s).length) hjl (Nat.le_refl _)
      rw [plcS_end, ← hA] at this; exact this
    have D0 := hI6.c0
    have D1 := hI6.c1
    have D2 := hI6.c2
    have DA := hI6.ca
    rw [← hA] at DA
    have E0 := Lib.hid D0
    have E1 := Lib.hid D1
    have E2 := Lib.hid D2
    have EA := Lib.hid DA
    have EL := Lib.hid hI6.low
    have ED := Lib.hid hdef
    have HJ := Lib.hid hj
    have HA := Lib.hid hA
    have HJN := Lib.hid hjno
    have c0 := D0.cell (j := 0) rfl
    have c2 := DA.cell (j := 0) rfl
    have m0 := D0.lt
    have m2 := DA.lt
    have hAI : (0 : Int) ≤ (A : Int) ∧ (A : Int) ≤ (s.size : Int) := by omega
    clear hI6 D0 D1 D2 DA hdef hj hA hjno hRI hcp hcs hPP C0 C1 C2 HP
    go_simp
    repeat (first | go_skip | go_guarded | ((with_reducible refine wp_cond_true ?_ ?_); focus (simp [Act.eval, sz]; done)) | ((with_reducible refine wp_cond_false ?_ ?_); focus (simp [Act.eval, sz]; done)) | ((fail_if_success (with_reducible refine wp_cond_true ?_ ?_)); go_step) | go_upon)
    have hq0 : plcS s j - A = 0 := by have := HA.out; omega
    have h6l : b0 + 2 < W6.heap.size := E2.out.lt
    refine wp_of_eq (c := Code.loop inner2) (by kernel_rfl) ?_
    refine wp_loop_ghost (fun m a' W' => ∃ (xs : Array Value) (q : Nat), a' = ⟨xs, [{ target := .collected D, args := #[] }]⟩ ∧ F2 xs b0 (w1.heap.size + 1) 0 W6.heap.size ∧ j ≤ q ∧ q ≤ (pieces s).length ∧ W'.heap[W6.heap.size]? = some (.stringIter (s.extract A s.size) (plcS s q - A)) ∧ Turn (fun _ => False) W6 W' ∧ m = (pieces s).length - q) ((pieces s).length - j)
      ⟨_, j, rfl, ⟨(by repeat (first | (with_reducible exact HFG.out) | (with_reducible refine Fg.set ?_ _ _ (by decide)))), (by repeat (first | (with_reducible exact Sl.same _) | (with_reducible exact HF1.out) | (with_reducible refine Sl.ne ?_ (by decide)))), rfl, (by repeat (first | (with_reducible exact Sl.same _) | (with_reducible exact HF1.out) | (with_reducible refine Sl.ne ?_ (by decide))))⟩, Nat.le_refl _, hjl, by rw [hq0]; exact World.iter_heap W6 _ 0, (Turn.refl _ W6).alloc _, rfl⟩ ?_
    rintro m' a' W7 ⟨xs3, q, rfl, hf3, hjq, hql, hit, ht7, hm7⟩
    have hAq : A ≤ plcS s q := by rw [HA.out]; exact plcS_le hjq (by omega)
    by_cases hq : q < (pieces s).length
    · obtain ⟨w8, hnx, hw8⟩ := next_tail hAq hq hit
      have hAp : A + (plcS s q - A) = plcS s q := by omega
      have hqlt := (plcS_lt hq).1
      have ht8 : Turn (fun _ => False) W6 w8 := by rw [hw8]; exact turn_put_new ht7 (Nat.le_refl _) _
      have hitlt := (Array.getElem?_eq_some_iff.1 hit).1
      have hit8 : w8.heap[W6.heap.size]? = some (.stringIter (s.extract A s.size) (plcS s (q + 1) - A)) := by rw [hw8]; exact World.putObj_heap_same hitlt
      refine inner2_round hf3 hnx ((ht8.keep E0.out fun h => h).cell rfl) ((ht8.keep E1.out fun h => h).cell rfl) ((ht8.keep EA.out fun h => h).cell rfl) ((ht8.keep EA.out fun h => h).frozen 0) hs (by omega) (b := hitK s R q) (by rw [hAp]; unfold hitK metR; simp [hq]) ?_ ?_
      · intro hb xs4 hf4
        exact ⟨(pieces s).length - (q + 1), by omega, xs4, q + 1, rfl, hf4, by omega, hq, hit8, ht8, rfl⟩
      · intro hb
        rw [HJN.out q hjq hq] at hb
        cases hb
    · have hqe : q = (pieces s).length := by omega
      have hnx : ∀ ty, (Instr.next (.pointer (some ⟨W6.heap.size, 0, none⟩)) true ty).run Tryd.prog W7 = .ok (.tuple #[.bool false]) W7 := fun ty => run_next_over hit ty (by rw [Lib.tail_size, hqe, plcS_end]; omega)
      refine inner2_end hf3 hnx ?_
      intro xs4 hf4
      have HF4 := Lib.hid hf4
      have G2 := Lib.hid (ht7.keep E2.out fun h => h)
      have GD := Lib.hid ((ht7.block _ (get_lt ED.out) fun h => h).trans ED.out)
      have GL := Lib.hid (EL.out.trans ((turn_below (B := W6.heap.size) ht7 (Nat.le_refl _) fun b h => h.elim).mono EL.out.size))
      obtain ⟨⟨sz, g2, g3, g4⟩, _, _, _⟩ := hf4
      have x0 := G2.out.cell (j := 0) rfl
      have u0 := G2.out.frozen 0
      have l7 := G2.out.lt
      clear hf3 hit ht7 hnx hm7 hqe c0 c2 m0 m2
      repeat (first | go_skip | go_guarded | ((with_reducible refine wp_cond_true ?_ ?_); focus (simp [Act.eval, sz]; done)) | ((with_reducible refine wp_cond_false ?_ ?_); focus (simp [Act.eval, sz]; done)) | ((fail_if_success (with_reducible refine wp_cond_true ?_ ?_)); go_step) | go_upon)
      refine HQ.out _ D _ (by repeat (first | (with_reducible exact HF4.out.g) | (with_reducible refine Fg.set ?_ _ _ (by decide)))) (G2.out.set 0 _) (GL.out.setCell (p := ⟨b0 + 2, 0, none⟩) (by rw [HBB.out]; exact Nat.le_add_right _ _) _) ((Below.heap_setCell W7 ⟨b0 + 2, 0, none⟩ _ D (by have := hz5; show D ≠ b0 + 2; omega)).trans GD.out) (by omega)

end Go.Proofs.YtlanodchnjojoaaDoor
