/- The pattern's method part. -/
import Derived.Test.YtlanodchnjojoaaDoorLp0
namespace Go.Proofs.YtlanodchnjojoaaDoor
open Go.RowKit

set_option maxRecDepth 100000 in
set_option maxHeartbeats 16000000 in
theorem partLay_step {w0 : World} {pb : Nat} {bv : Value} {ng z : Nat} {a : Atm} {va : Option Addr} {vn vc : Nat} (ha : AtmV w0 (fun b => b ≠ pb) a (.slice va vn vc)) (hwl : ∀ what r, a = .leaf what r → what ≤ 1) (hB : ∀ g bs, a = .grp g bs → BrLay w0 pb bv ng z bs) {l : Nat} {m : Int} {zz : Nat}
    (hl : l ≤ 255) (hm0 : -1 ≤ m) (hm1 : m ≤ 255) {w : World} {K : List (Nat × Obj)} {G : Gs} {cv iv : Value} {ls : List Value}
    (h : LI w0 w pb bv ng z K G cv iv ls) (hK : ∀ q o, (q, o) ∈ K → w0.heap.size ≤ q) (hsm : (genPart (genAtm a) l m G).code.length ≤ 5000) :
    Calls Tryd.prog 31 #[.pointer (some ⟨pb, 0, none⟩), .agg #[.int .i64 a.what, .int .i32 a.r, .bool false, .int .u8 0, .bool false, .slice none 0 0, .bool false, .int .i64 a.gn, .slice va vn vc, .int .i64 l, .int .i64 m, .int .i64 zz]] w fun e w' => e = .returned (.tuple #[]) ∧ ∃ cv' iv' ls', LI w0 w' pb bv ng z K (genPart (genAtm a) l m G) cv' iv' ls' := by
  have hf := genAtm_le a
  have hmx : Tryd.prog.follows .mixedOrders = true := by kernel_rfl
  obtain ⟨j0, hj0, hy0, hy1, hy2⟩ := info_parts Tryd.infoInt
  have hs1 : (iter (genAtm a) l G).code.length ≤ 5000 := by
    refine Nat.le_trans ?_ hsm
    unfold genPart
    simp only [Int.toNat_natCast]
    split
    · have h2 := hf (loop0 (iter (genAtm a) l G))
      rw [loop0_len] at h2
      simp only [setB_len, add_len]
      omega
    · have h2 := iter_le (genOpt (genAtm a)) (fun x : Gs × List Nat => x.1.code.length) (fun x => Nat.le_of_succ_le (genOpt_le hf x)) (m - (l : Int)).toNat (iter (genAtm a) l G, [])
      simp only [setBs_len]
      exact h2
  have hK1 : ∀ q o, (q, o) ∈ (w.heap.size, Obj.cells #[.int .i64 a.what, .int .i32 a.r, .bool false, .int .u8 0, .bool false, .slice none 0 0, .bool false, .int .i64 a.gn, .slice va vn vc, .int .i64 l, .int .i64 m, .int .i64 zz] 76 (0, 0)) :: K → w0.heap.size ≤ q := fun q o hq => by
    rcases List.mem_cons.1 hq with hq | hq
    · cases hq; exact h.turn.size
    · exact hK q o hq
  have hn := Lib.hid (h.new (.cells #[.int .i64 a.what, .int .i32 a.r, .bool false, .int .u8 0, .bool false, .slice none 0 0, .bool false, .int .i64 a.gn, .slice va vn vc, .int .i64 l, .int .i64 m, .int .i64 zz] 76))
  have HF := Lib.hid hf
  clear hf
  go_enter Tryd.func31, Tryd.ntmps31
  go_wp2_with fail
  go_loopg [12] l (fun k s12 wx => ∃ (i : Nat) (cv iv : Value) (ls : List Value), s12 = .int .i64 i ∧ i + k = l ∧ LI w0 wx pb bv ng z ((w.heap.size, Obj.cells #[.int .i64 a.what, .int .i32 a.r, .bool false, .int .u8 0, .bool false, .slice none 0 0, .bool false, .int .i64 a.gn, .slice va vn vc, .int .i64 l, .int .i64 m, .int .i64 zz] 76 (0, 0)) :: K) (iter (genAtm a) i G) cv iv ls)
  case atStart => exact ⟨0, cv, iv, ls, rfl, by omega, hn.out⟩
  case round =>
    obtain ⟨i, cv1, iv1, ls1, rfl, hi, hI⟩ := hrel
    cases gk with
    | succ k =>
      have hii : (i : Int) < (l : Int) := by omega
      have wi : IntKind.i64.wrap ((i : Int) + 1) = (i : Int) + 1 := by rw [IntKind.wrap_i64]; omega
      have hb : (genAtm a (iter (genAtm a) i G)).code.length ≤ 5000 := by
        have e := iter_succ (genAtm a) i G
        rw [← e]
        exact Nat.le_trans (iter_le2 (genAtm a) (fun s : Gs => s.code.length) HF.out G l (i + 1) (by omega)) hs1
      have x0 := (LI.old hI (List.mem_cons_self ..)).cell (j := 0) rfl
      have x1 := (LI.old hI (List.mem_cons_self ..)).cell (j := 1) rfl
      have x2 := (LI.old hI (List.mem_cons_self ..)).cell (j := 2) rfl
      have x3 := (LI.old hI (List.mem_cons_self ..)).cell (j := 3) rfl
      have x4 := (LI.old hI (List.mem_cons_self ..)).cell (j := 4) rfl
      have x5 := (LI.old hI (List.mem_cons_self ..)).cell (j := 5) rfl
      have x6 := (LI.old hI (List.mem_cons_self ..)).cell (j := 6) rfl
      have x7 := (LI.old hI (List.mem_cons_self ..)).cell (j := 7) rfl
      have x8 := (LI.old hI (List.mem_cons_self ..)).cell (j := 8) rfl
      have HI := Lib.hid hI
      clear hI
      go_wp2_with (go_at_call 49; refine (atom_lay HI.out hK1 ha hwl hB hb).mono ?_; rintro e w2 ⟨rfl, cv2, iv2, ls2, h2⟩)
      go_roundg k
      case measure => omega
      case rel => exact ⟨i + 1, cv2, iv2, ls2, by push_cast; rfl, by omega, by have e := iter_succ (genAtm a) i G; rw [e]; exact h2⟩
    | zero =>
      have hil : i = l := by omega
      subst hil
      have hii : ¬ ((i : Int) < (i : Int)) := by omega
      have x0 := (LI.old hI (List.mem_cons_self ..)).cell (j := 0) rfl
      have x1 := (LI.old hI (List.mem_cons_self ..)).cell (j := 1) rfl
      have x2 := (LI.old hI (List.mem_cons_self ..)).cell (j := 2) rfl
      have x3 := (LI.old hI (List.mem_cons_self ..)).cell (j := 3) rfl
      have x4 := (LI.old hI (List.mem_cons_self ..)).cell (j := 4) rfl
      have x5 := (LI.old hI (List.mem_cons_self ..)).cell (j := 5) rfl
      have x6 := (LI.old hI (List.mem_cons_self ..)).cell (j := 6) rfl
      have x7 := (LI.old hI (List.mem_cons_self ..)).cell (j := 7) rfl
      have x8 := (LI.old hI (List.mem_cons_self ..)).cell (j := 8) rfl
      have x9 := (LI.old hI (List.mem_cons_self ..)).cell (j := 9) rfl
      have x10 := (LI.old hI (List.mem_cons_self ..)).cell (j := 10) rfl
      have x11 := (LI.old hI (List.mem_cons_self ..)).cell (j := 11) rfl
      obtain ⟨ia, inn, ic, rfl⟩ := own_form hI.io
      have HI := Lib.hid hI
      clear hI
      by_cases hm : m < 0
      · skip
        have p4 := HI.out.pat.cell (j := 4) (v := .int .i64 ((iter (genAtm a) i G).loops : Int)) rfl
        have wL : IntKind.i64.wrap (((iter (genAtm a) i G).loops : Int) + 1) = ((iter (genAtm a) i G).loops : Int) + 1 := by have := HI.out.b1; rw [IntKind.wrap_i64]; omega
        go_wp2_with fail
        refine wp_region_fork [0, 1, 3, 4, 5] 2 6 [7] [8] hmx (by kernel_rfl) (by intro c a d v w h; cases d <;> exact h) ?_
        simp only [pickL, List.drop_succ_cons, List.drop_zero, List.cons_append, List.nil_append]
        refine ⟨.pointer (some ⟨pb, 0, none⟩), .inl ⟨rfl, fun w => by go_simp⟩, .agg #[.int .i64 2, .int .i64 0, .int .i32 0, .bool false, .int .u8 0, .bool false, .slice none 0 0, .bool false, .int .i64 0, .slice none 0 0, .int .i64 0, .int .i64 0, .int .i64 0, .slice none 0 0, .int .i64 0], .inl ⟨rfl, fun w => by go_simp⟩, .pointer (some ⟨pb, 0, none⟩), .inl ⟨rfl, fun w => by go_simp⟩, .pointer (some ⟨pb, 0, none⟩), .inl ⟨rfl, fun w => by go_simp⟩, .pointer (some ⟨pb, 4, none⟩), .inl ⟨rfl, fun w => by go_simp⟩, ?_⟩
        refine wpPure_nil ⟨?_, ?_⟩
        · go_wp2_with fail
          refine (add_lay HI.out.drew (by omega) 2 0 0 0 0).mono ?_
          rintro e w2 ⟨rfl, g2, c2, ls2, h2⟩
          have q3 := h2.pat.cell (j := 3) (v := .slice (some ⟨g2, 0, none⟩) ((iter (genAtm a) i G).code.length + 1) c2) rfl
          have q4 := h2.pat.cell (j := 4) (v := .int .i64 ((iter (genAtm a) i G).loops : Int)) rfl
          have f4 := h2.pat.frozen 4
          have H2 := Lib.hid h2
          clear h2
          go_wp2_with fail
          refine ⟨.int .i64 ((iter (genAtm a) i G).code.length : Int), .inl ⟨rfl, fun w => by go_simp⟩, ?_⟩
          refine wpPure_nil ?_
          have n1 := add_len (iter (genAtm a) i G) 2 0 0 0 0
          have hb1 := HI.out.b1
          have hb2 := HI.out.b2
          have H7 := Lib.hid (LI.loopsUp H2.out (by show (iter (genAtm a) i G).loops + 1 ≤ ((iter (genAtm a) i G).add 2 0 0 0 0).code.length; omega) (((iter (genAtm a) i G).loops : Int) + 1) (by push_cast; rfl))
          go_wp2_with fail
          obtain ⟨cb, cap, vv, hcv, hcell, hfrz⟩ := H7.out.codeAt (i := (iter (genAtm a) i G).code.length) (by show (iter (genAtm a) i G).code.length < ((iter (genAtm a) i G).add 2 0 0 0 0).code.length; omega) 11 (by omega)
          injection hcv with e1 e2 e3
          injection e1 with e1
          injection e1 with e1
          subst e1
          clear e2 e3
          have q37 := H7.out.pat.cell (j := 3) (v := .slice (some ⟨g2, 0, none⟩) ((iter (genAtm a) i G).code.length + 1) c2) rfl
          have hx0 : (0 : Int) ≤ ((iter (genAtm a) i G).code.length : Int) := Int.natCast_nonneg _
          have hx1 : ((iter (genAtm a) i G).code.length : Int) < ((iter (genAtm a) i G).code.length : Int) + 1 := by omega
          clear q3 q4 f4
          clear n1
          generalize w2.setCell ⟨pb, 4, none⟩ (.int .i64 (((iter (genAtm a) i G).loops : Int) + 1)) = w7 at *
          refine wp_region_still_tail 12 hmx (by kernel_rfl) ?_; simp only [List.take_succ_cons, List.take_zero, List.drop_succ_cons, List.drop_zero]; (repeat ((with_reducible refine wpStill_step (fun K hK => ?_)); go_simp; (with_reducible refine hK _ ?_); clear hK K)); (with_reducible refine wpStill_nil ?_)
          go_wp2_with fail
          have n1 := add_len (iter (genAtm a) i G) 2 0 0 0 0
          have H8 := Lib.hid (LI.putA H7.out.drew rfl (iter (genAtm a) i G).code.length (by show (iter (genAtm a) i G).code.length < ((iter (genAtm a) i G).add 2 0 0 0 0).code.length; omega) (((iter (genAtm a) i G).code.length : Int) + 1) (v := ((iter (genAtm a) i G).add 2 0 0 0 0).code.length) (by omega))
          refine (add_lay H8.out (by rw [setA_len]; show ((iter (genAtm a) i G).add 2 0 0 0 0).code.length ≤ 50000; omega) 6 0 0 (iter (genAtm a) i G).loops 0).mono ?_
          rintro e w9 ⟨rfl, g9, c9, ls9, h9⟩
          clear n1
          have r5 := h9.pat.cell (j := 5) (v := .slice ia inn ic) rfl
          have H9 := Lib.hid h9
          clear h9 hcell hfrz q37
          have np1 : ¬ w.heap.size = pb := by have := h.pbw; omega
          have np2 : ¬ pb = w.heap.size := by have := h.pbw; omega
          have n2 : (loop0 (iter (genAtm a) i G)).code.length = (iter (genAtm a) i G).code.length + 2 := loop0_len (iter (genAtm a) i G)
          have hi9 : (iter (genAtm a) i G).ins.length + 1 ≤ (loop0 (iter (genAtm a) i G)).code.length := by omega
          have hb12 := HF.out (loop0 (iter (genAtm a) i G))
          have hgp : (genPart (genAtm a) (i : Int) m G).code.length = (genAtm a (loop0 (iter (genAtm a) i G))).code.length + 1 := by
            unfold genPart
            rw [if_pos hm, Int.toNat_natCast, setB_len]
            exact add_len _ _ _ _ _ _
          go_wp2_with (at_builtin; refine wpList_append_lies _ (by rfl) _ _ _ (by rfl) w0.heap.size 3 j0 _ 1 8 Tryd.underlying54 hj0 hy0 hy1 hy2 rfl (by omega) (.slice ia inn ic) (iter (genAtm a) i G).ins.length (natVals (iter (genAtm a) i G).ins) (by rfl) (H9.out.alloc _).io ⟨w9.heap.size, 0, none⟩ 1 1 [.int .i64 ((iter (genAtm a) i G).loops : Int)] (by rfl) (by rfl) (World.news_of_block (cs := #[.int .i64 ((iter (genAtm a) i G).loops : Int)]) (t := 3) (fr := (0, 0)) (heap_alloc_new _ _)) (by simp [Value.oneCell']) (by omega) (by unfold maxLen; omega) (by omega) (by have := H9.out.turn.size; simp; omega) (w9.heap.size + 1) (by simp) ?_; intro gg cap w10 hown1 hgrow hat hlt; have s5 : w10.cell? ⟨pb, 5, none⟩ = some (.slice ia inn ic) := (Blk.grown (H9.out.alloc (.cells #[.int .i64 ((iter (genAtm a) i G).loops : Int)] 3)).pat hgrow (fun e => by have := H9.out.io.lt _ e.symm; have := H9.out.pblt; omega)).cell (j := 5) rfl; have f5 : w10.frozen? ⟨pb, 5, none⟩ = false := (Blk.grown (H9.out.alloc (.cells #[.int .i64 ((iter (genAtm a) i G).loops : Int)] 3)).pat hgrow (fun e => by have := H9.out.io.lt _ e.symm; have := H9.out.pblt; omega)).frozen 5; have H10 := Lib.hid (LI.insPush (x := (iter (genAtm a) i G).loops) (H9.out.alloc (.cells #[.int .i64 ((iter (genAtm a) i G).loops : Int)] 3)) hi9 hown1 hgrow (hat.imp id fun e => by simp; omega)); have Y := Blk.grown ((H9.out.alloc (.cells #[.int .i64 ((iter (genAtm a) i G).loops : Int)] 3)).old (List.mem_cons_self ..)) hgrow (fun e => ((H9.out.alloc (.cells #[.int .i64 ((iter (genAtm a) i G).loops : Int)] 3)).kp _ _ (List.mem_cons_self ..)).2.2.2 e.symm); have y0 := Y.cell (j := 0) rfl; have y1 := Y.cell (j := 1) rfl; have y2 := Y.cell (j := 2) rfl; have y3 := Y.cell (j := 3) rfl; have y4 := Y.cell (j := 4) rfl; have y5 := Y.cell (j := 5) rfl; have y6 := Y.cell (j := 6) rfl; have y7 := Y.cell (j := 7) rfl; have y8 := Y.cell (j := 8) rfl; clear hown1 hgrow hat hlt r5 Y)
          refine (atom_lay (G := loop0 (iter (genAtm a) i G)) H10.out hK1 ha hwl hB (by omega)).mono ?_
          rintro e w12 ⟨rfl, cv12, iv12, ls12, h12⟩
          have hins : (genAtm a (loop0 (iter (genAtm a) i G))).ins = (iter (genAtm a) i G).ins ++ [(iter (genAtm a) i G).loops] := (genAtm_ins a (loop0 (iter (genAtm a) i G))).trans rfl
          have hinl : (genAtm a (loop0 (iter (genAtm a) i G))).ins.length = (iter (genAtm a) i G).ins.length + 1 := by rw [hins]; simp
          obtain ⟨ib, icap, hiv, hicap⟩ : ∃ ib icap, iv12 = .slice (some ⟨ib, 0, none⟩) ((iter (genAtm a) i G).ins.length + 1) icap ∧ (iter (genAtm a) i G).ins.length + 1 ≤ icap := by
            rcases h12.io.2 with ⟨_, h1⟩ | ⟨g, cap, cur, h1, h2, h3, h4, _⟩
            · omega
            · exact ⟨g, cap, by rw [h1, hinl], by omega⟩
          subst hiv
          have H12 := Lib.hid h12
          have HINL := Lib.hid hinl
          clear h12 hins hinl H10 s5 f5 y0 y1 y2 y3 y4 y5 y6 y7 y8
          go_wp2_with fail
          refine (add_lay H12.out (by omega) 7 0 0 (iter (genAtm a) i G).loops (iter (genAtm a) i G).code.length).mono ?_
          rintro e w13 ⟨rfl, g13, c13, ls13, h13⟩
          have t5 := h13.pat.cell (j := 5) (v := .slice (some ⟨ib, 0, none⟩) ((iter (genAtm a) i G).ins.length + 1) icap) rfl
          have t5f := h13.pat.frozen 5
          have H13 := Lib.hid h13
          clear h13 H12
          have wI : IntKind.i64.wrap ((iter (genAtm a) i G).ins.length : Int) = ((iter (genAtm a) i G).ins.length : Int) := by rw [IntKind.wrap_i64]; omega
          have hI0 : (0 : Int) ≤ ((iter (genAtm a) i G).ins.length : Int) := Int.natCast_nonneg _
          have hI1 : ((iter (genAtm a) i G).ins.length : Int) ≤ (icap : Int) := by omega
          have hI2 : (iter (genAtm a) i G).ins.length ≤ icap := by omega
          go_wp2_with fail
          refine wp_region_still_tail 14 hmx (by kernel_rfl) ?_; simp only [List.take_succ_cons, List.take_zero, List.drop_succ_cons, List.drop_zero]; (repeat ((with_reducible refine wpStill_step (fun K hK => ?_)); go_simp; (with_reducible refine hK _ ?_); clear hK K)); (with_reducible refine wpStill_nil ?_)
          go_wp2_with fail
          have H14 := Lib.hid (LI.drew (LI.insPop H13.out rfl (HINL.out : ((genAtm a (loop0 (iter (genAtm a) i G))).add 7 0 0 (iter (genAtm a) i G).loops (iter (genAtm a) i G).code.length).ins.length = (iter (genAtm a) i G).ins.length + 1)))
          obtain ⟨cb, cap, vv, hcv, hcell, hfrz⟩ := H14.out.codeAt (i := (iter (genAtm a) i G).code.length) (by have := add_len (genAtm a (loop0 (iter (genAtm a) i G))) 7 0 0 (iter (genAtm a) i G).loops (iter (genAtm a) i G).code.length; show (iter (genAtm a) i G).code.length < ((genAtm a (loop0 (iter (genAtm a) i G))).add 7 0 0 (iter (genAtm a) i G).loops (iter (genAtm a) i G).code.length).code.length; omega) 12 (by omega)
          injection hcv with e1 e2 e3
          injection e1 with e1
          injection e1 with e1
          subst e1
          clear e2 e3
          have q314 := H14.out.pat.cell (j := 3) (v := .slice (some ⟨g13, 0, none⟩) ((genAtm a (loop0 (iter (genAtm a) i G))).code.length + 1) c13) rfl
          have hx14 : ((iter (genAtm a) i G).code.length : Int) < ((genAtm a (loop0 (iter (genAtm a) i G))).code.length : Int) + 1 := by omega
          clear t5 t5f
          generalize (w13.setCell ⟨pb, 5, none⟩ (.slice (some ⟨ib, 0, none⟩) (iter (genAtm a) i G).ins.length icap)).drew = w14 at *
          refine wp_region_still_tail 12 hmx (by kernel_rfl) ?_; simp only [List.take_succ_cons, List.take_zero, List.drop_succ_cons, List.drop_zero]; (repeat ((with_reducible refine wpStill_step (fun K hK => ?_)); go_simp; (with_reducible refine hK _ ?_); clear hK K)); (with_reducible refine wpStill_nil ?_)
          go_wp2_with fail
          have H15 := Lib.hid (LI.putB H14.out.drew rfl (iter (genAtm a) i G).code.length (by have := add_len (genAtm a (loop0 (iter (genAtm a) i G))) 7 0 0 (iter (genAtm a) i G).loops (iter (genAtm a) i G).code.length; show (iter (genAtm a) i G).code.length < ((genAtm a (loop0 (iter (genAtm a) i G))).add 7 0 0 (iter (genAtm a) i G).loops (iter (genAtm a) i G).code.length).code.length; omega) (((genAtm a (loop0 (iter (genAtm a) i G))).code.length : Int) + 1) (v := ((genAtm a (loop0 (iter (genAtm a) i G))).add 7 0 0 (iter (genAtm a) i G).loops (iter (genAtm a) i G).code.length).code.length) (by have := add_len (genAtm a (loop0 (iter (genAtm a) i G))) 7 0 0 (iter (genAtm a) i G).loops (iter (genAtm a) i G).code.length; omega))
          refine bodyPost_ret (results_none rfl _ _ _) rfl ?_
          have HZ := LI.sub (K' := K) H15.out (fun x hx => List.mem_cons_of_mem _ hx)
          unfold genPart
          rw [if_pos hm]
          exact ⟨rfl, _, _, _, HZ⟩
        · go_wp2_with fail
          refine (add_lay HI.out.drew (by omega) 2 0 0 0 0).mono ?_
          rintro e w2 ⟨rfl, g2, c2, ls2, h2⟩
          have q3 := h2.pat.cell (j := 3) (v := .slice (some ⟨g2, 0, none⟩) ((iter (genAtm a) i G).code.length + 1) c2) rfl
          have q4 := h2.pat.cell (j := 4) (v := .int .i64 ((iter (genAtm a) i G).loops : Int)) rfl
          have f4 := h2.pat.frozen 4
          have H2 := Lib.hid h2
          clear h2
          have n1 := add_len (iter (genAtm a) i G) 2 0 0 0 0
          have hb1 := HI.out.b1
          have hb2 := HI.out.b2
          have H7 := Lib.hid (LI.loopsUp H2.out (by show (iter (genAtm a) i G).loops + 1 ≤ ((iter (genAtm a) i G).add 2 0 0 0 0).code.length; omega) (((iter (genAtm a) i G).loops : Int) + 1) (by push_cast; rfl))
          go_wp2_with fail
          obtain ⟨cb, cap, vv, hcv, hcell, hfrz⟩ := H7.out.codeAt (i := (iter (genAtm a) i G).code.length) (by show (iter (genAtm a) i G).code.length < ((iter (genAtm a) i G).add 2 0 0 0 0).code.length; omega) 11 (by omega)
          injection hcv with e1 e2 e3
          injection e1 with e1
          injection e1 with e1
          subst e1
          clear e2 e3
          have q37 := H7.out.pat.cell (j := 3) (v := .slice (some ⟨g2, 0, none⟩) ((iter (genAtm a) i G).code.length + 1) c2) rfl
          have hx0 : (0 : Int) ≤ ((iter (genAtm a) i G).code.length : Int) := Int.natCast_nonneg _
          have hx1 : ((iter (genAtm a) i G).code.length : Int) < ((iter (genAtm a) i G).code.length : Int) + 1 := by omega
          clear q3 q4 f4
          clear n1
          generalize w2.setCell ⟨pb, 4, none⟩ (.int .i64 (((iter (genAtm a) i G).loops : Int) + 1)) = w7 at *
          refine wp_region_still_tail 12 hmx (by kernel_rfl) ?_; simp only [List.take_succ_cons, List.take_zero, List.drop_succ_cons, List.drop_zero]; (repeat ((with_reducible refine wpStill_step (fun K hK => ?_)); go_simp; (with_reducible refine hK _ ?_); clear hK K)); (with_reducible refine wpStill_nil ?_)
          go_wp2_with fail
          have n1 := add_len (iter (genAtm a) i G) 2 0 0 0 0
          have H8 := Lib.hid (LI.putA H7.out.drew rfl (iter (genAtm a) i G).code.length (by show (iter (genAtm a) i G).code.length < ((iter (genAtm a) i G).add 2 0 0 0 0).code.length; omega) (((iter (genAtm a) i G).code.length : Int) + 1) (v := ((iter (genAtm a) i G).add 2 0 0 0 0).code.length) (by omega))
          refine (add_lay H8.out (by rw [setA_len]; show ((iter (genAtm a) i G).add 2 0 0 0 0).code.length ≤ 50000; omega) 6 0 0 (iter (genAtm a) i G).loops 0).mono ?_
          rintro e w9 ⟨rfl, g9, c9, ls9, h9⟩
          clear n1
          have r5 := h9.pat.cell (j := 5) (v := .slice ia inn ic) rfl
          have H9 := Lib.hid h9
          clear h9 hcell hfrz q37
          have np1 : ¬ w.heap.size = pb := by have := h.pbw; omega
          have np2 : ¬ pb = w.heap.size := by have := h.pbw; omega
          have n2 : (loop0 (iter (genAtm a) i G)).code.length = (iter (genAtm a) i G).code.length + 2 := loop0_len (iter (genAtm a) i G)
          have hi9 : (iter (genAtm a) i G).ins.length + 1 ≤ (loop0 (iter (genAtm a) i G)).code.length := by omega
          have hb12 := HF.out (loop0 (iter (genAtm a) i G))
          have hgp : (genPart (genAtm a) (i : Int) m G).code.length = (genAtm a (loop0 (iter (genAtm a) i G))).code.length + 1 := by
            unfold genPart
            rw [if_pos hm, Int.toNat_natCast, setB_len]
            exact add_len _ _ _ _ _ _
          go_wp2_with (at_builtin; refine wpList_append_lies _ (by rfl) _ _ _ (by rfl) w0.heap.size 3 j0 _ 1 8 Tryd.underlying54 hj0 hy0 hy1 hy2 rfl (by omega) (.slice ia inn ic) (iter (genAtm a) i G).ins.length (natVals (iter (genAtm a) i G).ins) (by rfl) (H9.out.alloc _).io ⟨w9.heap.size, 0, none⟩ 1 1 [.int .i64 ((iter (genAtm a) i G).loops : Int)] (by rfl) (by rfl) (World.news_of_block (cs := #[.int .i64 ((iter (genAtm a) i G).loops : Int)]) (t := 3) (fr := (0, 0)) (heap_alloc_new _ _)) (by simp [Value.oneCell']) (by omega) (by unfold maxLen; omega) (by omega) (by have := H9.out.turn.size; simp; omega) (w9.heap.size + 1) (by simp) ?_; intro gg cap w10 hown1 hgrow hat hlt; have s5 : w10.cell? ⟨pb, 5, none⟩ = some (.slice ia inn ic) := (Blk.grown (H9.out.alloc (.cells #[.int .i64 ((iter (genAtm a) i G).loops : Int)] 3)).pat hgrow (fun e => by have := H9.out.io.lt _ e.symm; have := H9.out.pblt; omega)).cell (j := 5) rfl; have f5 : w10.frozen? ⟨pb, 5, none⟩ = false := (Blk.grown (H9.out.alloc (.cells #[.int .i64 ((iter (genAtm a) i G).loops : Int)] 3)).pat hgrow (fun e => by have := H9.out.io.lt _ e.symm; have := H9.out.pblt; omega)).frozen 5; have H10 := Lib.hid (LI.insPush (x := (iter (genAtm a) i G).loops) (H9.out.alloc (.cells #[.int .i64 ((iter (genAtm a) i G).loops : Int)] 3)) hi9 hown1 hgrow (hat.imp id fun e => by simp; omega)); have Y := Blk.grown ((H9.out.alloc (.cells #[.int .i64 ((iter (genAtm a) i G).loops : Int)] 3)).old (List.mem_cons_self ..)) hgrow (fun e => ((H9.out.alloc (.cells #[.int .i64 ((iter (genAtm a) i G).loops : Int)] 3)).kp _ _ (List.mem_cons_self ..)).2.2.2 e.symm); have y0 := Y.cell (j := 0) rfl; have y1 := Y.cell (j := 1) rfl; have y2 := Y.cell (j := 2) rfl; have y3 := Y.cell (j := 3) rfl; have y4 := Y.cell (j := 4) rfl; have y5 := Y.cell (j := 5) rfl; have y6 := Y.cell (j := 6) rfl; have y7 := Y.cell (j := 7) rfl; have y8 := Y.cell (j := 8) rfl; clear hown1 hgrow hat hlt r5 Y)
          refine (atom_lay (G := loop0 (iter (genAtm a) i G)) H10.out hK1 ha hwl hB (by omega)).mono ?_
          rintro e w12 ⟨rfl, cv12, iv12, ls12, h12⟩
          have hins : (genAtm a (loop0 (iter (genAtm a) i G))).ins = (iter (genAtm a) i G).ins ++ [(iter (genAtm a) i G).loops] := (genAtm_ins a (loop0 (iter (genAtm a) i G))).trans rfl
          have hinl : (genAtm a (loop0 (iter (genAtm a) i G))).ins.length = (iter (genAtm a) i G).ins.length + 1 := by rw [hins]; simp
          obtain ⟨ib, icap, hiv, hicap⟩ : ∃ ib icap, iv12 = .slice (some ⟨ib, 0, none⟩) ((iter (genAtm a) i G).ins.length + 1) icap ∧ (iter (genAtm a) i G).ins.length + 1 ≤ icap := by
            rcases h12.io.2 with ⟨_, h1⟩ | ⟨g, cap, cur, h1, h2, h3, h4, _⟩
            · omega
            · exact ⟨g, cap, by rw [h1, hinl], by omega⟩
          subst hiv
          have H12 := Lib.hid h12
          have HINL := Lib.hid hinl
          clear h12 hins hinl H10 s5 f5 y0 y1 y2 y3 y4 y5 y6 y7 y8
          go_wp2_with fail
          refine (add_lay H12.out (by omega) 7 0 0 (iter (genAtm a) i G).loops (iter (genAtm a) i G).code.length).mono ?_
          rintro e w13 ⟨rfl, g13, c13, ls13, h13⟩
          have t5 := h13.pat.cell (j := 5) (v := .slice (some ⟨ib, 0, none⟩) ((iter (genAtm a) i G).ins.length + 1) icap) rfl
          have t5f := h13.pat.frozen 5
          have H13 := Lib.hid h13
          clear h13 H12
          have wI : IntKind.i64.wrap ((iter (genAtm a) i G).ins.length : Int) = ((iter (genAtm a) i G).ins.length : Int) := by rw [IntKind.wrap_i64]; omega
          have hI0 : (0 : Int) ≤ ((iter (genAtm a) i G).ins.length : Int) := Int.natCast_nonneg _
          have hI1 : ((iter (genAtm a) i G).ins.length : Int) ≤ (icap : Int) := by omega
          have hI2 : (iter (genAtm a) i G).ins.length ≤ icap := by omega
          go_wp2_with fail
          refine wp_region_still_tail 14 hmx (by kernel_rfl) ?_; simp only [List.take_succ_cons, List.take_zero, List.drop_succ_cons, List.drop_zero]; (repeat ((with_reducible refine wpStill_step (fun K hK => ?_)); go_simp; (with_reducible refine hK _ ?_); clear hK K)); (with_reducible refine wpStill_nil ?_)
          go_wp2_with fail
          have H14 := Lib.hid (LI.drew (LI.insPop H13.out rfl (HINL.out : ((genAtm a (loop0 (iter (genAtm a) i G))).add 7 0 0 (iter (genAtm a) i G).loops (iter (genAtm a) i G).code.length).ins.length = (iter (genAtm a) i G).ins.length + 1)))
          obtain ⟨cb, cap, vv, hcv, hcell, hfrz⟩ := H14.out.codeAt (i := (iter (genAtm a) i G).code.length) (by have := add_len (genAtm a (loop0 (iter (genAtm a) i G))) 7 0 0 (iter (genAtm a) i G).loops (iter (genAtm a) i G).code.length; show (iter (genAtm a) i G).code.length < ((genAtm a (loop0 (iter (genAtm a) i G))).add 7 0 0 (iter (genAtm a) i G).loops (iter (genAtm a) i G).code.length).code.length; omega) 12 (by omega)
          injection hcv with e1 e2 e3
          injection e1 with e1
          injection e1 with e1
          subst e1
          clear e2 e3
          have q314 := H14.out.pat.cell (j := 3) (v := .slice (some ⟨g13, 0, none⟩) ((genAtm a (loop0 (iter (genAtm a) i G))).code.length + 1) c13) rfl
          have hx14 : ((iter (genAtm a) i G).code.length : Int) < ((genAtm a (loop0 (iter (genAtm a) i G))).code.length : Int) + 1 := by omega
          clear t5 t5f
          generalize (w13.setCell ⟨pb, 5, none⟩ (.slice (some ⟨ib, 0, none⟩) (iter (genAtm a) i G).ins.length icap)).drew = w14 at *
          refine wp_region_still_tail 12 hmx (by kernel_rfl) ?_; simp only [List.take_succ_cons, List.take_zero, List.drop_succ_cons, List.drop_zero]; (repeat ((with_reducible refine wpStill_step (fun K hK => ?_)); go_simp; (with_reducible refine hK _ ?_); clear hK K)); (with_reducible refine wpStill_nil ?_)
          go_wp2_with fail
          have H15 := Lib.hid (LI.putB H14.out.drew rfl (iter (genAtm a) i G).code.length (by have := add_len (genAtm a (loop0 (iter (genAtm a) i G))) 7 0 0 (iter (genAtm a) i G).loops (iter (genAtm a) i G).code.length; show (iter (genAtm a) i G).code.length < ((genAtm a (loop0 (iter (genAtm a) i G))).add 7 0 0 (iter (genAtm a) i G).loops (iter (genAtm a) i G).code.length).code.length; omega) (((genAtm a (loop0 (iter (genAtm a) i G))).code.length : Int) + 1) (v := ((genAtm a (loop0 (iter (genAtm a) i G))).add 7 0 0 (iter (genAtm a) i G).loops (iter (genAtm a) i G).code.length).code.length) (by have := add_len (genAtm a (loop0 (iter (genAtm a) i G))) 7 0 0 (iter (genAtm a) i G).loops (iter (genAtm a) i G).code.length; omega))
          refine bodyPost_ret (results_none rfl _ _ _) rfl ?_
          have HZ := LI.sub (K' := K) H15.out (fun x hx => List.mem_cons_of_mem _ hx)
          unfold genPart
          rw [if_pos hm]
          exact ⟨rfl, _, _, _, HZ⟩
      · skip
        have hge : (genPart (genAtm a) (i : Int) m G) = setBs (iter (genOpt (genAtm a)) (m - (i : Int)).toNat ((iter (genAtm a) i G), [])).2 (iter (genOpt (genAtm a)) (m - (i : Int)).toNat ((iter (genAtm a) i G), [])).1 := by
          unfold genPart
          rw [if_neg hm, Int.toNat_natCast]
        have hfin : (iter (genOpt (genAtm a)) (m - (i : Int)).toNat ((iter (genAtm a) i G), [])).1.code.length ≤ 5000 := by rw [hge, setBs_len] at hsm; exact hsm
        have hNN : (m - (i : Int)).toNat ≤ 255 := by omega
        have HGE := Lib.hid hge
        have HFIN := Lib.hid hfin
        clear hge hfin hsm
        have wM : IntKind.i64.wrap (m - (i : Int)) = m - (i : Int) := by rw [IntKind.wrap_i64]; omega
        go_wp2_with fail
        go_loopg [6, 102] (m - (i : Int)).toNat (fun k s6 s102 wx => ∃ (j : Nat) (y : Gs × List Nat) (KE : List (Nat × Obj)) (cv iv : Value) (ls : List Value), s102 = .int .i64 j ∧ j + k = (m - (i : Int)).toNat ∧ y = iter (genOpt (genAtm a)) j ((iter (genAtm a) i G), []) ∧ LI w0 wx pb bv ng z (KE ++ (w.heap.size, Obj.cells #[.int .i64 a.what, .int .i32 a.r, .bool false, .int .u8 0, .bool false, .slice none 0 0, .bool false, .int .i64 a.gn, .slice va vn vc, .int .i64 i, .int .i64 m, .int .i64 zz] 76 (0, 0)) :: K) y.1 cv iv ls ∧ Ends w0.heap.size wx ((w.heap.size, Obj.cells #[.int .i64 a.what, .int .i32 a.r, .bool false, .int .u8 0, .bool false, .slice none 0 0, .bool false, .int .i64 a.gn, .slice va vn vc, .int .i64 i, .int .i64 m, .int .i64 zz] 76 (0, 0)) :: K) KE s6 y.2 ∧ (∀ x ∈ y.2, x < y.1.code.length) ∧ y.2.length ≤ j)
        case atStart => exact ⟨0, ((iter (genAtm a) i G), []), [], _, _, _, rfl, by omega, rfl, HI.out, Ends.nil _ _ _, fun x hx => (by cases hx), Nat.le_refl _⟩
        case round =>
          obtain ⟨j, y, KE, cvj, ivj, lsj, rfl, hjk, hy, hI2, hE2, hEl, hel⟩ := hrel
          obtain ⟨ea, en, ec, rfl⟩ := own_form hE2.own
          cases gk with
          | zero =>
            have hen : en = y.2.length := by
              rcases hE2.own.2 with ⟨h1, h2⟩ | ⟨_, _, _, h1, _⟩
              · cases h1; exact h2.symm
              · cases h1; rfl
            subst hen
            have hjj : ¬ ((j : Int) < m - (i : Int)) := by omega
            have hjN : j = (m - (i : Int)).toNat := by omega
            have hyl5 : y.1.code.length ≤ 5000 := by rw [hy, hjN]; exact HFIN.out
            have HY := Lib.hid (show y = (iter (genOpt (genAtm a)) (m - (i : Int)).toNat ((iter (genAtm a) i G), [])) by rw [hy, hjN])
            clear hy hjN
            go_wp2_with fail
            go_loopg [130] y.2.length (fun k s130 wx => ∃ (j2 : Nat) (G2 : Gs) (cv : Value), s130 = .int .i64 j2 ∧ j2 + k = y.2.length ∧ setBs (y.2.drop j2) G2 = setBs y.2 y.1 ∧ G2.code.length = y.1.code.length ∧ LI w0 wx pb bv ng z (KE ++ (w.heap.size, Obj.cells #[.int .i64 a.what, .int .i32 a.r, .bool false, .int .u8 0, .bool false, .slice none 0 0, .bool false, .int .i64 a.gn, .slice va vn vc, .int .i64 i, .int .i64 m, .int .i64 zz] 76 (0, 0)) :: K) G2 cv ivj lsj ∧ Ends w0.heap.size wx ((w.heap.size, Obj.cells #[.int .i64 a.what, .int .i32 a.r, .bool false, .int .u8 0, .bool false, .slice none 0 0, .bool false, .int .i64 a.gn, .slice va vn vc, .int .i64 i, .int .i64 m, .int .i64 zz] 76 (0, 0)) :: K) KE (.slice ea y.2.length ec) y.2)
            case atStart => exact ⟨0, y.1, cvj, rfl, by omega, rfl, rfl, hI2, hE2⟩
            case round =>
              obtain ⟨j2, G2, cv2, rfl, hjk2, hset, hlen2, hI3, hE3⟩ := hrel
              have HS := Lib.hid hset
              have HL := Lib.hid hlen2
              have hg5 : G2.code.length ≤ 5000 := by omega
              cases gk with
              | zero =>
                clear hset hlen2
                have hjj2 : ¬ ((j2 : Int) < (y.2.length : Int)) := by omega
                go_wp2_with fail
                go_end0
                have hGe : G2 = setBs (iter (genOpt (genAtm a)) (m - (i : Int)).toNat ((iter (genAtm a) i G), [])).2 (iter (genOpt (genAtm a)) (m - (i : Int)).toNat ((iter (genAtm a) i G), [])).1 := by
                  have hset := HS.out
                  rw [List.drop_of_length_le (by omega)] at hset
                  rw [← HY.out]
                  exact hset
                have HZ := LI.sub (K' := K) hI3 (fun x hx => List.mem_append_right _ (List.mem_cons_of_mem _ hx))
                rw [hGe, ← HGE.out] at HZ
                exact ⟨rfl, _, _, _, HZ⟩
              | succ k =>
                have hjj2 : (j2 : Int) < (y.2.length : Int) := by omega
                have hjl : j2 < y.2.length := by omega
                obtain ⟨xx, hxx⟩ : ∃ xx, y.2[j2]? = some xx := ⟨_, List.getElem?_eq_getElem hjl⟩
                have hxl : xx < y.1.code.length := hEl _ (List.mem_of_getElem? hxx)
                obtain ⟨cb, cap, vv, rfl, hcell, hfrz⟩ := hI3.codeAt (i := xx) (by omega) 12 (by omega)
                have p3 := hI3.pat.cell (j := 3) (v := .slice (some ⟨cb, 0, none⟩) G2.code.length cap) rfl
                have hc := @World.ownsRow.cells _ _ _ _ _ _ _ hE3.own
                have hxI : (xx : Int) < ((G2.code.length : Nat) : Int) := by omega
                have hx0 : (0 : Int) ≤ (xx : Int) := Int.natCast_nonneg _
                obtain ⟨eb, rfl⟩ : ∃ eb, ea = some ⟨eb, 0, none⟩ := by
                  rcases hE3.own.2 with ⟨h1, h2⟩ | ⟨g, cap, cur, h1, _⟩
                  · omega
                  · cases h1; exact ⟨g, rfl⟩
                have e0 := hc rfl j2 _ (natVals_at hxx)
                rw [add_addr] at e0
                have wj : IntKind.i64.wrap ((j2 : Int) + 1) = (j2 : Int) + 1 := by rw [IntKind.wrap_i64]; omega
                have HX := Lib.hid hxx
                clear hxx
                have H2 := Lib.hid hI3
                have HE2 := Lib.hid hE3
                clear hI3 hE3 hc hset hlen2
                go_wp2_with fail
                refine wp_region_still_tail 12 hmx (by kernel_rfl) ?_; simp only [List.take_succ_cons, List.take_zero, List.drop_succ_cons, List.drop_zero]; (repeat ((with_reducible refine wpStill_step (fun K hK => ?_)); go_simp; (with_reducible refine hK _ ?_); clear hK K)); (with_reducible refine wpStill_nil ?_)
                go_wp2_with fail
                go_roundg k
                case measure => omega
                case rel =>
                  have H3 := (LI.putB H2.out.drew rfl xx (by omega) ((G2.code.length : Nat) : Int) rfl)
                  refine ⟨j2 + 1, G2.setB xx G2.code.length, _, by push_cast; rfl, by omega, ?_, by rw [setB_len]; exact HL.out, H3, Ends.after HE2.out H2.out H3⟩
                  have e : y.2[j2] = xx := by have hxx := HX.out; rw [List.getElem?_eq_getElem hjl] at hxx; simpa using hxx
                  rw [← HS.out, List.drop_eq_getElem_cons hjl, setBs, e]
          | succ k =>
            have hjj : (j : Int) < m - (i : Int) := by omega
            have wj : IntKind.i64.wrap ((j : Int) + 1) = (j : Int) + 1 := by rw [IntKind.wrap_i64]; omega
            have n1 := add_len y.1 2 0 0 0 0
            have hgo : (genOpt (genAtm a) y).1.code.length ≤ 5000 := by
              have h1 := iter_le2 (genOpt (genAtm a)) (fun x : Gs × List Nat => x.1.code.length) (fun x => Nat.le_of_succ_le (genOpt_le HF.out x)) ((iter (genAtm a) i G), []) (m - (i : Int)).toNat (j + 1) (by omega)
              rw [iter_succ (genOpt (genAtm a)) j, ← hy] at h1
              exact Nat.le_trans h1 HFIN.out
            have hb : (genAtm a ((y.1.add 2 0 0 0 0).setA y.1.code.length (y.1.add 2 0 0 0 0).code.length)).code.length ≤ 5000 := hgo
            have hgl := genOpt_le HF.out y
            have hyl : y.1.code.length + 1 ≤ 5000 := by omega
            have HYE := Lib.hid hy
            have HEL := Lib.hid hEl
            clear hy hEl hgo
            go_wp2_with fail
            refine (add_lay hI2 (by omega) 2 0 0 0 0).mono ?_
            rintro e w5 ⟨rfl, g1, c1, ls1, h1⟩
            obtain ⟨cb, cap, vv, hcv, hcell, hfrz⟩ := h1.codeAt (i := y.1.code.length) (by omega) 11 (by omega)
            injection hcv with e1 e2 e3
            injection e1 with e1
            injection e1 with e1
            subst e1
            clear e2 e3
            have p3 := h1.pat.cell (j := 3) (v := .slice (some ⟨g1, 0, none⟩) (y.1.code.length + 1) c1) rfl
            have HE1 := Lib.hid (Ends.after hE2 hI2 h1)
            have H1 := Lib.hid h1
            clear h1 hE2 hI2
            have hx0 : (0 : Int) ≤ (y.1.code.length : Int) := Int.natCast_nonneg _
            have hx1 : (y.1.code.length : Int) < (y.1.code.length : Int) + 1 := by omega
            have H7 := Lib.hid (LI.putA H1.out.drew rfl y.1.code.length (by omega) ((y.1.code.length : Int) + 1) (v := (y.1.add 2 0 0 0 0).code.length) (by omega))
            have HE7 := Lib.hid (Ends.after HE1.out H1.out H7.out)
            clear n1
            go_wp2_with fail
            refine wp_region_still_tail 12 hmx (by kernel_rfl) ?_; simp only [List.take_succ_cons, List.take_zero, List.drop_succ_cons, List.drop_zero]; (repeat ((with_reducible refine wpStill_step (fun K hK => ?_)); go_simp; (with_reducible refine hK _ ?_); clear hK K)); (with_reducible refine wpStill_nil ?_)
            go_wp2_with (at_builtin; refine wpList_append_lies _ (by rfl) _ _ _ (by rfl) w0.heap.size 3 j0 _ 1 8 Tryd.underlying54 hj0 hy0 hy1 hy2 rfl (by omega) (.slice ea en ec) y.2.length (natVals y.2) (by rfl) (HE7.out.own.alloc _) ⟨w5.heap.size, 0, none⟩ 1 1 [.int .i64 (y.1.code.length : Int)] (by rfl) (by rfl) (World.news_of_block (cs := #[.int .i64 (y.1.code.length : Int)]) (t := 3) (fr := (0, 0)) (heap_alloc_new' _ _ _ (by simp [size_set]))) (by simp [Value.oneCell']) (by omega) (by unfold maxLen; omega) (by omega) (by have := H1.out.turn.size; simp [size_set]; omega) (w5.heap.size + 1) (by simp [size_set]) ?_; intro gg cap w7 hown1 hgrow hat hlt; obtain ⟨KE', hE8, h8⟩ := Ends.push (Ends.after HE7.out H7.out (H7.out.alloc (.cells #[.int .i64 (y.1.code.length : Int)] 3))) (H7.out.alloc (.cells #[.int .i64 (y.1.code.length : Int)] 3)) hK1 (Nat.le_refl _) hown1 hgrow (hat.imp id fun e => by simp [size_set]; omega); clear hown1 hgrow hat hlt; have Z := LI.old h8 (List.mem_append_right _ (List.mem_cons_self ..)); have z0 := Z.cell (j := 0) rfl; have z1 := Z.cell (j := 1) rfl; have z2 := Z.cell (j := 2) rfl; have z3 := Z.cell (j := 3) rfl; have z4 := Z.cell (j := 4) rfl; have z5 := Z.cell (j := 5) rfl; have z6 := Z.cell (j := 6) rfl; have z7 := Z.cell (j := 7) rfl; have z8 := Z.cell (j := 8) rfl; have H8 := Lib.hid h8; have HE8 := Lib.hid hE8; clear h8 hE8 Z)
            have hKK : ∀ q o, (q, o) ∈ KE' ++ (w.heap.size, Obj.cells #[.int .i64 a.what, .int .i32 a.r, .bool false, .int .u8 0, .bool false, .slice none 0 0, .bool false, .int .i64 a.gn, .slice va vn vc, .int .i64 i, .int .i64 m, .int .i64 zz] 76 (0, 0)) :: K → w0.heap.size ≤ q := fun q o hq => by
              rcases List.mem_append.1 hq with hq | hq
              · have h1 := HE8.out.own.lt _ (HE8.out.ke q o hq); omega
              · exact hK1 q o hq
            refine (atom_lay (G := (y.1.add 2 0 0 0 0).setA y.1.code.length (y.1.add 2 0 0 0 0).code.length) H8.out hKK ha hwl hB hb).mono ?_
            rintro e w9 ⟨rfl, cv9, iv9, ls9, h9⟩
            have HE9 := Lib.hid (Ends.after HE8.out H8.out h9)
            have H9 := Lib.hid h9
            clear h9
            go_wp2_with fail
            go_roundg k
            case measure => omega
            case rel =>
              refine ⟨j + 1, genOpt (genAtm a) y, KE', cv9, iv9, ls9, by push_cast; rfl, by omega, ?_, H9.out, ?_, fun x hx => ?_, ?_⟩
              · rw [HYE.out]; exact (iter_succ (genOpt (genAtm a)) j ((iter (genAtm a) i G), [])).symm
              · have e : (y.2 ++ [y.1.code.length]).length = y.2.length + 1 := by simp
                exact HE9.out
              · have hx' : x ∈ y.2 ++ [y.1.code.length] := hx
                rcases List.mem_append.1 hx' with hx | hx
                · have := HEL.out x hx; omega
                · have : x = y.1.code.length := by simpa using hx
                  omega
              · show (y.2 ++ [y.1.code.length]).length ≤ j + 1
                rw [List.length_append, List.length_singleton]
                omega

end Go.Proofs.YtlanodchnjojoaaDoor
