/- The pattern's method lay. -/
import Derived.Test.YtlanodchnjojoaaDoorLy
namespace Go.Proofs.YtlanodchnjojoaaDoor
open Go.RowKit

set_option maxRecDepth 100000 in
set_option maxHeartbeats 8000000 in
theorem lay_met {w : World} {pb : Nat} {bv : Value} {ng z : Nat} {bs : T} (hpat : Blk w pb 56 (ptCells bv ng z (.slice none 0 0) 0 (.slice none 0 0) 0)) (hv : RepV w (fun b => b ≠ pb) bv bs) (hok : bs.ok 0 = true) (hn : bs.nodes ≤ 5000) (hsm : (lay bs).code.length ≤ 5000) (hst : total (lay bs).code ≤ 100000000) :
    Calls Tryd.prog 13 #[.pointer (some ⟨pb, 0, none⟩)] w fun e w' => e = .returned (.tuple #[]) ∧ (∃ cb cap, PatAt w'.heap.size w' pb cb cap (theCode bs) ng (lay bs).loops (total (lay bs).code)) ∧ Turn (fun b => b = pb) w w' := by
  have hmx : Tryd.prog.follows .mixedOrders = true := by kernel_rfl
  have h0 : LI w w pb bv ng z [] ⟨[], 0, []⟩ (.slice none 0 0) (.slice none 0 0) [] :=
    ⟨hpat, Turn.refl _ _, hpat.lt, World.ownsRow_nil _ _ _ _, World.ownsRow_nil _ _ _ _, rfl, (fun i st lv h1 _ => by simp at h1), (fun b hb => by cases hb), Nat.le_refl _, Nat.le_refl _, fun q o h => by cases h⟩
  have hlen : (lay bs).code.length = (genBrs bs ⟨[], 0, []⟩).code.length + 1 := add_len _ _ _ _ _ _
  obtain ⟨va, vn, vc, rfl⟩ := hv.form
  have q0 := hpat.cell (j := 0) (v := .slice va vn vc) rfl
  have H0 := Lib.hid h0
  have HV := Lib.hid hv
  clear h0 hv
  go_enter Tryd.func13, Tryd.ntmps13
  go_wp2_with fail
  refine (br_lay (bs.deep + 1) bs (by omega) hok hn _ _ _ _ _ _ _ H0.out (fun q o h => by cases h) HV.out (by omega)).mono ?_
  rintro e w1 ⟨rfl, cv1, iv1, ls1, h1⟩
  go_wp2_with fail
  refine (add_lay h1 (by omega) 8 0 0 0 0).mono ?_
  rintro e w2 ⟨rfl, cb, cap, ls2, h2⟩
  have h2' : LI w w2 pb (.slice va vn vc) ng z [] (lay bs) (.slice (some ⟨cb, 0, none⟩) ((genBrs bs ⟨[], 0, []⟩).code.length + 1) cap) iv1 ls2 := h2
  have p3 := h2'.pat.cell (j := 3) (v := .slice (some ⟨cb, 0, none⟩) ((genBrs bs ⟨[], 0, []⟩).code.length + 1) cap) rfl
  have H2 := Lib.hid h2'.toFI
  clear h2 h2' h1
  go_wp2_with fail
  go_loopg [17] (lay bs).code.length (fun k s17 wx => ∃ (i : Nat) (C' : List Step), s17 = .int .i64 i ∧ i + k = (lay bs).code.length ∧ FI w wx pb (.slice va vn vc) ng z (lay bs) (.slice (some ⟨cb, 0, none⟩) ((genBrs bs ⟨[], 0, []⟩).code.length + 1) cap) iv1 ls2 i i C')
  case atStart => exact ⟨0, _, rfl, by omega, H2.out⟩
  case round =>
    obtain ⟨i, C', rfl, hik, hF⟩ := hrel
    cases gk with
    | zero =>
      have hii : ¬ ((i : Int) < ((genBrs bs ⟨[], 0, []⟩).code.length : Int) + 1) := by omega
      have HF := Lib.hid hF
      clear hF
      go_wp2_with fail
      go_end0
      have hi : i = (lay bs).code.length := by omega
      have hF := HF.out
      rw [hi] at hF
      obtain ⟨cb', cap', hp⟩ := hF.patAt (by omega)
      exact ⟨rfl, ⟨cb', cap', hp⟩, hF.turn⟩
    | succ k =>
      have hii : (i : Int) < ((genBrs bs ⟨[], 0, []⟩).code.length : Int) + 1 := by omega
      have hi0 : (0 : Int) ≤ (i : Int) := Int.natCast_nonneg _
      have wi : IntKind.i64.wrap ((i : Int) + 1) = (i : Int) + 1 := by rw [IntKind.wrap_i64]; omega
      have hil : i < (lay bs).code.length := by omega
      obtain ⟨st, hst'⟩ : ∃ st, (lay bs).code[i]? = some st := ⟨_, List.getElem?_eq_getElem hil⟩
      have hC : C'[i]? = some st := by rw [hF.todo i (Nat.le_refl _)]; exact hst'
      obtain ⟨cb1, cap1, lv, hcv, hlv, hce, hfz⟩ := hF.cell hC
      injection hcv with e1 e2 e3
      injection e1 with e1
      injection e1 with e1
      subst e1
      clear e2 e3
      obtain ⟨la, lcap, rfl, _⟩ := hF.lo i st lv hst' hlv
      have t14 := hce 14 _ rfl
      have t13 := hce 13 _ rfl
      have f14 := hfz (i * 15 + 14)
      have p3 := hF.pat.cell (j := 3) (v := .slice (some ⟨cb, 0, none⟩) ((genBrs bs ⟨[], 0, []⟩).code.length + 1) cap) rfl
      have p6 := hF.pat.cell (j := 6) (v := .int .i64 (total ((lay bs).code.take i) : Nat)) rfl
      have htt := total_take _ _ _ hst'
      have htl := total_le (lay bs).code (i + 1)
      have HF := Lib.hid hF
      have HS := Lib.hid hst'
      have HT := Lib.hid htt
      have HLV := Lib.hid hlv
      have HC := Lib.hid hC
      clear hF hst' hC hce hfz hlv htt
      go_wp2_with fail
      refine wp_region_still_tail 11 hmx (by kernel_rfl) ?_; simp only [List.take_succ_cons, List.take_zero, List.drop_succ_cons, List.drop_zero]; (repeat ((with_reducible refine wpStill_step (fun K hK => ?_)); go_simp; (with_reducible refine hK _ ?_); clear hK K)); (with_reducible refine wpStill_nil ?_)
      go_wp2_with fail
      have h5 := (HF.out.set rfl HS.out ((total ((lay bs).code.take i) : Nat) : Int) rfl).drew
      have hC5 : (C'.modify i fun st => { st with base := total ((lay bs).code.take i) })[i]? = some { st with base := total ((lay bs).code.take i) } := by rw [List.getElem?_modify, HC.out]; simp
      obtain ⟨cb5, cap5, lv5, hcv5, hlv5, hce5, _⟩ := h5.cell hC5
      rw [HLV.out] at hlv5
      injection hlv5 with hlv5
      subst hlv5
      injection hcv5 with e1 e2 e3
      injection e1 with e1
      injection e1 with e1
      subst e1
      clear e2 e3
      have u13 := hce5 13 _ rfl
      have p35 := h5.pat.cell (j := 3) (v := .slice (some ⟨cb, 0, none⟩) ((genBrs bs ⟨[], 0, []⟩).code.length + 1) cap) rfl
      have p65 := h5.pat.cell (j := 6) (v := .int .i64 (total ((lay bs).code.take i) : Nat)) rfl
      have f65 := h5.pat.frozen 6
      have H5 := Lib.hid h5
      have wS : IntKind.i64.wrap ((st.loops.length : Int) + 1) = (st.loops.length : Int) + 1 := by rw [IntKind.wrap_i64]; have := HT.out; omega
      have wT : IntKind.i64.wrap ((total ((lay bs).code.take i) : Int) + ((st.loops.length : Int) + 1)) = (total ((lay bs).code.take i) : Int) + ((st.loops.length : Int) + 1) := by rw [IntKind.wrap_i64]; have := HT.out; omega
      clear h5 hC5 hce5 t13 t14 f14 p3 p6
      generalize (wr.setCell ⟨cb, i * 15 + 14, none⟩ (.int .i64 ((total ((lay bs).code.take i) : Nat) : Int))).drew = w5 at *
      refine wp_region_still_tail 17 hmx (by kernel_rfl) ?_; simp only [List.take_succ_cons, List.take_zero, List.drop_succ_cons, List.drop_zero]; (repeat ((with_reducible refine wpStill_step (fun K hK => ?_)); go_simp; (with_reducible refine hK _ ?_); clear hK K)); (with_reducible refine wpStill_nil ?_)
      go_wp2_with fail
      go_roundg k
      case measure => omega
      case rel =>
        have HZ := (H5.out.drew.count (i + 1) ((total ((lay bs).code.take i) : Int) + ((st.loops.length : Int) + 1)) (by rw [HT.out]; push_cast; rfl))
        exact ⟨i + 1, _, by push_cast; rfl, by omega, HZ⟩

end Go.Proofs.YtlanodchnjojoaaDoor
