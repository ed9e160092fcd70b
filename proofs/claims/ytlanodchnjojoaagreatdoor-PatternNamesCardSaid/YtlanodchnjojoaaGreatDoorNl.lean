/- The law PatternNames. -/
import Derived.Test.YtlanodchnjojoaaGreatDoorZf
import Derived.Test.YtlanodchnjojoaaGreatDoorEa
import Derived.Test.YtlanodchnjojoaaGreatDoorAl
import Derived.Deep.OwnRows
import Derived.Laws.OwnMore
namespace Go.Proofs.YtlanodchnjojoaaGreatDoor
open Go.RowKit Go.Shelf
attribute [local go_sem] Oper.semAt_some

theorem bstep {w0 w w' : World} (h : Below w0.heap.size w0 w) (h2 : Below w.heap.size w w') : Below w0.heap.size w0 w' := h.trans (h2.mono h.size)
theorem balloc {w0 w : World} (h : Below w0.heap.size w0 w) (o : Obj) : Below w0.heap.size w0 (w.alloc o) := h.alloc h.size o

theorem keepsD {w w' : World} (h : Below w.heap.size w w') {D : Nat} {o : Obj} (hD : w.heap[D]? = some o) : w'.heap[D]? = some o := (h.block D (get_lt hD)).trans hD

theorem below_put {B : Nat} {w w' : World} (h : Below B w w') {D : Nat} (hD : B ≤ D) (o : Obj) : Below B w (w'.putObj D o) :=
  ⟨h.os, h.tape, h.output, by simpa [World.putObj] using h.size, fun k hk => (World.putObj_heap_other (by omega)).trans (h.block k hk)⟩
theorem cell_put {w : World} {D b j : Nat} {o : Obj} (h : b ≠ D) : (w.putObj D o).cell? ⟨b, j, none⟩ = w.cell? ⟨b, j, none⟩ := by
  simp only [World.cell?, World.putObj_heap_other h]

def sA : ByteArray := ⟨#[97]⟩
def sE : ByteArray := ⟨#[]⟩

set_option maxRecDepth 100000 in
set_option maxHeartbeats 8000000 in
theorem names_met (w : World) : Calls Tryz.prog 3 #[] w fun e w' => e = .returned (.bool true) ∧ Below w.heap.size w w' := by
  refine (callsIn_wide (n := 4)).1 ?_
  refine callsIn_of_wp_marks Tryz.func3 rfl trivial ?_ rfl
  simp only [Tryz.ntmps3, List.size_toArray, List.length_cons, List.length_nil, Nat.reduceAdd, Nat.reduceSub, Array.replicate_succ, Array.replicate_zero, List.push_toArray, List.append_toArray, List.nil_append, List.cons_append]
  gi_wp2_with (first
    | (refine ⟨trivial, ?_⟩; gi_at_call 4; refine (callsIn_wide.2 (wakes_met _)).mono ?_; rintro e w1 ⟨rfl, hb1⟩; have H1 := Lib.hid hb1; clear hb1)
    | (refine ⟨trivial, ?_⟩; gi_at_call 5; refine (callsIn_wide.2 (find_nil _ _ _)).mono ?_; rintro e w2 ⟨rfl, hb2⟩; have H2 := Lib.hid hb2; clear hb2; unfold noM)
    | (refine ⟨trivial, ?_⟩; gi_at_call 6; refine (callsIn_wide.2 (whole_nil _ _)).mono ?_; rintro e w3 ⟨rfl, hb3⟩; have H3 := Lib.hid hb3; clear hb3; unfold noM)
    | (refine ⟨trivial, ?_⟩; gi_at_call 7; refine (callsIn_wide.2 (replace_nil _ _ _)).mono ?_; rintro e w4 ⟨rfl, hb4⟩; have H4 := Lib.hid hb4; clear hb4)
    | (refine ⟨trivial, ?_⟩; gi_at_call 8; refine (callsIn_wide.2 (all_met _ ⟨_, rfl⟩ _ _)).mono ?_; rintro e w5 ⟨rfl, rfl⟩))
  have X0 : Blk w4 w.heap.size 4 [.bool false] := by
    have h1 := below_keeps' H1.out (Blk.new w 4 [.bool false])
    have h2 := below_keeps' H2.out h1
    have h3 := below_keeps' H3.out (h2.alloc _)
    exact below_keeps' H4.out (h3.alloc _)
  have X2 : Blk w4 w2.heap.size 28 [.int .i64 0, .int .i64 0, .slice none 0 0] := by
    have h3 := below_keeps' H3.out (Blk.new w2 28 [.int .i64 0, .int .i64 0, .slice none 0 0])
    exact below_keeps' H4.out (h3.alloc _)
  have X4 : Blk w4 w3.heap.size 28 [.int .i64 0, .int .i64 0, .slice none 0 0] := below_keeps' H4.out (Blk.new w3 28 [.int .i64 0, .int .i64 0, .slice none 0 0])
  have z1 := H1.out.size
  have z2 := H2.out.size
  have z3 := H3.out.size
  have z4 := H4.out.size
  simp only [World.size_alloc] at z1 z2 z3 z4
  have hW : Below w.heap.size w w4 := ((((((Below.refl _ w).alloc (Nat.le_refl _) (.cells #[.bool false] 4)).trans (H1.out.mono (by simp))).trans (H2.out.mono (by omega))).alloc (by omega) (.cells #[.int .i64 0, .int .i64 0, .slice none 0 0] 28)).trans (H3.out.mono (by simp; omega))).alloc (by omega) (.cells #[.int .i64 0, .int .i64 0, .slice none 0 0] 28) |>.trans (H4.out.mono (by simp; omega))
  have l2 : w.heap.size < w2.heap.size := by omega
  have l3 : w2.heap.size < w3.heap.size := by omega
  have Y0 := (X0.alloc (.cells #[.pointer none] 23)).alloc (.cells #[.string ⟨#[97]⟩] 9)
  have Y2 := (X2.alloc (.cells #[.pointer none] 23)).alloc (.cells #[.string ⟨#[97]⟩] 9)
  have Y4 := (X4.alloc (.cells #[.pointer none] 23)).alloc (.cells #[.string ⟨#[97]⟩] 9)
  have cP := ((Blk.new w4 23 [.pointer none]).alloc (.cells #[.string ⟨#[97]⟩] 9)).cell (j := 0) rfl
  have cS := (Blk.newAt (w := w4.alloc (.cells #[.pointer none] 23)) (b := w4.heap.size + 1) (by simp) 9 [.string ⟨#[97]⟩]).cell (j := 0) rfl
  have hW5 := (hW.alloc hW.size (.cells #[.pointer none] 23)).alloc (by simp; exact Nat.le_succ_of_le hW.size) (.cells #[.string ⟨#[97]⟩] 9)
  have z5 : ((w4.alloc (.cells #[.pointer none] 23)).alloc (.cells #[.string ⟨#[97]⟩] 9)).heap.size = w4.heap.size + 1 + 1 := by simp
  clear X0 X2 X4 hW H1 H2 H3 H4
  generalize (w4.alloc (.cells #[.pointer none] 23)).alloc (.cells #[.string ⟨#[97]⟩] 9) = W5 at *
  have q5 := Y0.lt
  refine wpIn_rangeFunc_ownH (F := Fence.wide) (n := 4) rfl (by omega) (gf := 23) (lb := #[.pointer (some ⟨w4.heap.size, 0, none⟩), .pointer (some ⟨w4.heap.size + 1, 0, none⟩)]) rfl trivial (enters_of Tryz.func23 (by kernel_rfl) rfl)
    (all1_early (fun (_ : Unit) => #[undef]) (Kp := fun _ _ => True) (N := 0) 3 w4.heap.size (w4.heap.size + 1) W5.heap.size (.pointer none) ⟨#[97]⟩ (.inl rfl) W5 rfl (by omega) (by omega) cP cS) (fun _ _ => trivial) (fun _ _ _ _ _ _ _ _ => trivial)
    (Below.refl _ _) (fun _ => rfl) (fun _ W => Below W5.heap.size W5 W) (fun _ _ _ => False) (fun s W W' row h hg hr => h.grown hg h.size fun k e => (hr k e).1) (fun _ _ _ _ _ h _ _ => h) (Below.refl _ _)
    (fun _ _ _ => True) (fun _ _ _ _ _ _ _ _ _ => trivial) ?assign ?body ?done ?stop
  case assign =>
    intro l pre x W K hI hK
    gi_wp2
    exact hK _ _ (KeepsFrom.refl _ _) trivial hI trivial
  case body =>
    intro l pre x a' W hl hr hI hA hlen
    omega
  case stop =>
    intro D c pre W hD hS
    exact hS.elim
  case done =>
    intro D xs W hD hS hI hDD
    have U0 := below_keeps' hI Y0
    have U2 := below_keeps' hI Y2
    have U4 := below_keeps' hI Y4
    have hW6 := hW5.trans (hI.mono hW5.size)
    have z6 := hI.size
    clear hI Y0 Y2 Y4 hW5 cP cS
    obtain ⟨LL, hLL⟩ : ∃ LL : List Value, LL = List.replicate 65537 (.int .u8 0) := ⟨_, rfl⟩
    obtain ⟨Z0, hZ0⟩ : ∃ Z, Z = zs 65537 := ⟨_, rfl⟩
    obtain ⟨Z1, hZ1⟩ : ∃ Z, Z = zs 65536 := ⟨_, rfl⟩
    have hzs : Z0.size = 65537 := by rw [hZ0, zs_size]
    have hzI : (65536 : Int) < (Z0.size : Int) := by omega
    have hmk : ∀ W, (Instr.makeSlice 42 (.int .i64 65537) (.int .i64 65537)).run Tryz.prog W = .ok (.slice (some ⟨W.heap.size, 0, none⟩) 65537 65537) (W.alloc (.cells LL.toArray 5)) := fun W => by
      have := run_make_row' 42 5 (.int .u8 0) 1 Tryz.underlying42 (by kernel_rfl) rfl .i64 .i64 65537 (by omega) (by omega) W
      have e : madeCells #[Value.int .u8 0] 65537 = LL.toArray := by
        rw [hLL]; apply Array.toList_inj.1; rw [toList_madeCells_one]
      rw [e] at this
      exact this
    have hby : ∀ (W' : World) (b : Nat), Blk W' b 5 LL → Lib.Bytes W' b 0 Z0 := fun W' b hB i hi => by
      rw [Nat.zero_add]
      have hi' : i < 65537 := by rw [hzs] at hi; exact hi
      have := hB.cell (j := i) (v := .int .u8 0) (by rw [hLL, List.getElem?_replicate, if_pos hi'])
      rw [this]
      subst hZ0
      rw [zs_get]
      rfl
    have hconv : ∀ (W' : World) (b : Nat), Blk W' b 5 LL → (convert 42 9 (.slice (some ⟨b, 0, none⟩) 65537 65537)).run Tryz.prog W' = .ok (.string Z0) W' := fun W' b hB => by
      have := Lib.run_convert_whole (P := Tryz.prog) W' 42 5 9 Tryz.underlying42 Tryz.underlying5 Tryz.underlying9 b 0 Z0 (hby W' b hB) 65537
      rw [hzs] at this
      exact this
    have hconv1 : ∀ (W' : World) (b : Nat), Blk W' b 5 LL → (convert 42 9 (.slice (some ⟨b, 1, none⟩) 65536 65536)).run Tryz.prog W' = .ok (.string Z1) W' := fun W' b hB => by
      have := Lib.run_convert_window (P := Tryz.prog) W' 42 5 9 Tryz.underlying42 Tryz.underlying5 Tryz.underlying9 b 0 Z0 (hby W' b hB) 1 65536 65536 (by omega)
      have e : Z0.extract 1 (1 + 65536) = Z1 := by rw [hZ0, hZ1]; exact zs_extract 65536
      rw [e] at this
      exact this
    have HZ1 := Lib.hid hZ1
    have HC := Lib.hid hconv
    have HC1 := Lib.hid hconv1
    clear hZ0 hLL hZ1 hby hconv hconv1 hzs
    gi_wp2_with (first
      | (refine ⟨trivial, ?_⟩; gi_at_call 9; refine (callsIn_wide.2 (compileA _)).mono ?_; rintro e w7 ⟨⟨pb, cb, cap, rfl, hp7⟩, hb7⟩; have H7 := Lib.hid hb7; have HP := Lib.hid hp7; clear hb7 hp7; have e8 := HC.out ((w7.alloc (.cells #[.int .i64 0, .int .i64 0] 39)).alloc (.cells LL.toArray 5)) (w7.heap.size + 1) (Blk.newAt (by simp) _ _)))
    refine ⟨trivial, ?_⟩
    refine (callsIn_wide.2 (find_long _ pb rfl Z0 hzI (-1) _)).mono ?_
    rintro e w8 ⟨rfl, hb8⟩
    have L8 := below_keeps' hb8 (Blk.newAt (w := w7.alloc (.cells #[.int .i64 0, .int .i64 0] 39)) (b := w7.heap.size + 1) (by simp) 5 LL)
    have e9 := HC.out (w8.alloc (.cells #[.int .i64 0, .int .i64 0, .slice none 0 0] 28)) (w7.heap.size + 1) (L8.alloc _)
    have H8 := Lib.hid hb8
    have HL8 := Lib.hid L8
    clear e8 hb8 L8
    unfold noM
    gi_wp2_with fail
    refine ⟨trivial, ?_⟩
    refine (callsIn_wide.2 (whole_long _ pb rfl Z0 hzI _)).mono ?_
    rintro e w9 ⟨rfl, hb9⟩
    have L9 := below_keeps' hb9 (HL8.out.alloc (.cells #[.int .i64 0, .int .i64 0, .slice none 0 0] 28))
    have e10 := HC.out (w9.alloc (.cells #[.int .i64 0, .int .i64 0, .slice none 0 0] 28)) (w7.heap.size + 1) (L9.alloc _)
    have H9 := Lib.hid hb9
    have HL9 := Lib.hid L9
    clear e9 hb9 L9
    unfold noM
    gi_wp2_with fail
    refine ⟨trivial, ?_⟩
    refine (callsIn_wide.2 (replace_long _ pb rfl Z0 _ hzI _)).mono ?_
    rintro e w10 ⟨rfl, hb10⟩
    have L10 := below_keeps' hb10 (HL9.out.alloc (.cells #[.int .i64 0, .int .i64 0, .slice none 0 0] 28))
    have e11 := HC.out w10 (w7.heap.size + 1) L10
    have H10 := Lib.hid hb10
    have HL10 := Lib.hid L10
    clear e10 hb10 L10
    gi_wp2_with fail
    refine ⟨trivial, ?_⟩
    refine (callsIn_wide.2 (replace_with _ pb rfl _ Z0 (by decide) hzI _)).mono ?_
    rintro e w11 ⟨rfl, hb11⟩
    have L11 := below_keeps' hb11 HL10.out
    have e12 := HC.out w11 (w7.heap.size + 1) L11
    have H11 := Lib.hid hb11
    have HL11 := Lib.hid L11
    clear e11 hb11 L11
    gi_wp2_with fail
    refine ⟨trivial, ?_⟩
    refine (callsIn_wide.2 (all_met _ ⟨_, rfl⟩ _ _)).mono ?_
    rintro e w12 ⟨rfl, rfl⟩
    gi_wp2_with fail
    have B78 := balloc (balloc (Below.refl w7.heap.size w7) (.cells #[.int .i64 0, .int .i64 0] 39)) (.cells LL.toArray 5)
    have B7 : Below w7.heap.size w7 w11 := bstep (bstep (balloc (bstep (balloc (bstep B78 H8.out) (.cells #[.int .i64 0, .int .i64 0, .slice none 0 0] 28)) H9.out) (.cells #[.int .i64 0, .int .i64 0, .slice none 0 0] 28)) H10.out) H11.out
    have BW : Below W.heap.size W w11 := bstep H7.out B7
    have B7x := balloc (balloc B7 (.cells #[.pointer (some ⟨pb, 0, none⟩)] 23)) (.cells #[.string Z0] 9)
    have BWx := balloc (balloc BW (.cells #[.pointer (some ⟨pb, 0, none⟩)] 23)) (.cells #[.string Z0] 9)
    have M11 := ((below_keeps' H11.out (below_keeps' H10.out ((below_keeps' H9.out (Blk.new w8 28 [.int .i64 0, .int .i64 0, .slice none 0 0])).alloc (.cells #[.int .i64 0, .int .i64 0, .slice none 0 0] 28)))).alloc (.cells #[.pointer (some ⟨pb, 0, none⟩)] 23)).alloc (.cells #[.string Z0] 9)
    have M13 := ((below_keeps' H11.out (below_keeps' H10.out (Blk.new w9 28 [.int .i64 0, .int .i64 0, .slice none 0 0]))).alloc (.cells #[.pointer (some ⟨pb, 0, none⟩)] 23)).alloc (.cells #[.string Z0] 9)
    have V0 := below_keeps' BWx U0
    have V2 := below_keeps' BWx U2
    have V4 := below_keeps' BWx U4
    have VL := ((HL11.out).alloc (.cells #[.pointer (some ⟨pb, 0, none⟩)] 23)).alloc (.cells #[.string Z0] 9)
    have VP := HP.out.up B7x.size B7x
    have VW := hW6.trans (BWx.mono hW6.size)
    have VD := (BWx.block D (get_lt hDD)).trans hDD
    have cP2 := ((Blk.new w11 23 [.pointer (some ⟨pb, 0, none⟩)]).alloc (.cells #[.string Z0] 9)).cell (j := 0) rfl
    have cS2 := (Blk.newAt (w := w11.alloc (.cells #[.pointer (some ⟨pb, 0, none⟩)] 23)) (b := w11.heap.size + 1) (by simp) 9 [.string Z0]).cell (j := 0) rfl
    have z12 : ((w11.alloc (.cells #[.pointer (some ⟨pb, 0, none⟩)] 23)).alloc (.cells #[.string Z0] 9)).heap.size = w11.heap.size + 1 + 1 := by simp
    clear e12 U0 U2 U4 BW BWx B7 B7x B78 hW6 hDD H7 H8 H9 H10 H11 HL8 HL9 HL10 HL11 HP
    generalize (w11.alloc (.cells #[.pointer (some ⟨pb, 0, none⟩)] 23)).alloc (.cells #[.string Z0] 9) = W12 at *
    have q12 := V0.lt
    have qDD : D < W12.heap.size := get_lt VD
    refine wpIn_rangeFunc_ownH (F := Fence.wide) (n := 4) rfl (by omega) (gf := 23) (lb := #[.pointer (some ⟨w11.heap.size, 0, none⟩), .pointer (some ⟨w11.heap.size + 1, 0, none⟩)]) rfl trivial (enters_of Tryz.func23 (by kernel_rfl) rfl)
      (all1_early (fun (_ : Unit) => #[undef]) (Kp := fun _ _ => True) (N := 0) 3 w11.heap.size (w11.heap.size + 1) W12.heap.size (.pointer (some ⟨pb, 0, none⟩)) Z0 (.inr ⟨pb, rfl, hzI⟩) W12 rfl (by omega) (by omega) cP2 cS2) (fun _ _ => trivial) (fun _ _ _ _ _ _ _ _ => trivial)
      (Below.refl _ _) (fun _ => rfl) (fun _ W => Below W12.heap.size W12 W) (fun _ _ _ => False) (fun s W W' row h hg hr => h.grown hg h.size fun k e => (hr k e).1) (fun _ _ _ _ _ h _ _ => h) (Below.refl _ _)
      (fun _ _ _ => True) (fun _ _ _ _ _ _ _ _ _ => trivial) ?assign2 ?body2 ?done2 ?stop2
    case assign2 =>
      intro l pre x W K hI hK
      gi_wp2
      exact hK _ _ (KeepsFrom.refl _ _) trivial hI trivial
    case body2 =>
      intro l pre x a' W hl hr hI hA hlen
      omega
    case stop2 =>
      intro D c pre W hD hS
      exact hS.elim
    case done2 =>
      intro D2 xs2 W13 hD2 hS2 hI2 hDD2
      have X0 := below_keeps' hI2 V0
      have X2 := below_keeps' hI2 V2
      have X4 := below_keeps' hI2 V4
      have X11 := below_keeps' hI2 M11
      have X13 := below_keeps' hI2 M13
      have XP := VP.up hI2.size hI2
      have XW := VW.trans (hI2.mono VW.size)
      have XD := (hI2.block D (get_lt VD)).trans VD
      have e13 := HC1.out W13 (w7.heap.size + 1) (below_keeps' hI2 VL)
      have hfz := find_zeros XP 65536 (Nat.le_refl _)
      rw [← HZ1.out] at hfz
      clear V0 V2 V4 M11 M13 VP VW VL VD cP2 cS2 hI2
      gi_wp2_with fail
      refine ⟨trivial, ?_⟩
      refine (callsIn_wide.2 hfz).mono ?_
      rintro e w14 ⟨rfl, hb14⟩
      have Y0 := below_keeps' hb14 X0
      have Y2 := below_keeps' hb14 X2
      have Y4 := below_keeps' hb14 X4
      have Y11 := below_keeps' hb14 X11
      have Y13 := below_keeps' hb14 X13
      have YW := XW.trans (hb14.mono XW.size)
      have YD := (hb14.block D (get_lt XD)).trans XD
      have YD2 := (hb14.block D2 (get_lt hDD2)).trans hDD2
      clear X0 X2 X4 X11 X13 XP XW XD hDD2 hb14 e13 hfz
      unfold matchV
      have y2c0 := Y2.cell (j := 0) rfl
      have y2c1 := Y2.cell (j := 1) rfl
      have y2c2 := Y2.cell (j := 2) rfl
      have y4c0 := Y4.cell (j := 0) rfl
      have y4c1 := Y4.cell (j := 1) rfl
      have y4c2 := Y4.cell (j := 2) rfl
      have y11c0 := Y11.cell (j := 0) rfl
      have y11c1 := Y11.cell (j := 1) rfl
      have y11c2 := Y11.cell (j := 2) rfl
      have y13c0 := Y13.cell (j := 0) rfl
      have y13c1 := Y13.cell (j := 1) rfl
      have y13c2 := Y13.cell (j := 2) rfl
      have y2l := Y2.lt
      have y4l := Y4.lt
      have y11l := Y11.lt
      have y13l := Y13.lt
      have y0l := Y0.lt
      gi_wp2_with (first
        | (refine ⟨trivial, ?_⟩; gi_at_call 10; refine (callsIn_wide.2 (nothing_met _)).mono ?_; rintro e wn ⟨rfl, hbn⟩; have Y0 : Blk wn w.heap.size 4 [.bool false] := below_keeps' hbn (by first | exact Y0 | exact Blk.alloc Y0 _); have y0c := Y0.cell (j := 0) rfl; have y0f := Y0.frozen 0; have y0l := Y0.lt; have Y2 : Blk wn w2.heap.size 28 [.int .i64 0, .int .i64 0, .slice none 0 0] := below_keeps' hbn (by first | exact Y2 | exact Blk.alloc Y2 _); have y2c0 := Y2.cell (j := 0) rfl; have y2c1 := Y2.cell (j := 1) rfl; have y2c2 := Y2.cell (j := 2) rfl; have y2l := Y2.lt; have Y4 : Blk wn w3.heap.size 28 [.int .i64 0, .int .i64 0, .slice none 0 0] := below_keeps' hbn (by first | exact Y4 | exact Blk.alloc Y4 _); have y4c0 := Y4.cell (j := 0) rfl; have y4c1 := Y4.cell (j := 1) rfl; have y4c2 := Y4.cell (j := 2) rfl; have y4l := Y4.lt; have Y11 : Blk wn w8.heap.size 28 [.int .i64 0, .int .i64 0, .slice none 0 0] := below_keeps' hbn (by first | exact Y11 | exact Blk.alloc Y11 _); have y11c0 := Y11.cell (j := 0) rfl; have y11c1 := Y11.cell (j := 1) rfl; have y11c2 := Y11.cell (j := 2) rfl; have y11l := Y11.lt; have Y13 : Blk wn w9.heap.size 28 [.int .i64 0, .int .i64 0, .slice none 0 0] := below_keeps' hbn (by first | exact Y13 | exact Blk.alloc Y13 _); have y13c0 := Y13.cell (j := 0) rfl; have y13c1 := Y13.cell (j := 1) rfl; have y13c2 := Y13.cell (j := 2) rfl; have y13l := Y13.lt; have Y19 : Blk wn w14.heap.size 28 [.int .i64 0, .int .i64 0, .slice none 0 0] := below_keeps' hbn (by first | exact Y19 | exact Blk.new w14 _ _); have y19c0 := Y19.cell (j := 0) rfl; have y19c1 := Y19.cell (j := 1) rfl; have y19c2 := Y19.cell (j := 2) rfl; have y19l := Y19.lt; have YW : Below w.heap.size w wn := (by first | exact YW.trans (hbn.mono YW.size) | exact (balloc YW _).trans (hbn.mono (balloc YW _).size)); have YD : wn.heap[D]? = some (.deferred (some [])) := keepsD hbn (by first | exact YD | exact (Below.heap_alloc w14 _ D (get_lt YD)).trans YD); have YD2 : wn.heap[D2]? = some (.deferred (some [])) := keepsD hbn (by first | exact YD2 | exact (Below.heap_alloc w14 _ D2 (get_lt YD2)).trans YD2))
        | (refine ⟨trivial, ?_⟩; gi_at_call 11; refine (callsIn_wide.2 (text_nil _)).mono ?_; rintro e wx ⟨rfl, rfl⟩)
        | (refine ⟨trivial, ?_⟩; gi_at_call 12; refine (callsIn_wide.2 (size_nil _)).mono ?_; rintro e wx ⟨rfl, rfl⟩)
        | (refine ⟨trivial, ?_⟩; gi_at_call 13; refine (callsIn_wide.2 (groups_nil _)).mono ?_; rintro e wx ⟨rfl, rfl⟩))
      have hDne : D ≠ w.heap.size := by omega
      have hD2ne : D2 ≠ w.heap.size := by omega
      have YD' : (wn.setCell ⟨w.heap.size, 0, none⟩ (.bool true)).heap[D]? = some (.deferred (some [])) := (Below.heap_setCell wn ⟨w.heap.size, 0, none⟩ _ D hDne).trans YD
      have YD2' : (wn.setCell ⟨w.heap.size, 0, none⟩ (.bool true)).heap[D2]? = some (.deferred (some [])) := (Below.heap_setCell wn ⟨w.heap.size, 0, none⟩ _ D2 hD2ne).trans YD2
      have Y0' := Y0.set 0 (.bool true)
      have YW' := YW.setCell (p := ⟨w.heap.size, 0, none⟩) (Nat.le_refl _) (.bool true)
      refine ⟨by simp, .inl ⟨_, _, rfl, run_takeDeferred YD2', ?_⟩⟩
      have hDD : D ≠ D2 := by omega
      refine ⟨by simp, .inl ⟨_, _, rfl, run_takeDeferred ((World.putObj_heap_other hDD).trans YD'), ?_⟩⟩
      have yc : ∀ o1 o2, (((wn.setCell ⟨w.heap.size, 0, none⟩ (.bool true)).putObj D2 o1).putObj D o2).cell? ⟨w.heap.size, 0, none⟩ = some (.bool true) := fun o1 o2 => ((cell_put (Ne.symm hDne)).trans (cell_put (Ne.symm hD2ne))).trans (Y0'.cell rfl)
      refine ⟨.bool true, ?_, rfl, below_put (below_put YW' (by omega) _) (by omega) _⟩
      have yc2 := yc (.deferred none) (.deferred none)
      generalize (((wn.setCell ⟨w.heap.size, 0, none⟩ (.bool true)).putObj D2 (.deferred none)).putObj D (.deferred none)) = WZ at *
      simp only [results, show Tryz.f3.results = #[.cell 0 4] from rfl] <;> go_simp

end Go.Proofs.YtlanodchnjojoaaGreatDoor
