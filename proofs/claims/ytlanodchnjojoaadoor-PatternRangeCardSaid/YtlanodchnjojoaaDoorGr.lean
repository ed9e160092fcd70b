/- The reader's method group, where branches are read as they must be. -/
import Derived.Test.YtlanodchnjojoaaDoorTn
namespace Go.Proofs.YtlanodchnjojoaaDoor
open Go.RowKit

def Atm.what : Atm → Nat
  | .leaf x _ => x
  | .grp _ _ => 6
def Atm.r : Atm → Nat
  | .leaf _ r => r
  | .grp _ _ => 0
def Atm.gn : Atm → Nat
  | .leaf _ _ => 0
  | .grp g _ => g
def aV (what r g : Nat) (v : Value) : Value := .agg #[.int .i64 what, .int .i32 r, .bool false, .int .u8 0, .bool false, .slice none 0 0, .bool false, .int .i64 g, v]
def aC (what r g : Nat) (v : Value) : List Value := [.int .i64 what, .int .i32 r, .bool false, .int .u8 0, .bool false, .slice none 0 0, .bool false, .int .i64 g, v]
/-- What an atom's field of branches is. -/
def AtmV (w : World) (F : Nat → Prop) : Atm → Value → Prop
  | .leaf _ _, v => v = .slice none 0 0
  | .grp _ bs, v => RepV w F v bs
theorem AtmV.part {w : World} {F : Nat → Prop} {a : Atm} {v : Value} (h : AtmV w F a v) (l m : Int) (z : Nat) : Rep w F 0 (a.part l m z) (aC a.what a.r a.gn v ++ [.int .i64 l, .int .i64 m, .int .i64 z]) := by
  cases a with
  | leaf what r => cases h; rfl
  | grp g bs =>
    obtain ⟨co, h2, h3, h4⟩ := h
    exact ⟨v, co, rfl, h2, h3, h4⟩
theorem AtmV.keep {w w' : World} {F F' : Nat → Prop} (hF : ∀ b, b < w.heap.size → F b → F' b) (hs : w.heap.size ≤ w'.heap.size) (hk : ∀ b, b < w.heap.size → F b → w'.heap[b]? = w.heap[b]?) {a : Atm} {v : Value} (h : AtmV w F a v) : AtmV w' F' a v := by
  cases a with
  | leaf what r => exact h
  | grp g bs => exact RepV.keep hF hs hk h

theorem RowIs.form {w : World} {F : Nat → Prop} {v : Value} {n : Nat} {cs : List Value} (h : RowIs w F v n cs) : ∃ a m c, v = .slice a m c := by
  rcases h with ⟨h, _⟩ | ⟨b, cap, h, _⟩ <;> exact ⟨_, _, _, h⟩
theorem RepV.form {w : World} {F : Nat → Prop} {v : Value} {bs : T} (h : RepV w F v bs) : ∃ a m c, v = .slice a m c := by
  obtain ⟨co, h1, _⟩ := h; exact h1.form
theorem AtmV.form {w : World} {F : Nat → Prop} {a : Atm} {v : Value} (h : AtmV w F a v) : ∃ a m c, v = .slice a m c := by
  cases a with
  | leaf x r => exact ⟨_, _, _, h⟩
  | grp g bs => exact RepV.form h

/-- What stands after a part of the text is read. -/
structure After (s : ByteArray) (rb : Nat) (w w' : World) (q : PS) (sz : Nat) : Prop where
  rd : Rd w' rb s q.at_ q.g q.z
  gr : w.grownBy w' (some rb)
  la : q.at_ ≤ s.size
  lz : q.z ≤ 2048
  lg : q.g ≤ 31
  ls : sz ≤ 2048

def BrOK (s : ByteArray) (rb : Nat) (rec : PS → Option (T × Nat × PS)) : Prop :=
  ∀ (w : World) (p : PS) (t : T) (sz : Nat) (q : PS), Rd w rb s p.at_ p.g p.z → p.at_ ≤ s.size → p.z ≤ 2048 → p.g ≤ 31 → rec p = some (t, sz, q) →
    Calls Tryd.prog 11 #[.pointer (some ⟨rb, 0, none⟩)] w fun e w' => ∃ v, e = .returned (.tuple #[v, .int .i64 sz]) ∧ RepV w' (fun b => w.heap.size ≤ b) v t ∧ After s rb w w' q sz

theorem byt_le {s : ByteArray} {i c : Nat} (h : byt s i = c) (hc : c < 256) : i < s.size := by
  apply Decidable.byContradiction; intro hn
  simp only [byt, hn, dif_neg, not_false_iff] at h; omega

set_option maxRecDepth 100000 in
set_option maxHeartbeats 2000000 in
theorem group_rd {w : World} {rb : Nat} {s : ByteArray} {p : PS} {rec : PS → Option (T × Nat × PS)} (hrec : BrOK s rb rec) (h : Rd w rb s p.at_ p.g p.z) (hs : s.size ≤ 2000) (hz : p.z + 1 ≤ 2048) (hg : p.g ≤ 31) (hg1 : p.g ≠ 31) (hb : byt s p.at_ = 40)
    {bs : T} {sz : Nat} {q : PS} (hp : rec ⟨p.at_ + 1, p.g + 1, p.z + 1⟩ = some (bs, sz, q)) (hq : byt s q.at_ = 41) :
    Calls Tryd.prog 42 #[.pointer (some ⟨rb, 0, none⟩)] w fun e w' => ∃ v, e = .returned (.tuple #[aV 6 0 (p.g + 1) v, .int .i64 ((sz + 1 : Nat) : Int)]) ∧ RepV w' (fun b => w.heap.size ≤ b) v bs ∧ Rd w' rb s (q.at_ + 1) q.g q.z ∧ w.grownBy w' (some rb) ∧ q.at_ + 1 ≤ s.size ∧ q.z ≤ 2048 ∧ q.g ≤ 31 ∧ sz ≤ 2048 := by
  obtain ⟨c0, c1, c2, c3⟩ := h.cells
  have f1 := Blk.frozen h 1
  have f2 := Blk.frozen h 2
  have hlt := Blk.lt h
  have hi := byt_le hb (by omega)
  have w1 : IntKind.i64.wrap ((p.g : Int) + 1) = (p.g : Int) + 1 := by rw [IntKind.wrap_i64]; omega
  have w2 : IntKind.i64.wrap ((p.at_ : Int) + 1) = (p.at_ : Int) + 1 := by rw [IntKind.wrap_i64]; omega
  have hg2 : ((p.g : Int) == 31) = false := by rw [beq_eq_false_iff_ne]; omega
  go_enter Tryd.func42, Tryd.ntmps42
  go_wp2_with fail
  refine (grown_rd (rb := rb) (s := s) (at_ := p.at_) (g := p.g + 1) (z := p.z) (((h.putGI _ (v := p.g + 1) (by omega)).alloc _).alloc _) 1 _ (p.z + 1) (by omega) hz (by omega)).mono ?_
  rintro e w3 ⟨rfl, rfl⟩
  go_wp2_with fail
  have H2 := Lib.hid ((((h.putGI ((p.g : Int) + 1) (v := p.g + 1) (by omega)).putZI ((p.z : Int) + 1) (v := p.z + 1) (by omega)).putI ((p.at_ : Int) + 1) (v := p.at_ + 1) (by omega)).alloc (.cells #[.int .i64 0, .int .i32 0, .bool false, .int .u8 0, .bool false, .slice none 0 0, .bool false, .int .i64 0, .slice none 0 0] 74) |>.alloc (.cells #[.int .i64 6, .int .i32 0, .bool false, .int .u8 0, .bool false, .slice none 0 0, .bool false, .int .i64 (p.g + 1), .slice none 0 0] 74))
  refine (hrec _ ⟨p.at_ + 1, p.g + 1, p.z + 1⟩ bs sz q H2.out (by show p.at_ + 1 ≤ s.size; omega) hz (by show p.g + 1 ≤ 31; omega) hp).mono ?_
  rintro e w4 ⟨v, rfl, HV, hR4⟩
  obtain ⟨va, vn, vc, rfl⟩ := HV.form
  have HB0 := Lib.hid (Blk.grown (Blk.alloc (Blk.newAt (b := w.heap.size) (by simp only [size_set]) 74 [.int .i64 0, .int .i32 0, .bool false, .int .u8 0, .bool false, .slice none 0 0, .bool false, .int .i64 0, .slice none 0 0]) _) hR4.gr (by simp; omega))
  have HB1 := Lib.hid (Blk.grown (Blk.newAt (b := w.heap.size + 1) (by simp only [size_set, World.size_alloc]) 74 [.int .i64 6, .int .i32 0, .bool false, .int .u8 0, .bool false, .slice none 0 0, .bool false, .int .i64 (p.g + 1), .slice none 0 0]) hR4.gr (by simp; omega))
  have T4 : Turn (fun b => b = rb ∨ w.heap.size ≤ b) w w4 := Turn.grown (by repeat (first | (with_reducible exact Turn.refl _ _) | (with_reducible refine Turn.set ?_ (by first | exact Or.inl rfl | exact Or.inr (Or.inl rfl) | exact Or.inr (Or.inr rfl) | exact Or.inr (by (try dsimp only [] at *); (try simp only [size_set, World.size_alloc, World.size_drew] at *); omega)) _) | (with_reducible refine Turn.alloc ?_ _) | (with_reducible refine Turn.drewN ?_ _) | (with_reducible refine Turn.drew ?_))) hR4.gr (Or.inl rfl)
  have hm := must_rd hR4.rd hs 41 (by omega) hq (byt_le hq (by omega))
  have T5 : Turn (fun b => b = rb ∨ w.heap.size ≤ b) w (w4.drew.setCell ⟨rb, 1, none⟩ (.int .i64 ((q.at_ + 1 : Nat) : Int))) := (by repeat (first | (with_reducible exact T4) | (with_reducible refine Turn.set ?_ (by first | exact Or.inl rfl | exact Or.inr (Or.inl rfl) | exact Or.inr (Or.inr rfl) | exact Or.inr (by (try dsimp only [] at *); (try simp only [size_set, World.size_alloc, World.size_drew] at *); omega)) _) | (with_reducible refine Turn.alloc ?_ _) | (with_reducible refine Turn.drewN ?_ _) | (with_reducible refine Turn.drew ?_)))
  have hq2 := byt_le hq (by omega)
  have hlw := T4.size
  have HV2 := Lib.hid HV
  have a0 := HB1.out.cell (j := 0) rfl
  have a1 := HB1.out.cell (j := 1) rfl
  have a2 := HB1.out.cell (j := 2) rfl
  have a3 := HB1.out.cell (j := 3) rfl
  have a4 := HB1.out.cell (j := 4) rfl
  have a5 := HB1.out.cell (j := 5) rfl
  have a6 := HB1.out.cell (j := 6) rfl
  have a7 := HB1.out.cell (j := 7) rfl
  have a8 := HB1.out.cell (j := 8) rfl
  have e8 := HB1.out.frozen 8
  have x0 := HB0.out.cell (j := 0) rfl
  have x1 := HB0.out.cell (j := 1) rfl
  have x2 := HB0.out.cell (j := 2) rfl
  have x3 := HB0.out.cell (j := 3) rfl
  have x4 := HB0.out.cell (j := 4) rfl
  have x5 := HB0.out.cell (j := 5) rfl
  have x6 := HB0.out.cell (j := 6) rfl
  have x7 := HB0.out.cell (j := 7) rfl
  have x8 := HB0.out.cell (j := 8) rfl
  have r0 := HB0.out.frozen 0
  have r1 := HB0.out.frozen 1
  have r2 := HB0.out.frozen 2
  have r3 := HB0.out.frozen 3
  have r4 := HB0.out.frozen 4
  have r5 := HB0.out.frozen 5
  have r6 := HB0.out.frozen 6
  have r7 := HB0.out.frozen 7
  have r8 := HB0.out.frozen 8
  have w3 : IntKind.i64.wrap ((sz : Int) + 1) = (sz : Int) + 1 := by have := hR4.ls; rw [IntKind.wrap_i64]; omega
  go_wp2_with (go_at_call 48; refine hm.mono ?_; rintro e w5 ⟨rfl, rfl⟩)
  refine bodyPost_ret_by (v := .tuple #[aV 6 0 (p.g + 1) (.slice va vn vc), .int .i64 ((sz + 1 : Nat) : Int)]) ?_ rfl ⟨_, rfl, ?_, ?_, ?_, hq2, hR4.lz, hR4.lg, hR4.ls⟩
  · simp only [results, aV, show Tryd.f42.results = #[.cell 2 74, .tmp 3] from rfl] <;> go_simp
  · refine RepV.turn HV2.out (S := fun b => b = rb ∨ b ≤ w.heap.size + 1) (by repeat (first | (with_reducible exact Turn.refl _ _) | (with_reducible refine Turn.set ?_ (by first | exact Or.inl rfl | exact Or.inr (Or.inl rfl) | exact Or.inr (Or.inr rfl) | exact Or.inr (by (try dsimp only [] at *); (try simp only [size_set, World.size_alloc, World.size_drew] at *); omega)) _) | (with_reducible refine Turn.alloc ?_ _) | (with_reducible refine Turn.drewN ?_ _) | (with_reducible refine Turn.drew ?_))) fun b _ hb => ?_
    simp only [size_set, World.size_alloc] at hb
    omega
  · exact (by repeat (first | (with_reducible exact hR4.rd.putI _ (by omega)) | (with_reducible refine Blk.set_other ?_ (by (try dsimp only [] at *); (try simp only [size_set, World.size_alloc, World.size_drew] at *); omega) _) | (with_reducible refine Blk.alloc ?_ _) | (with_reducible refine Rd.drewN ?_ _) | (with_reducible refine Blk.drew ?_)))
  · exact Turn.toGrown (S := fun b => b = rb ∨ w.heap.size ≤ b) (by repeat (first | (with_reducible exact T4) | (with_reducible refine Turn.set ?_ (by first | exact Or.inl rfl | exact Or.inr (Or.inl rfl) | exact Or.inr (Or.inr rfl) | exact Or.inr (by (try dsimp only [] at *); (try simp only [size_set, World.size_alloc, World.size_drew] at *); omega)) _) | (with_reducible refine Turn.alloc ?_ _) | (with_reducible refine Turn.drewN ?_ _) | (with_reducible refine Turn.drew ?_))) fun b hb h => by omega

end Go.Proofs.YtlanodchnjojoaaDoor
