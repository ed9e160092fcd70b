/- The reader's method part. -/
import Derived.Test.YtlanodchnjojoaaDoorAt
namespace Go.Proofs.YtlanodchnjojoaaDoor
open Go.RowKit

def pV (what r g : Nat) (v : Value) (l m : Int) (z : Nat) : Value := .agg #[.int .i64 what, .int .i32 r, .bool false, .int .u8 0, .bool false, .slice none 0 0, .bool false, .int .i64 g, v, .int .i64 l, .int .i64 m, .int .i64 z]
def zP : List Value := [.int .i64 0, .int .i32 0, .bool false, .int .u8 0, .bool false, .slice none 0 0, .bool false, .int .i64 0, .slice none 0 0, .int .i64 0, .int .i64 0, .int .i64 0]

theorem numL_lt {s : ByteArray} {at_ n a f : Nat} (h : numL s at_ f at_ 0 = some (n, a)) : at_ < s.size := by
  cases f with
  | zero => cases h
  | succ f =>
    unfold numL at h
    split at h
    · rename_i hd
      unfold digOk at hd
      simp only [Bool.and_eq_true, decide_eq_true_eq] at hd
      apply Decidable.byContradiction; intro hc
      have := hd.2.1
      simp only [byt, hc, dif_neg, not_false_iff] at this; omega
    · simp at h
theorem pTimes_lt {s : ByteArray} {at_ n a : Nat} (h : pTimes s at_ = some (n, a)) : at_ < s.size := by
  unfold pTimes at h
  split at h
  · rename_i h1; exact numL_lt h1
  · cases h

theorem AtmV.turn {S : Nat → Prop} {w w' : World} {F F' : Nat → Prop} {v : Value} {a : Atm} (h : AtmV w F a v) (t : Turn S w w') (hF : ∀ b, b < w.heap.size → F b → F' b ∧ ¬ S b) : AtmV w' F' a v :=
  h.keep (fun b h1 h2 => (hF b h1 h2).1) t.size fun b h1 h2 => t.block b h1 (hF b h1 h2).2

set_option maxRecDepth 100000 in
set_option maxHeartbeats 4000000 in
theorem part_rd {w : World} {rb : Nat} {s : ByteArray} {p : PS} {rec : PS → Option (T × Nat × PS)} (hrec : BrOK s rb rec) (h : Rd w rb s p.at_ p.g p.z) (ha : Asc s) (hs : s.size ≤ 2000) (hz : p.z ≤ 2048) (hg : p.g ≤ 31) (hi : p.at_ < s.size)
    {x : T} {psz : Nat} {q : PS} (hp : pPart rec s p = some (x, psz, q)) :
    Calls Tryd.prog 20 #[.pointer (some ⟨rb, 0, none⟩)] w fun e w' => ∃ (a : Atm) (v : Value) (l m : Int), x = a.part l m psz ∧ e = .returned (pV a.what a.r a.gn v l m psz) ∧ AtmV w' (fun b => w.heap.size ≤ b) a v ∧ Rd w' rb s q.at_ q.g q.z ∧ w.grownBy w' (some rb) := by
  have hlt := Blk.lt h
  unfold pPart at hp
  split at hp
  · cases hp
  rename_i a sz q1 hA
  split at hp
  · cases hp
  rename_i hchk
  have hc1 : sz ≤ 2048 := by omega
  have hc2 : q1.at_ ≤ s.size := by omega
  have hc3 : q1.z ≤ 2048 := by omega
  have wA : IntKind.i64.wrap ((q1.at_ : Int) + 1) = (q1.at_ : Int) + 1 := by rw [IntKind.wrap_i64]; omega
  go_enter Tryd.func20, Tryd.ntmps20
  go_wp2_with fail
  refine (atom_rd hrec (h.alloc _) ha hs hz hg hi hA).mono ?_
  rintro e w1 ⟨v, rfl, HV, HR1, hg1⟩
  obtain ⟨va, vn, vc, rfl⟩ := HV.form
  have HV1 := Lib.hid HV
  have B0' : Blk w1 w.heap.size 76 zP := Blk.grown (Blk.new w 76 zP) hg1 (by simp; omega)
  have B0 := Lib.hid B0'
  have T1' : Turn (fun b => b = rb ∨ w.heap.size ≤ b) w w1 := Turn.grown (by repeat (first | (with_reducible exact Turn.refl _ _) | (with_reducible refine Turn.set ?_ (by first | exact Or.inl rfl | exact Or.inr (Or.inl rfl) | exact Or.inr (Or.inr rfl) | exact Or.inr (by (try dsimp only [] at *); (try simp only [size_set, World.size_alloc, World.size_drew] at *); omega)) _) | (with_reducible refine Turn.alloc ?_ _) | (with_reducible refine Turn.drewN ?_ _) | (with_reducible refine Turn.drew ?_))) hg1 (Or.inl rfl)
  have T1 := Lib.hid T1'
  have l0 : w.heap.size < w1.heap.size := B0'.lt
  have hr1 := Blk.lt HR1
  have n3 : ¬ rb = w.heap.size := by omega
  have n4 : ¬ w.heap.size = rb := by omega
  obtain ⟨d0, d1, d2, d3⟩ := HR1.cells
  have df := Blk.frozen HR1 1
  have x0 := B0.out.cell (j := 0) rfl
  have x1 := B0.out.cell (j := 1) rfl
  have x2 := B0.out.cell (j := 2) rfl
  have x3 := B0.out.cell (j := 3) rfl
  have x4 := B0.out.cell (j := 4) rfl
  have x5 := B0.out.cell (j := 5) rfl
  have x6 := B0.out.cell (j := 6) rfl
  have x7 := B0.out.cell (j := 7) rfl
  have x8 := B0.out.cell (j := 8) rfl
  have x9 := B0.out.cell (j := 9) rfl
  have x10 := B0.out.cell (j := 10) rfl
  have x11 := B0.out.cell (j := 11) rfl
  have u0 := B0.out.frozen 0
  have u1 := B0.out.frozen 1
  have u2 := B0.out.frozen 2
  have u3 := B0.out.frozen 3
  have u4 := B0.out.frozen 4
  have u5 := B0.out.frozen 5
  have u6 := B0.out.frozen 6
  have u7 := B0.out.frozen 7
  have u8 := B0.out.frozen 8
  have u9 := B0.out.frozen 9
  have u10 := B0.out.frozen 10
  have u11 := B0.out.frozen 11
  clear hg1 B0' T1' HV
  unfold aV
  split at hp
  · rename_i h42
    have b42 : ((byt s q1.at_ : Int) == 42) = true := by rw [h42]; rfl
    unfold fin at hp
    split at hp
    · rename_i hf
      cases hp
      go_wp2_with (first | (go_at_call 19; refine (is_rdI (s := s) (at_ := q1.at_) (g := q1.g) (z := q1.z) (rb := rb) (by repeat (first | (with_reducible exact HR1) | (with_reducible refine @Rd.putI _ _ _ ?_ _ _ ?_ _ _ (by omega); rotate_left) | (with_reducible refine @Rd.putZI _ _ _ _ _ ?_ ?_ _ _ (by omega); rotate_left) | (with_reducible refine @Rd.putGI _ _ _ _ ?_ _ ?_ _ _ (by omega); rotate_left) | (with_reducible refine Blk.set_other ?_ (by (try dsimp only [] at *); (try simp only [size_set, World.size_alloc, World.size_drew] at *); omega) _) | (with_reducible refine Blk.alloc ?_ _) | (with_reducible refine Rd.drewN ?_ _) | (with_reducible refine Blk.drew ?_))) hs _ (by omega) (by omega)).mono ?_; rintro e wx ⟨rfl, rfl⟩) | (go_at_call 30; refine (grown_rd (rb := rb) (s := s) (at_ := q1.at_ + 1) (g := q1.g) (z := q1.z) (by repeat (first | (with_reducible exact HR1) | (with_reducible refine @Rd.putI _ _ _ ?_ _ _ ?_ _ _ (by omega); rotate_left) | (with_reducible refine @Rd.putZI _ _ _ _ _ ?_ ?_ _ _ (by omega); rotate_left) | (with_reducible refine @Rd.putGI _ _ _ _ ?_ _ ?_ _ _ (by omega); rotate_left) | (with_reducible refine Blk.set_other ?_ (by (try dsimp only [] at *); (try simp only [size_set, World.size_alloc, World.size_drew] at *); omega) _) | (with_reducible refine Blk.alloc ?_ _) | (with_reducible refine Rd.drewN ?_ _) | (with_reducible refine Blk.drew ?_))) _ _ (q1.z + (psz - psz)) (by omega) (by omega) (by omega)).mono ?_; rintro e w3 ⟨rfl, rfl⟩))
      refine bodyPost_ret_by (v := pV a.what a.r a.gn (.slice va vn vc) (0) (-1) (psz)) ?_ rfl ⟨a, _, _, _, rfl, rfl, ?_, ?_, ?_⟩
      · simp only [results, pV, show Tryd.f20.results = #[.cell 2 76] from rfl] <;> go_simp
      · refine AtmV.turn HV1.out (S := fun b => b = rb ∨ b ≤ w.heap.size) (by repeat (first | (with_reducible exact Turn.refl _ _) | (with_reducible refine Turn.set ?_ (by first | exact Or.inl rfl | exact Or.inr (Or.inl rfl) | exact Or.inr (Or.inr rfl) | exact Or.inr (by (try dsimp only [] at *); (try simp only [size_set, World.size_alloc, World.size_drew] at *); omega)) _) | (with_reducible refine Turn.alloc ?_ _) | (with_reducible refine Turn.drewN ?_ _) | (with_reducible refine Turn.drew ?_))) fun b hb1 hb => ?_
        simp only [World.size_alloc] at hb
        omega
      · exact (by repeat (first | (with_reducible exact HR1) | (with_reducible refine @Rd.putI _ _ _ ?_ _ _ ?_ _ _ (by omega); rotate_left) | (with_reducible refine @Rd.putZI _ _ _ _ _ ?_ ?_ _ _ (by omega); rotate_left) | (with_reducible refine @Rd.putGI _ _ _ _ ?_ _ ?_ _ _ (by omega); rotate_left) | (with_reducible refine Blk.set_other ?_ (by (try dsimp only [] at *); (try simp only [size_set, World.size_alloc, World.size_drew] at *); omega) _) | (with_reducible refine Blk.alloc ?_ _) | (with_reducible refine Rd.drewN ?_ _) | (with_reducible refine Blk.drew ?_)))
      · exact Turn.toGrown (S := fun b => b = rb ∨ w.heap.size ≤ b) (by repeat (first | (with_reducible exact T1.out) | (with_reducible refine Turn.set ?_ (by first | exact Or.inl rfl | exact Or.inr (Or.inl rfl) | exact Or.inr (Or.inr rfl) | exact Or.inr (by (try dsimp only [] at *); (try simp only [size_set, World.size_alloc, World.size_drew] at *); omega)) _) | (with_reducible refine Turn.alloc ?_ _) | (with_reducible refine Turn.drewN ?_ _) | (with_reducible refine Turn.drew ?_))) fun b hb h => by omega
    · cases hp
  rename_i h42
  have b42 : ((byt s q1.at_ : Int) == 42) = false := by rw [beq_eq_false_iff_ne]; omega
  split at hp
  · rename_i h43
    have b43 : ((byt s q1.at_ : Int) == 43) = true := by rw [h43]; rfl
    unfold fin at hp
    split at hp
    · rename_i hf
      cases hp
      go_wp2_with (first | (go_at_call 19; refine (is_rdI (s := s) (at_ := q1.at_) (g := q1.g) (z := q1.z) (rb := rb) (by repeat (first | (with_reducible exact HR1) | (with_reducible refine @Rd.putI _ _ _ ?_ _ _ ?_ _ _ (by omega); rotate_left) | (with_reducible refine @Rd.putZI _ _ _ _ _ ?_ ?_ _ _ (by omega); rotate_left) | (with_reducible refine @Rd.putGI _ _ _ _ ?_ _ ?_ _ _ (by omega); rotate_left) | (with_reducible refine Blk.set_other ?_ (by (try dsimp only [] at *); (try simp only [size_set, World.size_alloc, World.size_drew] at *); omega) _) | (with_reducible refine Blk.alloc ?_ _) | (with_reducible refine Rd.drewN ?_ _) | (with_reducible refine Blk.drew ?_))) hs _ (by omega) (by omega)).mono ?_; rintro e wx ⟨rfl, rfl⟩) | (go_at_call 30; refine (grown_rd (rb := rb) (s := s) (at_ := q1.at_ + 1) (g := q1.g) (z := q1.z) (by repeat (first | (with_reducible exact HR1) | (with_reducible refine @Rd.putI _ _ _ ?_ _ _ ?_ _ _ (by omega); rotate_left) | (with_reducible refine @Rd.putZI _ _ _ _ _ ?_ ?_ _ _ (by omega); rotate_left) | (with_reducible refine @Rd.putGI _ _ _ _ ?_ _ ?_ _ _ (by omega); rotate_left) | (with_reducible refine Blk.set_other ?_ (by (try dsimp only [] at *); (try simp only [size_set, World.size_alloc, World.size_drew] at *); omega) _) | (with_reducible refine Blk.alloc ?_ _) | (with_reducible refine Rd.drewN ?_ _) | (with_reducible refine Blk.drew ?_))) _ _ (q1.z + (2 * sz - sz)) (by omega) (by omega) (by omega)).mono ?_; rintro e w3 ⟨rfl, rfl⟩))
      refine bodyPost_ret_by (v := pV a.what a.r a.gn (.slice va vn vc) (1) (-1) (2 * sz)) ?_ rfl ⟨a, _, _, _, rfl, rfl, ?_, ?_, ?_⟩
      · simp only [results, pV, show Tryd.f20.results = #[.cell 2 76] from rfl, show ((2 * sz : Nat) : Int) = (sz : Int) * 2 from by omega] <;> go_simp
      · refine AtmV.turn HV1.out (S := fun b => b = rb ∨ b ≤ w.heap.size) (by repeat (first | (with_reducible exact Turn.refl _ _) | (with_reducible refine Turn.set ?_ (by first | exact Or.inl rfl | exact Or.inr (Or.inl rfl) | exact Or.inr (Or.inr rfl) | exact Or.inr (by (try dsimp only [] at *); (try simp only [size_set, World.size_alloc, World.size_drew] at *); omega)) _) | (with_reducible refine Turn.alloc ?_ _) | (with_reducible refine Turn.drewN ?_ _) | (with_reducible refine Turn.drew ?_))) fun b hb1 hb => ?_
        simp only [World.size_alloc] at hb
        omega
      · exact (by repeat (first | (with_reducible exact HR1) | (with_reducible refine @Rd.putI _ _ _ ?_ _ _ ?_ _ _ (by omega); rotate_left) | (with_reducible refine @Rd.putZI _ _ _ _ _ ?_ ?_ _ _ (by omega); rotate_left) | (with_reducible refine @Rd.putGI _ _ _ _ ?_ _ ?_ _ _ (by omega); rotate_left) | (with_reducible refine Blk.set_other ?_ (by (try dsimp only [] at *); (try simp only [size_set, World.size_alloc, World.size_drew] at *); omega) _) | (with_reducible refine Blk.alloc ?_ _) | (with_reducible refine Rd.drewN ?_ _) | (with_reducible refine Blk.drew ?_)))
      · exact Turn.toGrown (S := fun b => b = rb ∨ w.heap.size ≤ b) (by repeat (first | (with_reducible exact T1.out) | (with_reducible refine Turn.set ?_ (by first | exact Or.inl rfl | exact Or.inr (Or.inl rfl) | exact Or.inr (Or.inr rfl) | exact Or.inr (by (try dsimp only [] at *); (try simp only [size_set, World.size_alloc, World.size_drew] at *); omega)) _) | (with_reducible refine Turn.alloc ?_ _) | (with_reducible refine Turn.drewN ?_ _) | (with_reducible refine Turn.drew ?_))) fun b hb h => by omega
    · cases hp
  rename_i h43
  have b43 : ((byt s q1.at_ : Int) == 43) = false := by rw [beq_eq_false_iff_ne]; omega
  split at hp
  · rename_i h63
    have b63 : ((byt s q1.at_ : Int) == 63) = true := by rw [h63]; rfl
    unfold fin at hp
    split at hp
    · rename_i hf
      cases hp
      go_wp2_with (first | (go_at_call 19; refine (is_rdI (s := s) (at_ := q1.at_) (g := q1.g) (z := q1.z) (rb := rb) (by repeat (first | (with_reducible exact HR1) | (with_reducible refine @Rd.putI _ _ _ ?_ _ _ ?_ _ _ (by omega); rotate_left) | (with_reducible refine @Rd.putZI _ _ _ _ _ ?_ ?_ _ _ (by omega); rotate_left) | (with_reducible refine @Rd.putGI _ _ _ _ ?_ _ ?_ _ _ (by omega); rotate_left) | (with_reducible refine Blk.set_other ?_ (by (try dsimp only [] at *); (try simp only [size_set, World.size_alloc, World.size_drew] at *); omega) _) | (with_reducible refine Blk.alloc ?_ _) | (with_reducible refine Rd.drewN ?_ _) | (with_reducible refine Blk.drew ?_))) hs _ (by omega) (by omega)).mono ?_; rintro e wx ⟨rfl, rfl⟩) | (go_at_call 30; refine (grown_rd (rb := rb) (s := s) (at_ := q1.at_ + 1) (g := q1.g) (z := q1.z) (by repeat (first | (with_reducible exact HR1) | (with_reducible refine @Rd.putI _ _ _ ?_ _ _ ?_ _ _ (by omega); rotate_left) | (with_reducible refine @Rd.putZI _ _ _ _ _ ?_ ?_ _ _ (by omega); rotate_left) | (with_reducible refine @Rd.putGI _ _ _ _ ?_ _ ?_ _ _ (by omega); rotate_left) | (with_reducible refine Blk.set_other ?_ (by (try dsimp only [] at *); (try simp only [size_set, World.size_alloc, World.size_drew] at *); omega) _) | (with_reducible refine Blk.alloc ?_ _) | (with_reducible refine Rd.drewN ?_ _) | (with_reducible refine Blk.drew ?_))) _ _ (q1.z + (psz - psz)) (by omega) (by omega) (by omega)).mono ?_; rintro e w3 ⟨rfl, rfl⟩))
      refine bodyPost_ret_by (v := pV a.what a.r a.gn (.slice va vn vc) (0) (1) (psz)) ?_ rfl ⟨a, _, _, _, rfl, rfl, ?_, ?_, ?_⟩
      · simp only [results, pV, show Tryd.f20.results = #[.cell 2 76] from rfl] <;> go_simp
      · refine AtmV.turn HV1.out (S := fun b => b = rb ∨ b ≤ w.heap.size) (by repeat (first | (with_reducible exact Turn.refl _ _) | (with_reducible refine Turn.set ?_ (by first | exact Or.inl rfl | exact Or.inr (Or.inl rfl) | exact Or.inr (Or.inr rfl) | exact Or.inr (by (try dsimp only [] at *); (try simp only [size_set, World.size_alloc, World.size_drew] at *); omega)) _) | (with_reducible refine Turn.alloc ?_ _) | (with_reducible refine Turn.drewN ?_ _) | (with_reducible refine Turn.drew ?_))) fun b hb1 hb => ?_
        simp only [World.size_alloc] at hb
        omega
      · exact (by repeat (first | (with_reducible exact HR1) | (with_reducible refine @Rd.putI _ _ _ ?_ _ _ ?_ _ _ (by omega); rotate_left) | (with_reducible refine @Rd.putZI _ _ _ _ _ ?_ ?_ _ _ (by omega); rotate_left) | (with_reducible refine @Rd.putGI _ _ _ _ ?_ _ ?_ _ _ (by omega); rotate_left) | (with_reducible refine Blk.set_other ?_ (by (try dsimp only [] at *); (try simp only [size_set, World.size_alloc, World.size_drew] at *); omega) _) | (with_reducible refine Blk.alloc ?_ _) | (with_reducible refine Rd.drewN ?_ _) | (with_reducible refine Blk.drew ?_)))
      · exact Turn.toGrown (S := fun b => b = rb ∨ w.heap.size ≤ b) (by repeat (first | (with_reducible exact T1.out) | (with_reducible refine Turn.set ?_ (by first | exact Or.inl rfl | exact Or.inr (Or.inl rfl) | exact Or.inr (Or.inr rfl) | exact Or.inr (by (try dsimp only [] at *); (try simp only [size_set, World.size_alloc, World.size_drew] at *); omega)) _) | (with_reducible refine Turn.alloc ?_ _) | (with_reducible refine Turn.drewN ?_ _) | (with_reducible refine Turn.drew ?_))) fun b hb h => by omega
    · cases hp
  rename_i h63
  have b63 : ((byt s q1.at_ : Int) == 63) = false := by rw [beq_eq_false_iff_ne]; omega
  split at hp
  · rename_i h123
    have b123 : ((byt s q1.at_ : Int) == 123) = true := by rw [h123]; rfl
    split at hp
    · rename_i n at' hT
      split at hp
      · rename_i h255
        unfold fin at hp
        split at hp
        · rename_i hf
          cases hp
          go_wp2_with (first | (go_at_call 19; refine (is_rdI (s := s) (at_ := q1.at_) (g := q1.g) (z := q1.z) (rb := rb) (by repeat (first | (with_reducible exact HR1) | (with_reducible refine @Rd.putI _ _ _ ?_ _ _ ?_ _ _ (by omega); rotate_left) | (with_reducible refine @Rd.putZI _ _ _ _ _ ?_ ?_ _ _ (by omega); rotate_left) | (with_reducible refine @Rd.putGI _ _ _ _ ?_ _ ?_ _ _ (by omega); rotate_left) | (with_reducible refine Blk.set_other ?_ (by (try dsimp only [] at *); (try simp only [size_set, World.size_alloc, World.size_drew] at *); omega) _) | (with_reducible refine Blk.alloc ?_ _) | (with_reducible refine Rd.drewN ?_ _) | (with_reducible refine Blk.drew ?_))) hs _ (by omega) (by omega)).mono ?_; rintro e wx ⟨rfl, rfl⟩))
          refine (times_rd (rb := rb) (s := s) (at_ := q1.at_ + 1) (g := q1.g) (z := q1.z) (by repeat (first | (with_reducible exact HR1) | (with_reducible refine @Rd.putI _ _ _ ?_ _ _ ?_ _ _ (by omega); rotate_left) | (with_reducible refine @Rd.putZI _ _ _ _ _ ?_ ?_ _ _ (by omega); rotate_left) | (with_reducible refine @Rd.putGI _ _ _ _ ?_ _ ?_ _ _ (by omega); rotate_left) | (with_reducible refine Blk.set_other ?_ (by (try dsimp only [] at *); (try simp only [size_set, World.size_alloc, World.size_drew] at *); omega) _) | (with_reducible refine Blk.alloc ?_ _) | (with_reducible refine Rd.drewN ?_ _) | (with_reducible refine Blk.drew ?_))) hs hT (pTimes_lt hT)).mono ?_
          rintro e w2 ⟨rfl, HR2, hg2, _, _⟩
          have X0' : Blk w2 w.heap.size 76 zP := Blk.grown (by repeat (first | (with_reducible exact B0.out) | (with_reducible refine Blk.set_other ?_ (by (try dsimp only [] at *); (try simp only [size_set, World.size_alloc, World.size_drew] at *); omega) _) | (with_reducible refine Blk.alloc ?_ _) | (with_reducible refine Rd.drewN ?_ _) | (with_reducible refine Blk.drew ?_))) hg2 (by simp; omega)
          have XP' : Blk w2 (w1.heap.size + 1) 76 [.int .i64 a.what, .int .i32 a.r, .bool false, .int .u8 0, .bool false, .slice none 0 0, .bool false, .int .i64 a.gn, .slice va vn vc, .int .i64 1, .int .i64 1, .int .i64 sz] := Blk.grown (by repeat (first | (with_reducible exact Blk.newAt (by simp only [World.size_alloc, size_set]) _ _) | (with_reducible refine Blk.set_other ?_ (by (try dsimp only [] at *); (try simp only [size_set, World.size_alloc, World.size_drew] at *); omega) _) | (with_reducible refine Blk.alloc ?_ _) | (with_reducible refine Rd.drewN ?_ _) | (with_reducible refine Blk.drew ?_))) hg2 (by simp; omega)
          have T2' : Turn (fun b => b = rb ∨ w.heap.size ≤ b) w w2 := Turn.grown (by repeat (first | (with_reducible exact T1.out) | (with_reducible refine Turn.set ?_ (by first | exact Or.inl rfl | exact Or.inr (Or.inl rfl) | exact Or.inr (Or.inr rfl) | exact Or.inr (by (try dsimp only [] at *); (try simp only [size_set, World.size_alloc, World.size_drew] at *); omega)) _) | (with_reducible refine Turn.alloc ?_ _) | (with_reducible refine Turn.drewN ?_ _) | (with_reducible refine Turn.drew ?_))) hg2 (Or.inl rfl)
          have HV2' : AtmV w2 (fun b => w.heap.size + 1 ≤ b ∧ b < w1.heap.size) a (.slice va vn vc) := AtmV.turn HV1.out (S := fun b => b = rb ∨ w1.heap.size ≤ b) (Turn.grown (by repeat (first | (with_reducible exact Turn.refl _ _) | (with_reducible refine Turn.set ?_ (by first | exact Or.inl rfl | exact Or.inr (Or.inl rfl) | exact Or.inr (Or.inr rfl) | exact Or.inr (by (try dsimp only [] at *); (try simp only [size_set, World.size_alloc, World.size_drew] at *); omega)) _) | (with_reducible refine Turn.alloc ?_ _) | (with_reducible refine Turn.drewN ?_ _) | (with_reducible refine Turn.drew ?_))) hg2 (Or.inl rfl)) fun b hb1 hb => by simp only [World.size_alloc] at hb ⊢; omega
          have HV2 := Lib.hid HV2'
          have T2 := Lib.hid T2'
          have X0 := Lib.hid X0'
          have XP := Lib.hid XP'
          have l2 : w.heap.size < w2.heap.size := X0'.lt
          have l3 : w1.heap.size + 1 < w2.heap.size := XP'.lt
          have n5 : ¬ rb = w1.heap.size + 1 := by omega
          have n6 : ¬ w1.heap.size + 1 = rb := by omega
          clear X0' XP' T2' HV2' hg2 x0 u0 x1 u1 x2 u2 x3 u3 x4 u4 x5 u5 x6 u6 x7 u7 x8 u8 x9 u9 x10 u10 x11 u11 d0 d1 d2 d3 df
          obtain ⟨k0, k1, k2, k3⟩ := HR2.cells
          have kf := Blk.frozen HR2 3
          have x0 := X0.out.cell (j := 0) rfl
          have u0 := X0.out.frozen 0
          have y0 := XP.out.cell (j := 0) rfl
          have v0 := XP.out.frozen 0
          have x1 := X0.out.cell (j := 1) rfl
          have u1 := X0.out.frozen 1
          have y1 := XP.out.cell (j := 1) rfl
          have v1 := XP.out.frozen 1
          have x2 := X0.out.cell (j := 2) rfl
          have u2 := X0.out.frozen 2
          have y2 := XP.out.cell (j := 2) rfl
          have v2 := XP.out.frozen 2
          have x3 := X0.out.cell (j := 3) rfl
          have u3 := X0.out.frozen 3
          have y3 := XP.out.cell (j := 3) rfl
          have v3 := XP.out.frozen 3
          have x4 := X0.out.cell (j := 4) rfl
          have u4 := X0.out.frozen 4
          have y4 := XP.out.cell (j := 4) rfl
          have v4 := XP.out.frozen 4
          have x5 := X0.out.cell (j := 5) rfl
          have u5 := X0.out.frozen 5
          have y5 := XP.out.cell (j := 5) rfl
          have v5 := XP.out.frozen 5
          have x6 := X0.out.cell (j := 6) rfl
          have u6 := X0.out.frozen 6
          have y6 := XP.out.cell (j := 6) rfl
          have v6 := XP.out.frozen 6
          have x7 := X0.out.cell (j := 7) rfl
          have u7 := X0.out.frozen 7
          have y7 := XP.out.cell (j := 7) rfl
          have v7 := XP.out.frozen 7
          have x8 := X0.out.cell (j := 8) rfl
          have u8 := X0.out.frozen 8
          have y8 := XP.out.cell (j := 8) rfl
          have v8 := XP.out.frozen 8
          have x9 := X0.out.cell (j := 9) rfl
          have u9 := X0.out.frozen 9
          have y9 := XP.out.cell (j := 9) rfl
          have v9 := XP.out.frozen 9
          have x10 := X0.out.cell (j := 10) rfl
          have u10 := X0.out.frozen 10
          have y10 := XP.out.cell (j := 10) rfl
          have v10 := XP.out.frozen 10
          have x11 := X0.out.cell (j := 11) rfl
          have u11 := X0.out.frozen 11
          have y11 := XP.out.cell (j := 11) rfl
          have v11 := XP.out.frozen 11
          have wm : IntKind.i64.wrap ((sz : Int) * (n : Int)) = (sz : Int) * (n : Int) := by
            have := hf.2.2
            rw [IntKind.wrap_i64]; have : ((sz * n : Nat) : Int) = (sz : Int) * (n : Int) := by push_cast; rfl
            omega
          have em : ((sz * n : Nat) : Int) = (sz : Int) * (n : Int) := by push_cast; rfl
          go_wp2_with (first | (go_at_call 30; refine (grown_rd (rb := rb) (s := s) (at_ := at') (g := q1.g) (z := q1.z) (by repeat (first | (with_reducible exact HR2) | (with_reducible refine @Rd.putI _ _ _ ?_ _ _ ?_ _ _ (by omega); rotate_left) | (with_reducible refine @Rd.putZI _ _ _ _ _ ?_ ?_ _ _ (by omega); rotate_left) | (with_reducible refine @Rd.putGI _ _ _ _ ?_ _ ?_ _ _ (by omega); rotate_left) | (with_reducible refine Blk.set_other ?_ (by (try dsimp only [] at *); (try simp only [size_set, World.size_alloc, World.size_drew] at *); omega) _) | (with_reducible refine Blk.alloc ?_ _) | (with_reducible refine Rd.drewN ?_ _) | (with_reducible refine Blk.drew ?_))) _ _ (q1.z + (sz * n - sz)) (by omega) (by omega) (by omega)).mono ?_; rintro e w3 ⟨rfl, rfl⟩))
          refine bodyPost_ret_by (v := pV a.what a.r a.gn (.slice va vn vc) (n) (n) (sz * n)) ?_ rfl ⟨a, _, _, _, rfl, rfl, ?_, ?_, ?_⟩
          · simp only [results, pV, show Tryd.f20.results = #[.cell 2 76] from rfl, em] <;> go_simp
          · refine AtmV.turn HV2.out (S := fun b => b = rb ∨ b = w.heap.size ∨ b = w1.heap.size + 1) (by repeat (first | (with_reducible exact Turn.refl _ _) | (with_reducible refine Turn.set ?_ (by first | exact Or.inl rfl | exact Or.inr (Or.inl rfl) | exact Or.inr (Or.inr rfl) | exact Or.inr (by (try dsimp only [] at *); (try simp only [size_set, World.size_alloc, World.size_drew] at *); omega)) _) | (with_reducible refine Turn.alloc ?_ _) | (with_reducible refine Turn.drewN ?_ _) | (with_reducible refine Turn.drew ?_))) fun b hb1 hb => ?_
            omega
          · exact (by repeat (first | (with_reducible exact HR2) | (with_reducible refine @Rd.putI _ _ _ ?_ _ _ ?_ _ _ (by omega); rotate_left) | (with_reducible refine @Rd.putZI _ _ _ _ _ ?_ ?_ _ _ (by omega); rotate_left) | (with_reducible refine @Rd.putGI _ _ _ _ ?_ _ ?_ _ _ (by omega); rotate_left) | (with_reducible refine Blk.set_other ?_ (by (try dsimp only [] at *); (try simp only [size_set, World.size_alloc, World.size_drew] at *); omega) _) | (with_reducible refine Blk.alloc ?_ _) | (with_reducible refine Rd.drewN ?_ _) | (with_reducible refine Blk.drew ?_)))
          · exact Turn.toGrown (S := fun b => b = rb ∨ w.heap.size ≤ b) (by repeat (first | (with_reducible exact T2.out) | (with_reducible refine Turn.set ?_ (by first | exact Or.inl rfl | exact Or.inr (Or.inl rfl) | exact Or.inr (Or.inr rfl) | exact Or.inr (by (try dsimp only [] at *); (try simp only [size_set, World.size_alloc, World.size_drew] at *); omega)) _) | (with_reducible refine Turn.alloc ?_ _) | (with_reducible refine Turn.drewN ?_ _) | (with_reducible refine Turn.drew ?_))) fun b hb h => by omega
        · cases hp
      · cases hp
    · cases hp
  rename_i h123
  have b123 : ((byt s q1.at_ : Int) == 123) = false := by rw [beq_eq_false_iff_ne]; omega
  simp only [Option.some.injEq, Prod.mk.injEq] at hp
  obtain ⟨rfl, rfl, rfl⟩ := hp
  go_wp2_with (first | (go_at_call 19; refine (is_rdI (s := s) (at_ := q1.at_) (g := q1.g) (z := q1.z) (rb := rb) (by repeat (first | (with_reducible exact HR1) | (with_reducible refine @Rd.putI _ _ _ ?_ _ _ ?_ _ _ (by omega); rotate_left) | (with_reducible refine @Rd.putZI _ _ _ _ _ ?_ ?_ _ _ (by omega); rotate_left) | (with_reducible refine @Rd.putGI _ _ _ _ ?_ _ ?_ _ _ (by omega); rotate_left) | (with_reducible refine Blk.set_other ?_ (by (try dsimp only [] at *); (try simp only [size_set, World.size_alloc, World.size_drew] at *); omega) _) | (with_reducible refine Blk.alloc ?_ _) | (with_reducible refine Rd.drewN ?_ _) | (with_reducible refine Blk.drew ?_))) hs _ (by omega) (by omega)).mono ?_; rintro e wx ⟨rfl, rfl⟩))
  refine bodyPost_ret_by (v := pV a.what a.r a.gn (.slice va vn vc) (1) (1) (sz)) ?_ rfl ⟨a, _, _, _, rfl, rfl, ?_, ?_, ?_⟩
  · simp only [results, pV, show Tryd.f20.results = #[.cell 2 76] from rfl] <;> go_simp
  · refine AtmV.turn HV1.out (S := fun b => b = rb ∨ b ≤ w.heap.size) (by repeat (first | (with_reducible exact Turn.refl _ _) | (with_reducible refine Turn.set ?_ (by first | exact Or.inl rfl | exact Or.inr (Or.inl rfl) | exact Or.inr (Or.inr rfl) | exact Or.inr (by (try dsimp only [] at *); (try simp only [size_set, World.size_alloc, World.size_drew] at *); omega)) _) | (with_reducible refine Turn.alloc ?_ _) | (with_reducible refine Turn.drewN ?_ _) | (with_reducible refine Turn.drew ?_))) fun b hb1 hb => ?_
    simp only [World.size_alloc] at hb
    omega
  · exact (by repeat (first | (with_reducible exact HR1) | (with_reducible refine @Rd.putI _ _ _ ?_ _ _ ?_ _ _ (by omega); rotate_left) | (with_reducible refine @Rd.putZI _ _ _ _ _ ?_ ?_ _ _ (by omega); rotate_left) | (with_reducible refine @Rd.putGI _ _ _ _ ?_ _ ?_ _ _ (by omega); rotate_left) | (with_reducible refine Blk.set_other ?_ (by (try dsimp only [] at *); (try simp only [size_set, World.size_alloc, World.size_drew] at *); omega) _) | (with_reducible refine Blk.alloc ?_ _) | (with_reducible refine Rd.drewN ?_ _) | (with_reducible refine Blk.drew ?_)))
  · exact Turn.toGrown (S := fun b => b = rb ∨ w.heap.size ≤ b) (by repeat (first | (with_reducible exact T1.out) | (with_reducible refine Turn.set ?_ (by first | exact Or.inl rfl | exact Or.inr (Or.inl rfl) | exact Or.inr (Or.inr rfl) | exact Or.inr (by (try dsimp only [] at *); (try simp only [size_set, World.size_alloc, World.size_drew] at *); omega)) _) | (with_reducible refine Turn.alloc ?_ _) | (with_reducible refine Turn.drewN ?_ _) | (with_reducible refine Turn.drew ?_))) fun b hb h => by omega

end Go.Proofs.YtlanodchnjojoaaDoor
