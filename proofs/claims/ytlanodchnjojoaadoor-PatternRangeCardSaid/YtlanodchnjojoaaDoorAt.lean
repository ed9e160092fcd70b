/- The reader's method atom. -/
import Derived.Test.YtlanodchnjojoaaDoorEs
namespace Go.Proofs.YtlanodchnjojoaaDoor
open Go.RowKit

def zA : List Value := [.int .i64 0, .int .i32 0, .bool false, .int .u8 0, .bool false, .slice none 0 0, .bool false, .int .i64 0, .slice none 0 0]

set_option maxRecDepth 100000 in
set_option maxHeartbeats 4000000 in
theorem atom_rd {w : World} {rb : Nat} {s : ByteArray} {p : PS} {rec : PS → Option (T × Nat × PS)} (hrec : BrOK s rb rec) (h : Rd w rb s p.at_ p.g p.z) (ha : Asc s) (hs : s.size ≤ 2000) (hz : p.z ≤ 2048) (hg : p.g ≤ 31) (hi : p.at_ < s.size)
    {a : Atm} {sz : Nat} {q : PS} (hp : pAtom rec s p = some (a, sz, q)) :
    Calls Tryd.prog 28 #[.pointer (some ⟨rb, 0, none⟩)] w fun e w' => ∃ v, e = .returned (.tuple #[aV a.what a.r a.gn v, .int .i64 sz]) ∧ AtmV w' (fun b => w.heap.size ≤ b) a v ∧ Rd w' rb s q.at_ q.g q.z ∧ w.grownBy w' (some rb) := by
  have hlt := Blk.lt h
  obtain ⟨c0, c1, c2, c3⟩ := h.cells
  have hzz : ¬ 2048 < p.z + 1 := fun hc => by simp [pAtom, hc] at hp
  have hb2 := byt_lt ha hi
  have wA : IntKind.i64.wrap ((p.at_ : Int) + 1) = (p.at_ : Int) + 1 := by rw [IntKind.wrap_i64]; omega
  go_enter Tryd.func28, Tryd.ntmps28
  go_wp2_with fail
  refine (now_rd ((h.alloc _).alloc _) ha hs hi).mono ?_
  rintro e w1 ⟨rfl, hbw⟩
  have HR1 : Rd w1 rb s p.at_ p.g p.z := Blk.keep ((h.alloc _).alloc _) (hbw.block rb (by simp only [World.size_alloc]; omega))
  have B0 := Lib.hid (Blk.keep (Blk.alloc (Blk.new w 74 zA) _) (hbw.block w.heap.size (by simp only [World.size_alloc]; omega)))
  have B1 := Lib.hid (Blk.keep (Blk.newAt (b := w.heap.size + 1) (by simp only [World.size_alloc]) 74 zA) (hbw.block (w.heap.size + 1) (by simp only [World.size_alloc]; omega)))
  have T1 : Turn (fun b => b = rb ∨ w.heap.size ≤ b) w w1 := Turn.below (by repeat (first | (with_reducible exact Turn.refl _ _) | (with_reducible refine Turn.set ?_ (by first | exact Or.inl rfl | exact Or.inr (Or.inl rfl) | exact Or.inr (Or.inr rfl) | exact Or.inr (by (try dsimp only [] at *); (try simp only [size_set, World.size_alloc, World.size_drew] at *); omega)) _) | (with_reducible refine Turn.alloc ?_ _) | (with_reducible refine Turn.drewN ?_ _) | (with_reducible refine Turn.drew ?_))) hbw (fun b hb _ => by simp only [World.size_alloc]; omega)
  have hs1 : w.heap.size + 2 ≤ w1.heap.size := by have := hbw.size; simpa using this
  clear hbw
  have hr1 := Blk.lt HR1
  have l0 : w.heap.size < w1.heap.size := by omega
  have l1 : w.heap.size + 1 < w1.heap.size := by omega
  have n1 : ¬ rb = w.heap.size + 1 := by omega
  have n2 : ¬ w.heap.size + 1 = rb := by omega
  have n3 : ¬ rb = w.heap.size := by omega
  have n4 : ¬ w.heap.size = rb := by omega
  obtain ⟨d0, d1, d2, d3⟩ := HR1.cells
  have df := Blk.frozen HR1 1
  unfold pAtom at hp
  rw [if_neg hzz] at hp
  by_cases h40 : byt s p.at_ = 40
  · rw [if_pos h40] at hp
    by_cases h31 : p.g = 31
    · rw [if_pos h31] at hp; cases hp
    rw [if_neg h31] at hp
    split at hp
    · rename_i bs szz qq hrq
      split at hp
      · rename_i hq41
        cases hp
        have b40 : ((byt s p.at_ : Int) == 40) = true := by rw [h40]; rfl
        go_wp2_with (first
          | (go_at_call 19; refine (is_rdI (s := s) (at_ := p.at_) (g := p.g) (z := p.z) (rb := rb) (by repeat (first | (with_reducible exact HR1) | (with_reducible refine Blk.set_other ?_ (by (try dsimp only [] at *); (try simp only [size_set, World.size_alloc, World.size_drew] at *); omega) _) | (with_reducible refine Blk.alloc ?_ _) | (with_reducible refine Rd.drewN ?_ _) | (with_reducible refine Blk.drew ?_))) hs _ (by omega) (by omega)).mono ?_; rintro e wx ⟨rfl, rfl⟩))
        refine (group_rd hrec (rb := rb) (s := s) (p := p) (by repeat (first | (with_reducible exact HR1) | (with_reducible refine Blk.set_other ?_ (by (try dsimp only [] at *); (try simp only [size_set, World.size_alloc, World.size_drew] at *); omega) _) | (with_reducible refine Blk.alloc ?_ _) | (with_reducible refine Rd.drewN ?_ _) | (with_reducible refine Blk.drew ?_))) hs (by omega) hg h31 h40 hrq hq41).mono ?_
        rintro e w2 ⟨v, rfl, HV, HR2, hg2, hqa, hqz, hqg, hqs⟩
        have X0' : Blk w2 w.heap.size 74 zA := Blk.grown (by repeat (first | (with_reducible exact B0.out) | (with_reducible refine Blk.set_other ?_ (by (try dsimp only [] at *); (try simp only [size_set, World.size_alloc, World.size_drew] at *); omega) _) | (with_reducible refine Blk.alloc ?_ _) | (with_reducible refine Rd.drewN ?_ _) | (with_reducible refine Blk.drew ?_))) hg2 (by simp; omega)
        have X0 := Lib.hid X0'
        have HV2 := Lib.hid HV
        have T2' : Turn (fun b => b = rb ∨ w.heap.size ≤ b) w w2 := Turn.grown (by repeat (first | (with_reducible exact T1) | (with_reducible refine Turn.set ?_ (by first | exact Or.inl rfl | exact Or.inr (Or.inl rfl) | exact Or.inr (Or.inr rfl) | exact Or.inr (by (try dsimp only [] at *); (try simp only [size_set, World.size_alloc, World.size_drew] at *); omega)) _) | (with_reducible refine Turn.alloc ?_ _) | (with_reducible refine Turn.drewN ?_ _) | (with_reducible refine Turn.drew ?_))) hg2 (Or.inl rfl)
        have T2 := Lib.hid T2'
        obtain ⟨va, vn, vc, rfl⟩ := HV.form
        unfold aV
        have x0 := X0.out.cell (j := 0) rfl
        have x1 := X0.out.cell (j := 1) rfl
        have x2 := X0.out.cell (j := 2) rfl
        have x3 := X0.out.cell (j := 3) rfl
        have x4 := X0.out.cell (j := 4) rfl
        have x5 := X0.out.cell (j := 5) rfl
        have x6 := X0.out.cell (j := 6) rfl
        have x7 := X0.out.cell (j := 7) rfl
        have x8 := X0.out.cell (j := 8) rfl
        have u0 := X0.out.frozen 0
        have u1 := X0.out.frozen 1
        have u2 := X0.out.frozen 2
        have u3 := X0.out.frozen 3
        have u4 := X0.out.frozen 4
        have u5 := X0.out.frozen 5
        have u6 := X0.out.frozen 6
        have u7 := X0.out.frozen 7
        have u8 := X0.out.frozen 8
        go_wp2_with fail
        refine bodyPost_ret_by (v := .tuple #[aV 6 0 (p.g + 1) (.slice va vn vc), .int .i64 ((szz + 1 : Nat) : Int)]) ?_ rfl ⟨_, rfl, ?_, ?_, ?_⟩
        · simp only [results, aV, show Tryd.f28.results = #[.cell 2 74, .tmp 3] from rfl] <;> go_simp
        · refine RepV.turn HV2.out (S := fun b => b = rb ∨ b ≤ w.heap.size + 1) (by repeat (first | (with_reducible exact Turn.refl _ _) | (with_reducible refine Turn.set ?_ (by first | exact Or.inl rfl | exact Or.inr (Or.inl rfl) | exact Or.inr (Or.inr rfl) | exact Or.inr (by (try dsimp only [] at *); (try simp only [size_set, World.size_alloc, World.size_drew] at *); omega)) _) | (with_reducible refine Turn.alloc ?_ _) | (with_reducible refine Turn.drewN ?_ _) | (with_reducible refine Turn.drew ?_))) fun b _ hb => ?_
          simp only [World.size_alloc, World.size_drew] at hb
          omega
        · exact (by repeat (first | (with_reducible exact HR2) | (with_reducible refine Blk.set_other ?_ (by (try dsimp only [] at *); (try simp only [size_set, World.size_alloc, World.size_drew] at *); omega) _) | (with_reducible refine Blk.alloc ?_ _) | (with_reducible refine Rd.drewN ?_ _) | (with_reducible refine Blk.drew ?_)))
        · exact Turn.toGrown (S := fun b => b = rb ∨ w.heap.size ≤ b) (by repeat (first | (with_reducible exact T2.out) | (with_reducible refine Turn.set ?_ (by first | exact Or.inl rfl | exact Or.inr (Or.inl rfl) | exact Or.inr (Or.inr rfl) | exact Or.inr (by (try dsimp only [] at *); (try simp only [size_set, World.size_alloc, World.size_drew] at *); omega)) _) | (with_reducible refine Turn.alloc ?_ _) | (with_reducible refine Turn.drewN ?_ _) | (with_reducible refine Turn.drew ?_))) fun b hb h => by omega
      · cases hp
    · cases hp
  · rw [if_neg h40] at hp
    by_cases h92 : byt s p.at_ = 92
    · rw [if_pos h92] at hp
      split at hp
      · rename_i vv hv
        cases hp
        have b40 : ((byt s p.at_ : Int) == 40) = false := by rw [h92]; rfl
        have b91 : ((byt s p.at_ : Int) == 91) = false := by rw [h92]; rfl
        have b92 : ((byt s p.at_ : Int) == 92) = true := by rw [h92]; rfl
        go_wp2_with (first
          | (go_at_call 19; refine (is_rdI (s := s) (at_ := p.at_) (g := p.g) (z := p.z) (rb := rb) (by repeat (first | (with_reducible exact HR1) | (with_reducible refine Blk.set_other ?_ (by (try dsimp only [] at *); (try simp only [size_set, World.size_alloc, World.size_drew] at *); omega) _) | (with_reducible refine Blk.alloc ?_ _) | (with_reducible refine Rd.drewN ?_ _) | (with_reducible refine Blk.drew ?_))) hs _ (by omega) (by omega)).mono ?_; rintro e wx ⟨rfl, rfl⟩))
        refine (escape_rd (rb := rb) (s := s) (at_ := p.at_) (g := p.g) (z := p.z) (by repeat (first | (with_reducible exact HR1) | (with_reducible refine Blk.set_other ?_ (by (try dsimp only [] at *); (try simp only [size_set, World.size_alloc, World.size_drew] at *); omega) _) | (with_reducible refine Blk.alloc ?_ _) | (with_reducible refine Rd.drewN ?_ _) | (with_reducible refine Blk.drew ?_))) ha hs hv).mono ?_
        rintro e w2 ⟨rfl, HR2, hg2⟩
        have X0' : Blk w2 w.heap.size 74 zA := Blk.grown (by repeat (first | (with_reducible exact B0.out) | (with_reducible refine Blk.set_other ?_ (by (try dsimp only [] at *); (try simp only [size_set, World.size_alloc, World.size_drew] at *); omega) _) | (with_reducible refine Blk.alloc ?_ _) | (with_reducible refine Rd.drewN ?_ _) | (with_reducible refine Blk.drew ?_))) hg2 (by simp; omega)
        have X0 := Lib.hid X0'
        have X1' : Blk w2 (w.heap.size + 1) 74 zA := Blk.grown (by repeat (first | (with_reducible exact B1.out) | (with_reducible refine Blk.set_other ?_ (by (try dsimp only [] at *); (try simp only [size_set, World.size_alloc, World.size_drew] at *); omega) _) | (with_reducible refine Blk.alloc ?_ _) | (with_reducible refine Rd.drewN ?_ _) | (with_reducible refine Blk.drew ?_))) hg2 (by simp; omega)
        have X1 := Lib.hid X1'
        have T2' : Turn (fun b => b = rb ∨ w.heap.size ≤ b) w w2 := Turn.grown (by repeat (first | (with_reducible exact T1) | (with_reducible refine Turn.set ?_ (by first | exact Or.inl rfl | exact Or.inr (Or.inl rfl) | exact Or.inr (Or.inr rfl) | exact Or.inr (by (try dsimp only [] at *); (try simp only [size_set, World.size_alloc, World.size_drew] at *); omega)) _) | (with_reducible refine Turn.alloc ?_ _) | (with_reducible refine Turn.drewN ?_ _) | (with_reducible refine Turn.drew ?_))) hg2 (Or.inl rfl)
        have T2 := Lib.hid T2'
        have HR3 := Lib.hid HR2
        have wB : IntKind.i64.wrap ((p.at_ : Int) + 9) = (p.at_ : Int) + 9 := by have := (escOk hv).size; rw [IntKind.wrap_i64]; omega
        clear X0' X1' T2' hg2
        unfold aV
        have x0 := X0.out.cell (j := 0) rfl
        have x1 := X0.out.cell (j := 1) rfl
        have x2 := X0.out.cell (j := 2) rfl
        have x3 := X0.out.cell (j := 3) rfl
        have x4 := X0.out.cell (j := 4) rfl
        have x5 := X0.out.cell (j := 5) rfl
        have x6 := X0.out.cell (j := 6) rfl
        have x7 := X0.out.cell (j := 7) rfl
        have x8 := X0.out.cell (j := 8) rfl
        have y0 := X1.out.cell (j := 0) rfl
        have y1 := X1.out.cell (j := 1) rfl
        have y2 := X1.out.cell (j := 2) rfl
        have y3 := X1.out.cell (j := 3) rfl
        have y4 := X1.out.cell (j := 4) rfl
        have y5 := X1.out.cell (j := 5) rfl
        have y6 := X1.out.cell (j := 6) rfl
        have y7 := X1.out.cell (j := 7) rfl
        have y8 := X1.out.cell (j := 8) rfl
        have u0 := X0.out.frozen 0
        have u1 := X0.out.frozen 1
        have u2 := X0.out.frozen 2
        have u3 := X0.out.frozen 3
        have u4 := X0.out.frozen 4
        have u5 := X0.out.frozen 5
        have u6 := X0.out.frozen 6
        have u7 := X0.out.frozen 7
        have u8 := X0.out.frozen 8
        have v0 := X1.out.frozen 0
        have v1 := X1.out.frozen 1
        have v2 := X1.out.frozen 2
        have v3 := X1.out.frozen 3
        have v4 := X1.out.frozen 4
        have v5 := X1.out.frozen 5
        have v6 := X1.out.frozen 6
        have v7 := X1.out.frozen 7
        have v8 := X1.out.frozen 8
        obtain ⟨k0, k1, k2, k3⟩ := HR2.cells
        have kf := Blk.frozen HR2 3
        clear HR2
        go_wp2_with (first
          | (go_at_call 30; refine (grown_rd (rb := rb) (s := s) (at_ := p.at_ + 9) (g := p.g) (z := p.z) (by repeat (first | (with_reducible exact HR3.out) | (with_reducible refine Blk.set_other ?_ (by (try dsimp only [] at *); (try simp only [size_set, World.size_alloc, World.size_drew] at *); omega) _) | (with_reducible refine Blk.alloc ?_ _) | (with_reducible refine Rd.drewN ?_ _) | (with_reducible refine Blk.drew ?_))) 1 _ (p.z + 1) (by omega) (by omega) (by omega)).mono ?_; rintro e w3 ⟨rfl, rfl⟩))
        refine bodyPost_ret_by (v := .tuple #[aV 0 vv 0 (.slice none 0 0), .int .i64 1]) ?_ rfl ⟨_, rfl, rfl, ?_, ?_⟩
        · simp only [results, aV, show Tryd.f28.results = #[.cell 2 74, .tmp 3] from rfl] <;> go_simp
        · exact (by repeat (first | (with_reducible exact HR3.out) | (with_reducible refine @Rd.putI _ _ _ ?_ _ _ ?_ _ _ (by omega); rotate_left) | (with_reducible refine @Rd.putZI _ _ _ _ _ ?_ ?_ _ _ (by omega); rotate_left) | (with_reducible refine @Rd.putGI _ _ _ _ ?_ _ ?_ _ _ (by omega); rotate_left) | (with_reducible refine Blk.set_other ?_ (by (try dsimp only [] at *); (try simp only [size_set, World.size_alloc, World.size_drew] at *); omega) _) | (with_reducible refine Blk.alloc ?_ _) | (with_reducible refine Rd.drewN ?_ _) | (with_reducible refine Blk.drew ?_)))
        · exact Turn.toGrown (S := fun b => b = rb ∨ w.heap.size ≤ b) (by repeat (first | (with_reducible exact T2.out) | (with_reducible refine Turn.set ?_ (by first | exact Or.inl rfl | exact Or.inr (Or.inl rfl) | exact Or.inr (Or.inr rfl) | exact Or.inr (by (try dsimp only [] at *); (try simp only [size_set, World.size_alloc, World.size_drew] at *); omega)) _) | (with_reducible refine Turn.alloc ?_ _) | (with_reducible refine Turn.drewN ?_ _) | (with_reducible refine Turn.drew ?_))) fun b hb h => by omega
      · cases hp
    rw [if_neg h92] at hp
    by_cases hbad : byt s p.at_ = 91 ∨ byt s p.at_ = 94 ∨ byt s p.at_ = 36
    · rw [if_pos hbad] at hp; cases hp
    rw [if_neg hbad] at hp
    have b40 : ((byt s p.at_ : Int) == 40) = false := by rw [beq_eq_false_iff_ne]; omega
    have b91 : ((byt s p.at_ : Int) == 91) = false := by rw [beq_eq_false_iff_ne]; omega
    have b92 : ((byt s p.at_ : Int) == 92) = false := by rw [beq_eq_false_iff_ne]; omega
    have b94 : ((byt s p.at_ : Int) == 94) = false := by rw [beq_eq_false_iff_ne]; omega
    have b36 : ((byt s p.at_ : Int) == 36) = false := by rw [beq_eq_false_iff_ne]; omega
    by_cases h46 : byt s p.at_ = 46
    · rw [if_pos h46] at hp
      cases hp
      have b46 : ((byt s p.at_ : Int) == 46) = true := by rw [h46]; rfl
      have x0 := B0.out.cell (j := 0) rfl
      have x1 := B0.out.cell (j := 1) rfl
      have x2 := B0.out.cell (j := 2) rfl
      have x3 := B0.out.cell (j := 3) rfl
      have x4 := B0.out.cell (j := 4) rfl
      have x5 := B0.out.cell (j := 5) rfl
      have x6 := B0.out.cell (j := 6) rfl
      have x7 := B0.out.cell (j := 7) rfl
      have x8 := B0.out.cell (j := 8) rfl
      have y0 := B1.out.cell (j := 0) rfl
      have y1 := B1.out.cell (j := 1) rfl
      have y2 := B1.out.cell (j := 2) rfl
      have y3 := B1.out.cell (j := 3) rfl
      have y4 := B1.out.cell (j := 4) rfl
      have y5 := B1.out.cell (j := 5) rfl
      have y6 := B1.out.cell (j := 6) rfl
      have y7 := B1.out.cell (j := 7) rfl
      have y8 := B1.out.cell (j := 8) rfl
      have u0 := B0.out.frozen 0
      have u1 := B0.out.frozen 1
      have u2 := B0.out.frozen 2
      have u3 := B0.out.frozen 3
      have u4 := B0.out.frozen 4
      have u5 := B0.out.frozen 5
      have u6 := B0.out.frozen 6
      have u7 := B0.out.frozen 7
      have u8 := B0.out.frozen 8
      have v0 := B1.out.frozen 0
      have v1 := B1.out.frozen 1
      have v2 := B1.out.frozen 2
      have v3 := B1.out.frozen 3
      have v4 := B1.out.frozen 4
      have v5 := B1.out.frozen 5
      have v6 := B1.out.frozen 6
      have v7 := B1.out.frozen 7
      have v8 := B1.out.frozen 8
      go_wp2_with (first
        | (go_at_call 19; refine (is_rdI (s := s) (at_ := p.at_) (g := p.g) (z := p.z) (rb := rb) (by repeat (first | (with_reducible exact HR1) | (with_reducible refine Blk.set_other ?_ (by (try dsimp only [] at *); (try simp only [size_set, World.size_alloc, World.size_drew] at *); omega) _) | (with_reducible refine Blk.alloc ?_ _) | (with_reducible refine Rd.drewN ?_ _) | (with_reducible refine Blk.drew ?_))) hs _ (by omega) (by omega)).mono ?_; rintro e wx ⟨rfl, rfl⟩)
        | (go_at_call 30; refine (grown_rd (rb := rb) (s := s) (at_ := p.at_ + 1) (g := p.g) (z := p.z) (by repeat (first | (with_reducible exact HR1) | (with_reducible refine @Rd.putI _ _ _ ?_ _ _ ?_ _ _ (by omega); rotate_left) | (with_reducible refine @Rd.putZI _ _ _ _ _ ?_ ?_ _ _ (by omega); rotate_left) | (with_reducible refine @Rd.putGI _ _ _ _ ?_ _ ?_ _ _ (by omega); rotate_left) | (with_reducible refine Blk.set_other ?_ (by (try dsimp only [] at *); (try simp only [size_set, World.size_alloc, World.size_drew] at *); omega) _) | (with_reducible refine Blk.alloc ?_ _) | (with_reducible refine Rd.drewN ?_ _) | (with_reducible refine Blk.drew ?_))) 1 _ (p.z + 1) (by omega) (by omega) (by omega)).mono ?_; rintro e w3 ⟨rfl, rfl⟩))
      refine bodyPost_ret_by (v := .tuple #[aV 1 0 0 (.slice none 0 0), .int .i64 1]) ?_ rfl ⟨_, rfl, rfl, ?_, ?_⟩
      · simp only [results, aV, show Tryd.f28.results = #[.cell 2 74, .tmp 3] from rfl] <;> go_simp
      · exact (by repeat (first | (with_reducible exact HR1) | (with_reducible refine @Rd.putI _ _ _ ?_ _ _ ?_ _ _ (by omega); rotate_left) | (with_reducible refine @Rd.putZI _ _ _ _ _ ?_ ?_ _ _ (by omega); rotate_left) | (with_reducible refine @Rd.putGI _ _ _ _ ?_ _ ?_ _ _ (by omega); rotate_left) | (with_reducible refine Blk.set_other ?_ (by (try dsimp only [] at *); (try simp only [size_set, World.size_alloc, World.size_drew] at *); omega) _) | (with_reducible refine Blk.alloc ?_ _) | (with_reducible refine Rd.drewN ?_ _) | (with_reducible refine Blk.drew ?_)))
      · exact Turn.toGrown (S := fun b => b = rb ∨ w.heap.size ≤ b) (by repeat (first | (with_reducible exact T1) | (with_reducible refine Turn.set ?_ (by first | exact Or.inl rfl | exact Or.inr (Or.inl rfl) | exact Or.inr (Or.inr rfl) | exact Or.inr (by (try dsimp only [] at *); (try simp only [size_set, World.size_alloc, World.size_drew] at *); omega)) _) | (with_reducible refine Turn.alloc ?_ _) | (with_reducible refine Turn.drewN ?_ _) | (with_reducible refine Turn.drew ?_))) fun b hb h => by omega
    · rw [if_neg h46] at hp
      by_cases hsg : isSign (byt s p.at_) = true
      · rw [if_pos hsg] at hp; cases hp
      rw [if_neg hsg] at hp
      cases hp
      have b46 : ((byt s p.at_ : Int) == 46) = false := by rw [beq_eq_false_iff_ne]; omega
      have bsg : isSign (byt s p.at_) = false := by simpa using hsg
      have b45 : ¬ (byt s p.at_ : Int) = 45 := by
        intro hc
        have : byt s p.at_ = 45 := by omega
        rw [this] at bsg; revert bsg; decide
      have x0 := B0.out.cell (j := 0) rfl
      have x1 := B0.out.cell (j := 1) rfl
      have x2 := B0.out.cell (j := 2) rfl
      have x3 := B0.out.cell (j := 3) rfl
      have x4 := B0.out.cell (j := 4) rfl
      have x5 := B0.out.cell (j := 5) rfl
      have x6 := B0.out.cell (j := 6) rfl
      have x7 := B0.out.cell (j := 7) rfl
      have x8 := B0.out.cell (j := 8) rfl
      have y0 := B1.out.cell (j := 0) rfl
      have y1 := B1.out.cell (j := 1) rfl
      have y2 := B1.out.cell (j := 2) rfl
      have y3 := B1.out.cell (j := 3) rfl
      have y4 := B1.out.cell (j := 4) rfl
      have y5 := B1.out.cell (j := 5) rfl
      have y6 := B1.out.cell (j := 6) rfl
      have y7 := B1.out.cell (j := 7) rfl
      have y8 := B1.out.cell (j := 8) rfl
      have u0 := B0.out.frozen 0
      have u1 := B0.out.frozen 1
      have u2 := B0.out.frozen 2
      have u3 := B0.out.frozen 3
      have u4 := B0.out.frozen 4
      have u5 := B0.out.frozen 5
      have u6 := B0.out.frozen 6
      have u7 := B0.out.frozen 7
      have u8 := B0.out.frozen 8
      have v0 := B1.out.frozen 0
      have v1 := B1.out.frozen 1
      have v2 := B1.out.frozen 2
      have v3 := B1.out.frozen 3
      have v4 := B1.out.frozen 4
      have v5 := B1.out.frozen 5
      have v6 := B1.out.frozen 6
      have v7 := B1.out.frozen 7
      have v8 := B1.out.frozen 8
      go_wp2_with (first
        | (go_at_call 19; refine (is_rdI (s := s) (at_ := p.at_) (g := p.g) (z := p.z) (rb := rb) (by repeat (first | (with_reducible exact HR1) | (with_reducible refine Blk.set_other ?_ (by (try dsimp only [] at *); (try simp only [size_set, World.size_alloc, World.size_drew] at *); omega) _) | (with_reducible refine Blk.alloc ?_ _) | (with_reducible refine Rd.drewN ?_ _) | (with_reducible refine Blk.drew ?_))) hs _ (by omega) (by omega)).mono ?_; rintro e wx ⟨rfl, rfl⟩)
        | (go_at_call 45; refine (sign_met _ hb2 _).mono ?_; rintro e w3 ⟨rfl, rfl⟩; rw [bsg]))
      refine (skip_rd (rb := rb) (s := s) (at_ := p.at_) (g := p.g) (z := p.z) (by repeat (first | (with_reducible exact HR1) | (with_reducible refine Blk.set_other ?_ (by (try dsimp only [] at *); (try simp only [size_set, World.size_alloc, World.size_drew] at *); omega) _) | (with_reducible refine Blk.alloc ?_ _) | (with_reducible refine Rd.drewN ?_ _) | (with_reducible refine Blk.drew ?_))) ha hs hi).mono ?_
      rintro e w2 ⟨rfl, HR2, hg2⟩
      have X0' : Blk w2 w.heap.size 74 zA := Blk.grown (by repeat (first | (with_reducible exact B0.out) | (with_reducible refine Blk.set_other ?_ (by (try dsimp only [] at *); (try simp only [size_set, World.size_alloc, World.size_drew] at *); omega) _) | (with_reducible refine Blk.alloc ?_ _) | (with_reducible refine Rd.drewN ?_ _) | (with_reducible refine Blk.drew ?_))) hg2 (by simp; omega)
      have X0 := Lib.hid X0'
      have Y : Blk _ (w.heap.size + 1) 74 (aC 0 (byt s p.at_) 0 (.slice none 0 0)) := ((B1.out.set 1 (.int .i32 (byt s p.at_))).set 2 (.bool false)).set 3 (.int .u8 0)
      have X1' : Blk w2 (w.heap.size + 1) 74 (aC 0 (byt s p.at_) 0 (.slice none 0 0)) := Blk.grown (by repeat (first | (with_reducible exact Y) | (with_reducible refine Blk.set_other ?_ (by (try dsimp only [] at *); (try simp only [size_set, World.size_alloc, World.size_drew] at *); omega) _) | (with_reducible refine Blk.alloc ?_ _) | (with_reducible refine Rd.drewN ?_ _) | (with_reducible refine Blk.drew ?_))) hg2 (by simp; omega)
      have X1 := Lib.hid X1'
      have T2' : Turn (fun b => b = rb ∨ w.heap.size ≤ b) w w2 := Turn.grown (by repeat (first | (with_reducible exact T1) | (with_reducible refine Turn.set ?_ (by first | exact Or.inl rfl | exact Or.inr (Or.inl rfl) | exact Or.inr (Or.inr rfl) | exact Or.inr (by (try dsimp only [] at *); (try simp only [size_set, World.size_alloc, World.size_drew] at *); omega)) _) | (with_reducible refine Turn.alloc ?_ _) | (with_reducible refine Turn.drewN ?_ _) | (with_reducible refine Turn.drew ?_))) hg2 (Or.inl rfl)
      have T2 := Lib.hid T2'
      clear Y X0' X1' T2' hg2 x0 x1 x2 x3 x4 x5 x6 x7 x8 y0 y1 y2 y3 y4 y5 y6 y7 y8 u0 u1 u2 u3 u4 u5 u6 u7 u8 v0 v1 v2 v3 v4 v5 v6 v7 v8
      have x0 := X0.out.cell (j := 0) rfl
      have x1 := X0.out.cell (j := 1) rfl
      have x2 := X0.out.cell (j := 2) rfl
      have x3 := X0.out.cell (j := 3) rfl
      have x4 := X0.out.cell (j := 4) rfl
      have x5 := X0.out.cell (j := 5) rfl
      have x6 := X0.out.cell (j := 6) rfl
      have x7 := X0.out.cell (j := 7) rfl
      have x8 := X0.out.cell (j := 8) rfl
      have y0 := X1.out.cell (j := 0) rfl
      have y1 := X1.out.cell (j := 1) rfl
      have y2 := X1.out.cell (j := 2) rfl
      have y3 := X1.out.cell (j := 3) rfl
      have y4 := X1.out.cell (j := 4) rfl
      have y5 := X1.out.cell (j := 5) rfl
      have y6 := X1.out.cell (j := 6) rfl
      have y7 := X1.out.cell (j := 7) rfl
      have y8 := X1.out.cell (j := 8) rfl
      have u0 := X0.out.frozen 0
      have u1 := X0.out.frozen 1
      have u2 := X0.out.frozen 2
      have u3 := X0.out.frozen 3
      have u4 := X0.out.frozen 4
      have u5 := X0.out.frozen 5
      have u6 := X0.out.frozen 6
      have u7 := X0.out.frozen 7
      have u8 := X0.out.frozen 8
      have v0 := X1.out.frozen 0
      have v1 := X1.out.frozen 1
      have v2 := X1.out.frozen 2
      have v3 := X1.out.frozen 3
      have v4 := X1.out.frozen 4
      have v5 := X1.out.frozen 5
      have v6 := X1.out.frozen 6
      have v7 := X1.out.frozen 7
      have v8 := X1.out.frozen 8
      obtain ⟨k0, k1, k2, k3⟩ := HR2.cells
      have kf := Blk.frozen HR2 3
      go_wp2_with (first
        | (go_at_call 30; refine (grown_rd (rb := rb) (s := s) (at_ := p.at_ + 1) (g := p.g) (z := p.z) HR2 1 _ (p.z + 1) (by omega) (by omega) (by omega)).mono ?_; rintro e w3 ⟨rfl, rfl⟩))
      refine bodyPost_ret_by (v := .tuple #[aV 0 (byt s p.at_) 0 (.slice none 0 0), .int .i64 1]) ?_ rfl ⟨_, rfl, rfl, ?_, ?_⟩
      · simp only [results, aV, show Tryd.f28.results = #[.cell 2 74, .tmp 3] from rfl] <;> go_simp
      · exact (by repeat (first | (with_reducible exact HR2) | (with_reducible refine @Rd.putI _ _ _ ?_ _ _ ?_ _ _ (by omega); rotate_left) | (with_reducible refine @Rd.putZI _ _ _ _ _ ?_ ?_ _ _ (by omega); rotate_left) | (with_reducible refine @Rd.putGI _ _ _ _ ?_ _ ?_ _ _ (by omega); rotate_left) | (with_reducible refine Blk.set_other ?_ (by (try dsimp only [] at *); (try simp only [size_set, World.size_alloc, World.size_drew] at *); omega) _) | (with_reducible refine Blk.alloc ?_ _) | (with_reducible refine Rd.drewN ?_ _) | (with_reducible refine Blk.drew ?_)))
      · exact Turn.toGrown (S := fun b => b = rb ∨ w.heap.size ≤ b) (by repeat (first | (with_reducible exact T2.out) | (with_reducible refine Turn.set ?_ (by first | exact Or.inl rfl | exact Or.inr (Or.inl rfl) | exact Or.inr (Or.inr rfl) | exact Or.inr (by (try dsimp only [] at *); (try simp only [size_set, World.size_alloc, World.size_drew] at *); omega)) _) | (with_reducible refine Turn.alloc ?_ _) | (with_reducible refine Turn.drewN ?_ _) | (with_reducible refine Turn.drew ?_))) fun b hb h => by omega

end Go.Proofs.YtlanodchnjojoaaDoor
