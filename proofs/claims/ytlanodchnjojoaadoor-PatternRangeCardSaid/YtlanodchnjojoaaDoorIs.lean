/- The contract of the method is of a matcher: is a piece what an atom takes? -/
import Derived.Test.YtlanodchnjojoaaDoorGrp
namespace Go.Proofs.YtlanodchnjojoaaDoor
open Go.RowKit

def atomCells (what : Nat) (r : Int) : List Value := [.int .i64 what, .int .i32 r, .bool false, .int .u8 0, .bool false, .slice none 0 0, .bool false, .int .i64 0, .slice none 0 0]

theorem ret_bool {a b : Bool} (h : a = b) : Ending.returned (.bool a) = .returned (.bool b) := by rw [h]

set_option maxRecDepth 100000 in
set_option maxHeartbeats 800000 in
theorem is_piece_right (w : World) (mb : Nat) (r : Int) (at_ width : Nat) (rune : Int) :
    Calls Tryd.prog 37 #[.pointer (some ⟨mb, 0, none⟩), .agg (atomCells 0 r).toArray, .agg (pcCells ⟨at_, width, rune, false⟩).toArray] w fun e w' => e = .returned (.bool (rune == r)) ∧ Below w.heap.size w w' := by
  unfold atomCells pcCells
  go_enter Tryd.func37, Tryd.ntmps37
  go_wp2
  all_goals go_ret
  · exact ⟨ret_bool (by simp [*]), (((Below.refl _ _).alloc (Nat.le_refl _) _).alloc (by simp) _).alloc (by simp; omega) _⟩
  · exact ⟨ret_bool (by simp; exact fun h => by simp_all), (((Below.refl _ _).alloc (Nat.le_refl _) _).alloc (by simp) _).alloc (by simp; omega) _⟩

set_option maxRecDepth 100000 in
set_option maxHeartbeats 800000 in
theorem is_piece_broken (w : World) (mb : Nat) (s : ByteArray) (r : Int) (at_ width : Nat) (rune : Int) (hm : w.cell? ⟨mb, 1, none⟩ = some (.string s)) (hmb : mb < w.heap.size) (hat : at_ < s.size) (hs : s.size ≤ 65536) :
    Calls Tryd.prog 37 #[.pointer (some ⟨mb, 0, none⟩), .agg (atomCells 0 r).toArray, .agg (pcCells ⟨at_, width, rune, true⟩).toArray] w fun e w' => e = .returned (.bool false) ∧ Below w.heap.size w w' := by
  unfold atomCells pcCells
  have hm3 : ∀ o1 o2 o3, (((w.alloc o1).alloc o2).alloc o3).cell? ⟨mb, 1, none⟩ = some (.string s) := fun o1 o2 o3 => by
    rw [World.cell?_alloc_past _ _ _ (by simp; omega), World.cell?_alloc_past _ _ _ (by simp; omega), World.cell?_alloc_past _ _ _ hmb]; exact hm
  have h0 : (0 : Int) ≤ (at_ : Int) := Int.natCast_nonneg _
  have h1 : (at_ : Int) < (s.size : Int) := by omega
  go_enter Tryd.func37, Tryd.ntmps37
  go_wp2
  go_region
  go_wp2
  go_ret
  refine ⟨rfl, ?_⟩
  repeat (first | exact Below.refl _ _ | refine Below.drew ?_ | refine Below.alloc ?_ (by simp <;> omega) _)

set_option maxRecDepth 100000 in
set_option maxHeartbeats 800000 in
theorem is_any (w : World) (mb : Nat) (r : Int) (at_ width : Nat) (rune : Nat) (hr : 97 ≤ rune) (hr2 : rune ≤ 98) :
    Calls Tryd.prog 37 #[.pointer (some ⟨mb, 0, none⟩), .agg (atomCells 1 r).toArray, .agg (pcCells ⟨at_, width, rune, false⟩).toArray] w fun e w' => e = .returned (.bool true) ∧ Below w.heap.size w w' := by
  unfold atomCells pcCells
  go_enter Tryd.func37, Tryd.ntmps37
  go_wp2
  go_ret
  refine ⟨rfl, ?_⟩
  repeat (first | exact Below.refl _ _ | refine Below.drew ?_ | refine Below.alloc ?_ (by simp <;> omega) _)

theorem is_all (w : World) (mb : Nat) (s : ByteArray) (st : Step) (p : Pc) (hm : w.cell? ⟨mb, 1, none⟩ = some (.string s)) (hs : s.size ≤ 65536) (hat : p.at_ < s.size)
    (hw : st.what = 0 ∨ (st.what = 1 ∧ simple p)) :
    Calls Tryd.prog 37 #[.pointer (some ⟨mb, 0, none⟩), .agg (atomCells st.what st.r).toArray, .agg (pcCells p).toArray] w fun e w' => e = .returned (.bool (acc st p)) ∧ Below w.heap.size w w' := by
  obtain ⟨a, wd, ru, br⟩ := p
  rcases hw with hw | ⟨hw, h1, h2, h3⟩
  · rw [hw]
    cases br
    · refine (is_piece_right w mb st.r a wd ru).mono fun e w' h => ⟨?_, h.2⟩
      rw [h.1]; simp [acc, hw]
    · refine (is_piece_broken w mb s st.r a wd ru hm (World.block_lt_of_cell? w _ hm) hat hs).mono fun e w' h => ⟨?_, h.2⟩
      rw [h.1]; simp [acc, hw]
  · rw [hw]
    obtain ⟨n, rfl⟩ := Int.eq_ofNat_of_zero_le (show 0 ≤ ru by simp at h2; omega)
    simp at h1 h2 h3
    subst h1
    refine (is_any w mb st.r a wd n (by omega) (by omega)).mono fun e w' h => ⟨?_, h.2⟩
    rw [h.1]; simp [acc, hw]

end Go.Proofs.YtlanodchnjojoaaDoor
