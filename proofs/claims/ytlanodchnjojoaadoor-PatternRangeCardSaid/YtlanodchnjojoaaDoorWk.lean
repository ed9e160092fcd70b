/- The function wakes: the pattern "a" is read. -/
import Derived.Test.YtlanodchnjojoaaDoorCm
namespace Go.Proofs.YtlanodchnjojoaaDoor
open Go.RowKit

def TA : T := .cons (.lst (.cons (.pl 0 97 1 1 1) .nil)) .nil
theorem parseA : pB ⟨#[97]⟩ 1 ⟨0, 0, 0⟩ = some (TA, 1, ⟨1, 0, 1⟩) := by kernel_rfl
def CA : List Step := [⟨0, 0, 97, 0, 0, 0, [], 0⟩, ⟨8, 0, 0, 0, 0, 0, [], 1⟩]
theorem codeA : theCode TA = CA := by kernel_rfl
theorem asc_of (s : ByteArray) (h : (s.data.toList.all fun x => decide (x.toNat < 128)) = true) : Asc s := fun i hi => by
  have := List.all_eq_true.1 h (s[i]'hi) (by
    have e : s[i]'hi = s.data[i]'hi := rfl
    rw [e, ← Array.getElem_toList hi]
    exact List.getElem_mem _)
  simpa using this
theorem ascA : Asc ⟨#[97]⟩ := asc_of _ (by decide)

theorem compileA (w : World) : Calls Tryd.prog 6 #[.string ⟨#[97]⟩] w fun e w' => (∃ pb cb cap, e = .returned (.tuple #[.pointer (some ⟨pb, 0, none⟩), .agg #[.int .i64 0, .int .i64 0]]) ∧ PatAt w'.heap.size w' pb cb cap CA 0 0 2) ∧ Below w.heap.size w w' := by
  have h := compile_met ascA (by decide) parseA rfl (by decide) (by decide) (Nat.le_of_ble_eq_true (by kernel_rfl)) (Nat.le_of_ble_eq_true (by kernel_rfl)) w
  rw [codeA, show (lay TA).loops = 0 by kernel_rfl, show total (lay TA).code = 2 by kernel_rfl] at h
  exact h

set_option maxRecDepth 100000 in
theorem wakes_met (w : World) : Calls Tryd.prog 5 #[] w fun e w' => e = .returned (.bool true) ∧ Below w.heap.size w w' := by
  go_enter Tryd.func5, Tryd.ntmps5
  go_wp2_with (go_at_call 6; refine (compileA _).mono ?_; rintro e w1 ⟨⟨pb, cb, cap, rfl, hp⟩, hb⟩; have HB := Lib.hid hb; have HP := Lib.hid hp; clear hb hp)
  go_ret
  exact ⟨rfl, HB.out.alloc HB.out.size _⟩

end Go.Proofs.YtlanodchnjojoaaDoor
