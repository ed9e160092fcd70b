/- The early returns of a pattern's methods, for a nil pattern and for texts that are too long. -/
import Derived.Test.YtlanodchnjojoaaGreatDoorMem
namespace Go.Proofs.YtlanodchnjojoaaGreatDoor
open Go.RowKit

def noM : Value := .agg #[.int .i64 0, .int .i64 0, .slice none 0 0]

set_option maxRecDepth 100000 in
theorem find_nil (s : ByteArray) (n : Int) (w : World) : Calls Tryz.prog 5 #[.pointer none, .string s, .int .i64 n] w fun e w' => e = .returned (.tuple #[noM, .int .i64 1]) ∧ Below w.heap.size w w' := by
  go_enter Tryz.func5, Tryz.ntmps5
  go_wp2
  refine bodyPost_ret_by (v := .tuple #[noM, .int .i64 1]) ?_ rfl ⟨rfl, ?_⟩
  · simp only [results, noM, show Tryz.f5.results = #[.cell 6 28, .tmp 7] from rfl] <;> go_simp
  · repeat (first | exact Below.refl _ _ | refine Below.alloc ?_ (by simp <;> omega) _ | refine Below.drew ?_)
set_option maxRecDepth 100000 in
theorem find_long (p : Value) (b : Nat) (hp : p = .pointer (some ⟨b, 0, none⟩)) (s : ByteArray) (hs : (65536 : Int) < (s.size : Int)) (n : Int) (w : World) : Calls Tryz.prog 5 #[p, .string s, .int .i64 n] w fun e w' => e = .returned (.tuple #[noM, .int .i64 3]) ∧ Below w.heap.size w w' := by
  subst hp
  go_enter Tryz.func5, Tryz.ntmps5
  go_wp2
  refine bodyPost_ret_by (v := .tuple #[noM, .int .i64 3]) ?_ rfl ⟨rfl, ?_⟩
  · simp only [results, noM, show Tryz.f5.results = #[.cell 6 28, .tmp 7] from rfl] <;> go_simp
  · repeat (first | exact Below.refl _ _ | refine Below.alloc ?_ (by simp <;> omega) _ | refine Below.drew ?_)
set_option maxRecDepth 100000 in
theorem whole_nil (s : ByteArray) (w : World) : Calls Tryz.prog 6 #[.pointer none, .string s] w fun e w' => e = .returned (.tuple #[noM, .int .i64 1]) ∧ Below w.heap.size w w' := by
  go_enter Tryz.func6, Tryz.ntmps6
  go_wp2
  refine bodyPost_ret_by (v := .tuple #[noM, .int .i64 1]) ?_ rfl ⟨rfl, ?_⟩
  · simp only [results, noM, show Tryz.f6.results = #[.cell 4 28, .tmp 5] from rfl] <;> go_simp
  · repeat (first | exact Below.refl _ _ | refine Below.alloc ?_ (by simp <;> omega) _ | refine Below.drew ?_)
set_option maxRecDepth 100000 in
theorem whole_long (p : Value) (b : Nat) (hp : p = .pointer (some ⟨b, 0, none⟩)) (s : ByteArray) (hs : (65536 : Int) < (s.size : Int)) (w : World) : Calls Tryz.prog 6 #[p, .string s] w fun e w' => e = .returned (.tuple #[noM, .int .i64 3]) ∧ Below w.heap.size w w' := by
  subst hp
  go_enter Tryz.func6, Tryz.ntmps6
  go_wp2
  refine bodyPost_ret_by (v := .tuple #[noM, .int .i64 3]) ?_ rfl ⟨rfl, ?_⟩
  · simp only [results, noM, show Tryz.f6.results = #[.cell 4 28, .tmp 5] from rfl] <;> go_simp
  · repeat (first | exact Below.refl _ _ | refine Below.alloc ?_ (by simp <;> omega) _ | refine Below.drew ?_)
set_option maxRecDepth 100000 in
theorem replace_nil (s t : ByteArray) (w : World) : Calls Tryz.prog 7 #[.pointer none, .string s, .string t] w fun e w' => e = .returned (.tuple #[.string ⟨#[]⟩, .int .i64 1]) ∧ Below w.heap.size w w' := by
  go_enter Tryz.func7, Tryz.ntmps7
  go_wp2
  refine bodyPost_ret_by (v := .tuple #[.string ⟨#[]⟩, .int .i64 1]) ?_ rfl ⟨rfl, ?_⟩
  · simp only [results, show Tryz.f7.results = #[.cell 6 9, .cell 7 29] from rfl] <;> go_simp
  · repeat (first | exact Below.refl _ _ | refine Below.alloc ?_ (by simp <;> omega) _ | refine Below.drew ?_)
set_option maxRecDepth 100000 in
theorem replace_long (p : Value) (b : Nat) (hp : p = .pointer (some ⟨b, 0, none⟩)) (s t : ByteArray) (hs : (65536 : Int) < (s.size : Int)) (w : World) : Calls Tryz.prog 7 #[p, .string s, .string t] w fun e w' => e = .returned (.tuple #[.string ⟨#[]⟩, .int .i64 3]) ∧ Below w.heap.size w w' := by
  subst hp
  go_enter Tryz.func7, Tryz.ntmps7
  go_wp2
  refine bodyPost_ret_by (v := .tuple #[.string ⟨#[]⟩, .int .i64 3]) ?_ rfl ⟨rfl, ?_⟩
  · simp only [results, show Tryz.f7.results = #[.cell 6 9, .cell 7 29] from rfl] <;> go_simp
  · repeat (first | exact Below.refl _ _ | refine Below.alloc ?_ (by simp <;> omega) _ | refine Below.drew ?_)
set_option maxRecDepth 100000 in
theorem replace_with (p : Value) (b : Nat) (hp : p = .pointer (some ⟨b, 0, none⟩)) (s t : ByteArray) (hs : ¬ (65536 : Int) < (s.size : Int)) (ht : (65536 : Int) < (t.size : Int)) (w : World) : Calls Tryz.prog 7 #[p, .string s, .string t] w fun e w' => e = .returned (.tuple #[.string ⟨#[]⟩, .int .i64 3]) ∧ Below w.heap.size w w' := by
  subst hp
  go_enter Tryz.func7, Tryz.ntmps7
  go_wp2
  refine bodyPost_ret_by (v := .tuple #[.string ⟨#[]⟩, .int .i64 3]) ?_ rfl ⟨rfl, ?_⟩
  · simp only [results, show Tryz.f7.results = #[.cell 6 9, .cell 7 29] from rfl] <;> go_simp
  · repeat (first | exact Below.refl _ _ | refine Below.alloc ?_ (by simp <;> omega) _ | refine Below.drew ?_)

theorem text_nil (w : World) : Calls Tryz.prog 11 #[.pointer none] w fun e w' => e = .returned (.string ⟨#[]⟩) ∧ w = w' := by
  go_enter Tryz.func11, Tryz.ntmps11
  go_wp2
  go_ret
  exact ⟨rfl, rfl⟩
theorem size_nil (w : World) : Calls Tryz.prog 12 #[.pointer none] w fun e w' => e = .returned (.int .i64 0) ∧ w = w' := by
  go_enter Tryz.func12, Tryz.ntmps12
  go_wp2
  go_ret
  exact ⟨rfl, rfl⟩
theorem groups_nil (w : World) : Calls Tryz.prog 13 #[.pointer none] w fun e w' => e = .returned (.int .i64 0) ∧ w = w' := by
  go_enter Tryz.func13, Tryz.ntmps13
  go_wp2
  go_ret
  exact ⟨rfl, rfl⟩
theorem nothing_met (w : World) : Calls Tryz.prog 10 #[noM] w fun e w' => e = .returned (.bool true) ∧ Below w.heap.size w w' := by
  unfold noM
  go_enter Tryz.func10, Tryz.ntmps10
  go_wp2
  go_ret
  exact ⟨rfl, (Below.refl _ _).alloc (Nat.le_refl _) _⟩

end Go.Proofs.YtlanodchnjojoaaGreatDoor
