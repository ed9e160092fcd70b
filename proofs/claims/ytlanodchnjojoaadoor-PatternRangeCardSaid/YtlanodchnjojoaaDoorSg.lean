/- The function sign; the reader's method times. -/
import Derived.Test.YtlanodchnjojoaaDoorPs
import Derived.Lib.Bytealg
import Derived.BigCall
import Derived.BigGuard
import Derived.Deep.Draws
namespace Go.Proofs.YtlanodchnjojoaaDoor
open Go.RowKit

set_option maxRecDepth 100000 in
theorem slIndexByte_met (s : ByteArray) (c : Int) (w : World) :
    Calls Tryd.prog 63 #[.string s, .int .u8 c] w fun e w' => e = .returned (.int .i64 (Lib.indexByte s.data.toList c.toNat.toUInt8)) ∧ w' = w := by
  go_enter Tryd.func63, Tryd.ntmps63
  go_wp2
  rw [run_callFunc_extern (fn := Tryd.f70) (by kernel_rfl) (by kernel_rfl) (by kernel_rfl) (by kernel_rfl) (e := Extern.BytealgIndexByte.indexByte) (by kernel_rfl), Lib.run_indexByteString]
  simp only [Result.andThen]
  rw [Oper.upon_value]
  go_wp2
  go_ret
  exact ⟨rfl, rfl⟩

theorem IndexByte_met (s : ByteArray) (c : Int) (w : World) :
    Calls Tryd.prog 56 #[.string s, .int .u8 c] w fun e w' => e = .returned (.int .i64 (Lib.indexByte s.data.toList c.toNat.toUInt8)) ∧ w' = w := by
  go_enter Tryd.func56, Tryd.ntmps56
  go_wp2_with (go_at_call 63; refine (slIndexByte_met _ _ _).mono ?_; rintro e w' ⟨rfl, rfl⟩)
  go_ret
  exact ⟨rfl, rfl⟩

theorem sign_all : ((List.range 128).all fun c => decide (0 ≤ Lib.indexByte [40, 41, 91, 93, 123, 125, 42, 43, 63, 124, 46, 94, 36, 92, 45] ((c : Int).toNat.toUInt8)) == isSign c) = true := by kernel_rfl
theorem sign_idx (c : Nat) (hc : c < 128) : (decide (0 ≤ Lib.indexByte [40, 41, 91, 93, 123, 125, 42, 43, 63, 124, 46, 94, 36, 92, 45] ((c : Int).toNat.toUInt8))) = isSign c :=
  beq_iff_eq.1 (List.all_eq_true.1 sign_all c (List.mem_range.2 hc))

set_option maxRecDepth 100000 in
theorem sign_met (c : Nat) (hc : c < 128) (w : World) :
    Calls Tryd.prog 45 #[.int .i32 c] w fun e w' => e = .returned (.bool (isSign c)) ∧ w' = w := by
  have hi := sign_idx c hc
  have h1 : (c : Int) < 128 := by omega
  have h2 : IntKind.u8.wrap (c : Int) = (c : Int) := by rw [IntKind.wrap_u8]; omega
  go_enter Tryd.func45, Tryd.ntmps45
  go_wp2_with (go_at_call 56; refine (IndexByte_met _ _ _).mono ?_; rintro e w' ⟨rfl, rfl⟩)
  go_ret
  exact ⟨by rw [← hi]; rfl, rfl⟩

set_option maxRecDepth 100000 in
set_option maxHeartbeats 1000000 in
theorem times_rd {w : World} {rb : Nat} {s : ByteArray} {at_ g z : Nat} (h : Rd w rb s at_ g z) (hs : s.size ≤ 2000) {n at' : Nat} (hn : pTimes s at_ = some (n, at')) (hi : at_ < s.size) :
    Calls Tryd.prog 29 #[.pointer (some ⟨rb, 0, none⟩)] w fun e w' => e = .returned (.tuple #[.int .i64 n, .int .i64 n]) ∧ Rd w' rb s at' g z ∧ w.grownBy w' (some rb) ∧ n ≤ 255 ∧ at' ≤ s.size := by
  unfold pTimes at hn
  split at hn
  · rename_i n1 a1 h1
    split at hn
    · rename_i hb
      cases hn
      go_enter Tryd.func29, Tryd.ntmps29
      go_wp2_with (first
        | (go_at_call 47; refine (number_rd h hs h1 hi).mono ?_; rintro e w1 ⟨rfl, hR, hg, h255, hle⟩)
        | (go_at_call 19; have hlt : a1 < s.size := (by apply Decidable.byContradiction; intro hc; simp only [byt, hc, dif_neg, not_false_iff] at hb; omega); obtain ⟨d0, d1, d2, d3⟩ := hR.cells; have f1 := Blk.frozen hR 1; have hi := is_rd hR hs 125 (by omega) hle; rw [hb] at hi; refine hi.mono ?_; rintro e w2 ⟨rfl, rfl⟩; have w6 : IntKind.i64.wrap ((a1 : Int) + 1) = (a1 : Int) + 1 := (by rw [IntKind.wrap_i64]; omega)))
      refine bodyPost_ret_by (v := .tuple #[.int .i64 n, .int .i64 n]) ?_ rfl ⟨rfl, Rd.put (w := w1.drew) hR (a1 + 1), hg.trans (⟨rfl, rfl, rfl, Nat.le_refl _, fun _ _ _ => rfl⟩ : w1.grownBy w1.drew (some rb)) |>.trans (grown_setCell w1.drew ⟨rb, 1, none⟩ (.int .i64 ((a1 + 1 : Nat) : Int))), h255, by omega⟩
      simp only [results, show Tryd.f29.results = #[.tmp 2, .tmp 3] from rfl] <;> go_simp
    · cases hn
  · cases hn

end Go.Proofs.YtlanodchnjojoaaDoor
