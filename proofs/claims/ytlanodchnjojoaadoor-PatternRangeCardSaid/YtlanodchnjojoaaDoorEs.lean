/- strconv.ParseInt to the base 16 of six digits; the function hex. -/
import Derived.Test.YtlanodchnjojoaaDoorSg
import Derived.Test.YtlanodchnjojoaaDoorAt3
import Derived.Laws.IdiomStrings
import Derived.Test.YtlanodchnjojoaaDoorTn
import Derived.Test.YtlanodchnjojoaaDoorGr
namespace Go.Proofs.YtlanodchnjojoaaDoor
open Go.RowKit

theorem hexD_cases {c : Nat} (h : hexD c = true) : (48 ≤ c ∧ c ≤ 57) ∨ (97 ≤ c ∧ c ≤ 102) := by
  simpa [hexD] using h
theorem hexV_lt {c : Nat} (h : hexD c = true) : hexV c < 16 := by
  unfold hexV; rcases hexD_cases h with h | h <;> split <;> omega
theorem hexN_succ (s : ByteArray) : ∀ n i v, hexN s (n + 1) i v = hexN s n i v * 16 + hexV (byt s (i + n))
  | 0, i, v => rfl
  | n + 1, i, v => by
    show hexN s (n + 1) (i + 1) (v * 16 + hexV (byt s i)) = hexN s n (i + 1) (v * 16 + hexV (byt s i)) * 16 + _
    rw [hexN_succ s n (i + 1)]
    rw [show i + 1 + n = i + (n + 1) by omega]
theorem hexN_lt {s : ByteArray} {i : Nat} : ∀ n, (∀ j < n, hexD (byt s (i + j)) = true) → hexN s n i 0 < 16 ^ n
  | 0, _ => by simp [hexN]
  | n + 1, h => by
    have h1 := hexN_lt n fun j hj => h j (by omega)
    have h2 := hexV_lt (h n (by omega))
    rw [hexN_succ, Nat.pow_succ]
    omega

theorem lower_met (c : Nat) (h : 97 ≤ c ∧ c ≤ 102) (w : World) : Calls Tryd.prog 78 #[.int .u8 (c : Int)] w fun e w' => e = .returned (.int .u8 (c : Int)) ∧ w' = w := by
  have : c = 97 ∨ c = 98 ∨ c = 99 ∨ c = 100 ∨ c = 101 ∨ c = 102 := by omega
  rcases this with rfl | rfl | rfl | rfl | rfl | rfl
  all_goals go_enter Tryd.func78, Tryd.ntmps78
  all_goals go_wp2
  all_goals go_ret
  all_goals exact ⟨rfl, rfl⟩

set_option maxRecDepth 100000 in
theorem hex_met (c : Nat) (h : hexD c = true) (w : World) : Calls Tryd.prog 64 #[.int .u8 (c : Int)] w fun e w' => e = .returned (.bool true) ∧ w' = w := by
  rcases hexD_cases h with h1 | h1
  · have a1 : (48 : Int) ≤ (c : Int) := by omega
    have a2 : (c : Int) ≤ 57 := by omega
    go_enter Tryd.func64, Tryd.ntmps64
    go_wp2
    go_ret
    exact ⟨rfl, rfl⟩
  · have a1 : (48 : Int) ≤ (c : Int) := by omega
    have a2 : ¬ (c : Int) ≤ 57 := by omega
    have a3 : (97 : Int) ≤ (c : Int) := by omega
    have a4 : (c : Int) ≤ 102 := by omega
    go_enter Tryd.func64, Tryd.ntmps64
    go_wp2
    go_ret
    exact ⟨rfl, rfl⟩

structure Fp (xs : Array Value) (b cap : Nat) : Prop where
  sz : xs.size = 172
  h1 : ∀ h : 1 < xs.size, xs[1] = .int .i64 16
  h8 : ∀ h : 8 < xs.size, xs[8] = .bool false
  h10 : ∀ h : 10 < xs.size, xs[10] = .int .u64 1152921504606846976
  h11 : ∀ h : 11 < xs.size, xs[11] = .int .u64 4294967295
  h12 : ∀ h : 12 < xs.size, xs[12] = .bool false
  h99 : ∀ h : 99 < xs.size, xs[99] = .slice (some ⟨b, 0, none⟩) 6 cap
  h100 : ∀ h : 100 < xs.size, xs[100] = .int .i64 6
theorem Fp.set {xs : Array Value} {b cap : Nat} (h : Fp xs b cap) (d : Nat) (v : Value) (hd : (d ≠ 1 ∧ d ≠ 8) ∧ (d ≠ 10 ∧ d ≠ 11) ∧ (d ≠ 12 ∧ d ≠ 99) ∧ d ≠ 100) : Fp (xs.setIfInBounds d v) b cap where
  sz := by simp [h.sz]
  h1 := Sl.ne (show Sl xs 1 _ from h.h1) hd.1.1
  h8 := Sl.ne (show Sl xs 8 _ from h.h8) hd.1.2
  h10 := Sl.ne (show Sl xs 10 _ from h.h10) hd.2.1.1
  h11 := Sl.ne (show Sl xs 11 _ from h.h11) hd.2.1.2
  h12 := Sl.ne (show Sl xs 12 _ from h.h12) hd.2.2.1.1
  h99 := Sl.ne (show Sl xs 99 _ from h.h99) hd.2.2.1.2
  h100 := Sl.ne (show Sl xs 100 _ from h.h100) hd.2.2.2

theorem Fp.of {xs : Array Value} {b cap : Nat} (sz : xs.size = 172) (h1 : Sl xs 1 (.int .i64 16)) (h8 : Sl xs 8 (.bool false)) (h10 : Sl xs 10 (.int .u64 1152921504606846976)) (h11 : Sl xs 11 (.int .u64 4294967295)) (h12 : Sl xs 12 (.bool false))
    (h99 : Sl xs 99 (.slice (some ⟨b, 0, none⟩) 6 cap)) (h100 : Sl xs 100 (.int .i64 6)) : Fp xs b cap := ⟨sz, h1, h8, h10, h11, h12, h99, h100⟩

noncomputable def puBody : Code := (Tryd.f73.body.bind firstLoop).getD .skip

set_option maxRecDepth 100000 in
set_option maxHeartbeats 4000000 in
theorem pu_round {b cap i v c : Nat} {w : World} {xs : Array Value} (hf : Fp xs b cap) (h13 : Sl xs 13 (.int .u64 (v : Int))) (h101 : Sl xs 101 (.int .i64 (i : Int))) (hi : i ≤ 6) (hv : v < 16777216)
    (hcell : i < 6 → w.cell? ⟨b, i, none⟩ = some (.int .u8 (c : Int)) ∧ hexD c = true) {Q : Exit → Act → World → Prop}
    (hnext : ∀ xs, i < 6 → Fp xs b cap → Sl xs 13 (.int .u64 ((v : Int) * 16 + (hexV c : Int))) → Sl xs 101 (.int .i64 ((i : Int) + 1)) → Q .normal ⟨xs, []⟩ w)
    (hout : ∀ xs, i = 6 → Fp xs b cap → Sl xs 13 (.int .u64 (v : Int)) → Q (.exit 3) ⟨xs, []⟩ w) : Code.wp Tryd.prog puBody Q ⟨xs, []⟩ w := by
  have HF := Lib.hid hf
  have HN := Lib.hid hnext
  have HO := Lib.hid hout
  clear hnext hout
  obtain ⟨sz, g1, g8, g10, g11, g12, g99, g100⟩ := hf
  have H13 := Lib.hid h13
  unfold Sl at h13 h101
  by_cases hlt : i < 6
  · obtain ⟨hc, hx⟩ := hcell hlt
    clear hcell
    have b1 : (i : Int) < 6 := by omega
    have w1 : IntKind.i64.wrap ((i : Int) + 1) = (i : Int) + 1 := by rw [IntKind.wrap_i64]; omega
    have w2 : IntKind.u64.wrap ((v : Int) * 16) = (v : Int) * 16 := by rw [IntKind.wrap_u64]; omega
    have hvx := hexV_lt hx
    have w3 : IntKind.u64.wrap ((v : Int) * 16 + (hexV c : Int)) = (v : Int) * 16 + (hexV c : Int) := by rw [IntKind.wrap_u64]; omega
    have c1 : ¬ (1152921504606846976 : Int) ≤ (v : Int) := by omega
    have c2 : ¬ (v : Int) * 16 + (hexV c : Int) < (v : Int) * 16 := by omega
    have c3 : ¬ (4294967295 : Int) < (v : Int) * 16 + (hexV c : Int) := by omega
    have c4 : ¬ (16 : Int) ≤ (hexV c : Int) := by omega
    rcases hexD_cases hx with h1 | h1
    · have a1 : (48 : Int) ≤ (c : Int) := by omega
      have a2 : (c : Int) ≤ 57 := by omega
      have a3 : ((c : Int) == 95) = false := by rw [beq_eq_false_iff_ne]; omega
      have w4 : IntKind.u8.wrap ((c : Int) - 48) = (hexV c : Int) := by rw [IntKind.wrap_u8]; unfold hexV; rw [if_pos h1.2]; omega
      have w5 : IntKind.u64.wrap (hexV c : Int) = (hexV c : Int) := by rw [IntKind.wrap_u64]; omega
      generalize hexV c = x at *
      conv => arg 2; whnf
      repeat (first | go_skip | go_guarded | ((with_reducible refine wp_cond_true ?_ ?_); focus (simp [Act.eval, sz]; done)) | ((with_reducible refine wp_cond_false ?_ ?_); focus (simp [Act.eval, sz]; done)) | ((fail_if_success (with_reducible refine wp_cond_true ?_ ?_)); go_step) | go_upon)
      exact HN.out _ hlt (by repeat (first | (with_reducible exact HF.out) | (with_reducible refine Fp.set ?_ _ _ (by decide)))) (by repeat (first | (with_reducible exact Sl.same _) | (with_reducible exact HF.out) | (with_reducible refine Sl.ne ?_ (by decide)))) (by repeat (first | (with_reducible exact Sl.same _) | (with_reducible exact HF.out) | (with_reducible refine Sl.ne ?_ (by decide))))
    · have a1 : (48 : Int) ≤ (c : Int) := by omega
      have a2 : ¬ (c : Int) ≤ 57 := by omega
      have a3 : ((c : Int) == 95) = false := by rw [beq_eq_false_iff_ne]; omega
      have a4 : (97 : Int) ≤ (c : Int) := by omega
      have a5 : (c : Int) ≤ 122 := by omega
      have w4 : (c : Int) - 97 + 10 = (hexV c : Int) := by unfold hexV; rw [if_neg (by omega)]; omega
      have w5 : IntKind.u64.wrap (hexV c : Int) = (hexV c : Int) := by rw [IntKind.wrap_u64]; omega
      generalize hexV c = x at *
      conv => arg 2; whnf
      repeat (first | go_skip | go_guarded | ((with_reducible refine wp_cond_true ?_ ?_); focus (simp [Act.eval, sz]; done)) | ((with_reducible refine wp_cond_false ?_ ?_); focus (simp [Act.eval, sz]; done)) | ((fail_if_success (with_reducible refine wp_cond_true ?_ ?_)); go_step) | go_upon)
      refine (lower_met c h1 _).mono ?_
      rintro e w' ⟨rfl, rfl⟩
      go_simp
      repeat (first | go_skip | go_guarded | ((with_reducible refine wp_cond_true ?_ ?_); focus (simp [Act.eval, sz]; done)) | ((with_reducible refine wp_cond_false ?_ ?_); focus (simp [Act.eval, sz]; done)) | ((fail_if_success (with_reducible refine wp_cond_true ?_ ?_)); go_step) | go_upon)
      refine (lower_met c h1 _).mono ?_
      rintro e w' ⟨rfl, rfl⟩
      go_simp
      repeat (first | go_skip | go_guarded | ((with_reducible refine wp_cond_true ?_ ?_); focus (simp [Act.eval, sz]; done)) | ((with_reducible refine wp_cond_false ?_ ?_); focus (simp [Act.eval, sz]; done)) | ((fail_if_success (with_reducible refine wp_cond_true ?_ ?_)); go_step) | go_upon)
      refine (lower_met c h1 _).mono ?_
      rintro e w' ⟨rfl, rfl⟩
      go_simp
      repeat (first | go_skip | go_guarded | ((with_reducible refine wp_cond_true ?_ ?_); focus (simp [Act.eval, sz]; done)) | ((with_reducible refine wp_cond_false ?_ ?_); focus (simp [Act.eval, sz]; done)) | ((fail_if_success (with_reducible refine wp_cond_true ?_ ?_)); go_step) | go_upon)
      exact HN.out _ hlt (by repeat (first | (with_reducible exact HF.out) | (with_reducible refine Fp.set ?_ _ _ (by decide)))) (by repeat (first | (with_reducible exact Sl.same _) | (with_reducible exact HF.out) | (with_reducible refine Sl.ne ?_ (by decide)))) (by repeat (first | (with_reducible exact Sl.same _) | (with_reducible exact HF.out) | (with_reducible refine Sl.ne ?_ (by decide))))
  · have b1 : ¬ (i : Int) < 6 := by omega
    clear hcell
    conv => arg 2; whnf
    repeat (first | go_skip | go_guarded | ((with_reducible refine wp_cond_true ?_ ?_); focus (simp [Act.eval, sz]; done)) | ((with_reducible refine wp_cond_false ?_ ?_); focus (simp [Act.eval, sz]; done)) | ((fail_if_success (with_reducible refine wp_cond_true ?_ ?_)); go_step) | go_upon)
    exact HO.out _ (by omega) (by repeat (first | (with_reducible exact HF.out) | (with_reducible refine Fp.set ?_ _ _ (by decide)))) (by repeat (first | (with_reducible exact Sl.same _) | (with_reducible exact H13.out) | (with_reducible refine Sl.ne ?_ (by decide))))

theorem bytesRow_get {s : ByteArray} {cap i : Nat} (h : i < s.size) : (bytesRow s cap)[i]? = some (.int .u8 ((byt s i : Nat) : Int)) := by
  unfold bytesRow
  have h2 : i < s.data.size := h
  rw [Array.getElem?_append_left (by simpa using h2), Array.getElem?_map, Array.getElem?_eq_getElem h2]
  simp only [byt, h, dif_pos, Option.map_some]
  rfl

set_option maxRecDepth 100000 in
set_option maxHeartbeats 4000000 in
theorem pu_all {s : ByteArray} (h6 : s.size = 6) (hd : ∀ i < 6, hexD (byt s i) = true) {w : World} {xs : Array Value} (hsz : xs.size = 172) (h0 : Sl xs 0 (.string s)) (h1 : Sl xs 1 (.int .i64 16)) (h2 : Sl xs 2 (.int .i64 32))
    {Q : Exit → Act → World → Prop} (hQ : ∀ xs w', xs.size = 172 → Sl xs 6 (.int .u64 (hexN s 6 0 0 : Nat)) → Sl xs 7 .nilIface → Below w.heap.size w w' → Q .ret ⟨xs, []⟩ w') :
    Code.wp Tryd.prog (Tryd.f73.body.getD .skip) Q ⟨xs, []⟩ w := by
  have hne : (s.toList == []) = false := by
    rw [beq_eq_false_iff_ne]
    intro hc
    rw [ByteArray.toList_eq] at hc
    have h7 : s.data.toList.length = s.size := by rw [Array.length_toList]; rfl
    rw [hc, h6] at h7
    cases h7
  have hcv := run_bytes_of_string (P := Tryd.prog) w 9 23 5 s Tryd.underlying9 Tryd.underlying23 Tryd.underlying5
  rw [h6] at hcv
  generalize hcap : grownCap w 6 0 5 = cap at hcv
  obtain ⟨w2, hw2⟩ : ∃ w2, w2 = w.drew.alloc (.cells (bytesRow s cap) 5 ((bytesRow s cap).size, (bytesRow s cap).size + 1)) := ⟨_, rfl⟩
  rw [← hw2] at hcv
  have hb2 : Below w.heap.size w w2 := by rw [hw2]; exact ((Below.refl _ w).drew).alloc (Nat.le_refl _) _
  have hcells : ∀ i, i < 6 → w2.cell? ⟨w.heap.size, i, none⟩ = some (.int .u8 ((byt s i : Nat) : Int)) := fun i hi => by
    have := heap_alloc_new w.drew (.cells (bytesRow s cap) 5 ((bytesRow s cap).size, (bytesRow s cap).size + 1))
    rw [← hw2] at this
    have hs : w.drew.heap.size = w.heap.size := rfl
    rw [hs] at this
    simp only [World.cell?, this]
    simp [bytesRow_get (cap := cap) (by rw [h6]; exact hi : i < s.size)]
  clear hw2 hcap
  have HB := Lib.hid hb2
  have HQ := Lib.hid hQ
  have H1 := Lib.hid h1
  have HC := Lib.hid hcells
  have HD := Lib.hid hd
  have HS := Lib.hid hsz
  have sz := hsz
  clear hQ hb2 hcells hd
  unfold Sl at h0 h1 h2
  conv => arg 2; whnf
  repeat (first | go_skip | go_guarded | ((with_reducible refine wp_cond_true ?_ ?_); focus (simp [Act.eval, sz]; done)) | ((with_reducible refine wp_cond_false ?_ ?_); focus (simp [Act.eval, sz]; done)) | ((fail_if_success (with_reducible refine wp_cond_true ?_ ?_)); go_step) | go_upon)
  refine wp_of_eq (c := Code.loop puBody) (by kernel_rfl) ?_
  refine wp_loop_ghost (fun n a w' => ∃ (xs : Array Value) (i : Nat), a = ⟨xs, []⟩ ∧ Fp xs w.heap.size cap ∧ Sl xs 13 (.int .u64 ((hexN s i 0 0 : Nat) : Int)) ∧ Sl xs 101 (.int .i64 (i : Int)) ∧ i ≤ 6 ∧ n = 6 - i ∧ w' = w2) 6
    ⟨_, 0, rfl, Fp.of (by simp [HS.out]) (by repeat (first | (with_reducible exact Sl.same _) | (with_reducible exact H1.out) | (with_reducible refine Sl.ne ?_ (by decide)))) (by repeat (first | (with_reducible exact Sl.same _) | (with_reducible exact H1.out) | (with_reducible refine Sl.ne ?_ (by decide)))) (by repeat (first | (with_reducible exact Sl.same _) | (with_reducible exact H1.out) | (with_reducible refine Sl.ne ?_ (by decide)))) (by repeat (first | (with_reducible exact Sl.same _) | (with_reducible exact H1.out) | (with_reducible refine Sl.ne ?_ (by decide)))) (by repeat (first | (with_reducible exact Sl.same _) | (with_reducible exact H1.out) | (with_reducible refine Sl.ne ?_ (by decide)))) (by repeat (first | (with_reducible exact Sl.same _) | (with_reducible exact H1.out) | (with_reducible refine Sl.ne ?_ (by decide)))) (by repeat (first | (with_reducible exact Sl.same _) | (with_reducible exact H1.out) | (with_reducible refine Sl.ne ?_ (by decide)))), (show Sl _ 13 (.int .u64 0) from (by repeat (first | (with_reducible exact Sl.same _) | (with_reducible exact H1.out) | (with_reducible refine Sl.ne ?_ (by decide))))), (show Sl _ 101 (.int .i64 0) from (by repeat (first | (with_reducible exact Sl.same _) | (with_reducible exact H1.out) | (with_reducible refine Sl.ne ?_ (by decide))))), by omega, rfl, rfl⟩ ?_
  rintro n a w' ⟨xs', i, rfl, hf, h13, h101, hi, hn, rfl⟩
  have hlt : hexN s i 0 0 < 16777216 := by
    have h := hexN_lt (s := s) (i := 0) i (fun j hj => by rw [Nat.zero_add]; exact HD.out j (by omega))
    exact Nat.lt_of_lt_of_le h (Nat.le_trans (Nat.pow_le_pow_right (by decide) hi) (by decide : 16 ^ 6 ≤ 16777216))
  refine pu_round hf h13 h101 hi hlt (c := byt s i) (fun h => ⟨HC.out i h, HD.out i h⟩) ?_ ?_
  · intro xs2 hlt hf2 h13' h101'
    refine ⟨6 - (i + 1), by omega, xs2, i + 1, rfl, hf2, ?_, by simpa using h101', by omega, rfl, rfl⟩
    have e := hexN_succ s i 0 0
    rw [Nat.zero_add] at e
    rw [e]; simpa using h13'
  · intro xs2 hi6 hf2 h13'
    subst hi6
    have sz2 := hf2.sz
    have sz := sz2
    obtain ⟨_, _, _, _, _, g12, _, _⟩ := hf2
    have H13 := Lib.hid h13'
    have hk : ∀ h : 13 < xs2.size, xs2[13] = Value.int IntKind.u64 ((hexN s 6 0 0 : Nat) : Int) := h13'
    clear h13' h13 hlt
    repeat (first | go_skip | go_guarded | ((with_reducible refine wp_cond_true ?_ ?_); focus (simp [Act.eval, sz]; done)) | ((with_reducible refine wp_cond_false ?_ ?_); focus (simp [Act.eval, sz]; done)) | ((fail_if_success (with_reducible refine wp_cond_true ?_ ?_)); go_step) | go_upon)
    exact HQ.out _ _ (by simp [sz2]) (by repeat (first | (with_reducible exact Sl.same _) | (with_reducible exact H13.out) | (with_reducible refine Sl.ne ?_ (by decide)))) (by repeat (first | (with_reducible exact Sl.same _) | (with_reducible exact H13.out) | (with_reducible refine Sl.ne ?_ (by decide)))) HB.out

set_option maxRecDepth 100000 in
theorem parseUint16 {s : ByteArray} (h6 : s.size = 6) (hd : ∀ i < 6, hexD (byt s i) = true) (w : World) :
    Calls Tryd.prog 73 #[.string s, .int .i64 16, .int .i64 32] w fun e w' => e = .returned (.tuple #[.int .u64 (hexN s 6 0 0 : Nat), .nilIface]) ∧ Below w.heap.size w w' := by
  go_enter Tryd.func73, Tryd.ntmps73
  refine wp_of_eq (c := Tryd.f73.body.getD .skip) (by kernel_rfl) ?_
  refine pu_all h6 hd (by simp) (fun _ => by simp) (fun _ => by simp) (fun _ => by simp) ?_
  intro xs w' sz h6 h7 hb
  have e6 := h6 (by rw [sz]; decide)
  have e7 := h7 (by rw [sz]; decide)
  refine bodyPost_ret_by (v := .tuple #[.int .u64 (hexN s 6 0 0 : Nat), .nilIface]) ?_ rfl ⟨rfl, hb⟩
  simp only [results, show Tryd.f73.results = #[.tmp 6, .tmp 7] from rfl] <;> go_simp

theorem wrap64_small {v : Nat} (h : v < 16777216) : IntKind.i64.wrap (v : Int) = (v : Int) := by rw [IntKind.wrap_i64]; omega

set_option maxRecDepth 100000 in
set_option maxHeartbeats 2000000 in
theorem parseInt16 {s : ByteArray} (h6 : s.size = 6) (hd : ∀ i < 6, hexD (byt s i) = true) (w : World) :
    Calls Tryd.prog 71 #[.string s, .int .i64 16, .int .i64 32] w fun e w' => e = .returned (.tuple #[.int .i64 (hexN s 6 0 0 : Nat), .nilIface]) ∧ Below w.heap.size w w' := by
  have hne : (s.toList == []) = false := by
    rw [beq_eq_false_iff_ne]
    intro hc
    rw [ByteArray.toList_eq] at hc
    have h7 : s.data.toList.length = s.size := by rw [Array.length_toList]; rfl
    rw [hc, h6] at h7
    cases h7
  have hv := hexN_lt (s := s) (i := 0) 6 (fun j hj => by rw [Nat.zero_add]; exact hd j (by omega))
  have hlt : 0 < s.size := by omega
  have hi0 : ((s[0]'hlt).toNat : Int) = ((byt s 0 : Nat) : Int) := by simp [byt, hlt]
  have hx := hexD_cases (hd 0 (by omega))
  have a1 : (((s[0]'hlt).toNat : Int) == 43) = false := by rw [hi0, beq_eq_false_iff_ne]; omega
  have a2 : (((s[0]'hlt).toNat : Int) == 45) = false := by rw [hi0, beq_eq_false_iff_ne]; omega
  have HV := fun w => parseUint16 h6 hd w
  clear hi0 hx
  generalize hexN s 6 0 0 = v at *
  have hv' : v < 16777216 := hv
  have a3 : ¬ (2147483648 : Int) ≤ (v : Int) := by omega
  have a4 := wrap64_small hv'
  have HV := Lib.hid HV
  clear hv hv' hd
  have hz : (0 : Int) < (s.size : Int) := by omega
  clear h6
  go_enter Tryd.func71, Tryd.ntmps71
  (repeat go_step)
  refine (HV.out _).mono ?_
  rintro e w2 ⟨rfl, hb⟩
  have HB := Lib.hid hb
  clear hb HV
  go_simp
  (repeat (first | go_step | go_skip))
  refine bodyPost_ret_by (v := .tuple #[.int .i64 (v : Int), .nilIface]) ?_ rfl ⟨rfl, HB.out⟩
  simp only [results, show Tryd.f71.results = #[.tmp 6, .tmp 7] from rfl] <;> go_simp

set_option maxRecDepth 100000 in
set_option maxHeartbeats 2000000 in
theorem ParseInt16 {s : ByteArray} (h6 : s.size = 6) (hd : ∀ i < 6, hexD (byt s i) = true) (w : World) :
    Calls Tryd.prog 65 #[.string s, .int .i64 16, .int .i64 32] w fun e w' => e = .returned (.tuple #[.int .i64 (hexN s 6 0 0 : Nat), .nilIface]) ∧ Below w.heap.size w w' := by
  have HV := Lib.hid fun w => parseInt16 h6 hd w
  generalize hexN s 6 0 0 = v at *
  clear h6 hd
  go_enter Tryd.func65, Tryd.ntmps65
  (repeat go_step)
  refine (HV.out _).mono ?_
  rintro e w2 ⟨rfl, hb⟩
  have HB := Lib.hid hb
  clear hb HV
  go_simp
  (repeat (first | go_step | go_skip))
  refine bodyPost_ret_by (v := .tuple #[.int .i64 (v : Int), .nilIface]) ?_ rfl ⟨rfl, HB.out⟩
  simp only [results, show Tryd.f65.results = #[.tmp 6, .tmp 7] from rfl] <;> go_simp

end Go.Proofs.YtlanodchnjojoaaDoor

namespace Go.Proofs.YtlanodchnjojoaaDoor
open Go.RowKit

theorem byt_in {s : ByteArray} {i : Nat} (h : byt s i < 256) : i < s.size := by
  apply Decidable.byContradiction; intro hc
  simp only [byt, hc, dif_neg, not_false_iff] at h; omega
theorem byt_extract {s : ByteArray} {a b i : Nat} (hb : b ≤ s.size) (hi : a + i < b) : byt (s.extract a b) i = byt s (a + i) := by
  have h1 : i < (s.extract a b).size := by rw [ByteArray.size_extract]; omega
  have h2 : a + i < s.size := by omega
  simp only [byt, h1, h2, dif_pos]
  rw [ByteArray.getElem_extract]
theorem hexN_extract {s : ByteArray} {a b : Nat} (hb : b ≤ s.size) : ∀ n i v, a + i + n ≤ b → hexN (s.extract a b) n i v = hexN s n (a + i) v
  | 0, _, _, _ => rfl
  | n + 1, i, v, h => by
    simp only [hexN]
    rw [byt_extract hb (by omega), hexN_extract hb n (i + 1) _ (by omega)]
    rw [show a + (i + 1) = a + i + 1 by omega]

structure EscOk (s : ByteArray) (a v : Nat) : Prop where
  c : byt s (a + 1) = 58
  d : ∀ i < 6, hexD (byt s (a + 2 + i)) = true
  e : byt s (a + 8) = 59
  w : wid (v : Int) ≠ 0
  v : v = hexN s 6 (a + 2) 0
  size : a + 8 < s.size
theorem escOk {s : ByteArray} {a v : Nat} (h : pEsc s a = some v) : EscOk s a v := by
  unfold pEsc at h
  split at h
  · rename_i hc
    cases h
    exact ⟨hc.1, hc.2.1, hc.2.2.1, hc.2.2.2, rfl, byt_in (by rw [hc.2.2.1]; decide)⟩
  · cases h
theorem EscOk.digits {s : ByteArray} {a v : Nat} (h : EscOk s a v) : ∃ D, D = s.extract (a + 2) (a + 8) ∧ D.size = 6 ∧ (∀ i < 6, hexD (byt D i) = true) ∧ hexN D 6 0 0 = v ∧ D.toList.isEmpty = false := by
  have hs := h.size
  have hz : (s.extract (a + 2) (a + 8)).size = 6 := by rw [ByteArray.size_extract]; omega
  refine ⟨_, rfl, hz, fun i hi => ?_, ?_, ?_⟩
  · rw [byt_extract (by omega) (by omega)]; exact h.d i hi
  · rw [hexN_extract (by omega) 6 0 0 (by omega), h.v]
  · rw [List.isEmpty_eq_false_iff]
    intro hc
    rw [ByteArray.toList_eq] at hc
    have h7 : (s.extract (a + 2) (a + 8)).data.toList.length = (s.extract (a + 2) (a + 8)).size := by rw [Array.length_toList]; rfl
    rw [hc, hz] at h7
    cases h7

set_option maxRecDepth 100000 in
set_option maxHeartbeats 4000000 in
theorem escaped_rd {w : World} {rb : Nat} {s : ByteArray} {at_ g z v : Nat} (h : Rd w rb s at_ g z) (ha : Asc s) (hs : s.size ≤ 2000) (he : pEsc s at_ = some v) :
    Calls Tryd.prog 57 #[.pointer (some ⟨rb, 0, none⟩)] w fun e w' => e = .returned (.agg #[.int .i32 v, .bool false, .int .u8 0]) ∧ Rd w' rb s (at_ + 9) g z ∧ w.grownBy w' (some rb) := by
  have hE := escOk he
  have hsz := hE.size
  have hlt := Blk.lt h
  obtain ⟨c0, c1, c2, c3⟩ := h.cells
  have hfz := Blk.frozen h 1
  have n1 : ¬ rb = w.heap.size := by omega
  have n2 : ¬ w.heap.size = rb := by omega
  have wA : IntKind.i64.wrap ((at_ : Int) + 1) = (at_ : Int) + 1 := by rw [IntKind.wrap_i64]; omega
  have E := Lib.hid hE
  clear hE he
  go_enter Tryd.func57, Tryd.ntmps57
  go_wp2_with fail
  refine (now_rd (rb := rb) (s := s) (at_ := at_ + 1) (g := g) (z := z) (by repeat (first | (with_reducible exact h) | (with_reducible refine @Rd.putI _ _ _ ?_ _ _ ?_ _ _ (by omega); rotate_left) | (with_reducible refine @Rd.putZI _ _ _ _ _ ?_ ?_ _ _ (by omega); rotate_left) | (with_reducible refine @Rd.putGI _ _ _ _ ?_ _ ?_ _ _ (by omega); rotate_left) | (with_reducible refine Blk.set_other ?_ (by (try dsimp only [] at *); (try simp only [size_set, World.size_alloc, World.size_drew] at *); omega) _) | (with_reducible refine Blk.alloc ?_ _) | (with_reducible refine Rd.drewN ?_ _) | (with_reducible refine Blk.drew ?_))) ha hs (by omega)).mono ?_
  rintro e w1 ⟨rfl, hb1⟩
  have T0 : Turn (fun b => b = rb ∨ w.heap.size ≤ b) w ((w.setCell ⟨rb, 1, none⟩ (.int .i64 ((at_ : Int) + 1))).alloc (.cells #[.int .i32 0, .bool false, .int .u8 0] 71)) := (by repeat (first | (with_reducible exact Turn.refl _ _) | (with_reducible refine Turn.set ?_ (by first | exact Or.inl rfl | exact Or.inr (Or.inl rfl) | exact Or.inr (Or.inr rfl) | exact Or.inr (by (try dsimp only [] at *); (try simp only [size_set, World.size_alloc, World.size_drew] at *); omega)) _) | (with_reducible refine Turn.alloc ?_ _) | (with_reducible refine Turn.drewN ?_ _) | (with_reducible refine Turn.drew ?_)))
  have R0 : Rd ((w.setCell ⟨rb, 1, none⟩ (.int .i64 ((at_ : Int) + 1))).alloc (.cells #[.int .i32 0, .bool false, .int .u8 0] 71)) rb s (at_ + 1) g z := (by repeat (first | (with_reducible exact h) | (with_reducible refine @Rd.putI _ _ _ ?_ _ _ ?_ _ _ (by omega); rotate_left) | (with_reducible refine @Rd.putZI _ _ _ _ _ ?_ ?_ _ _ (by omega); rotate_left) | (with_reducible refine @Rd.putGI _ _ _ _ ?_ _ ?_ _ _ (by omega); rotate_left) | (with_reducible refine Blk.set_other ?_ (by (try dsimp only [] at *); (try simp only [size_set, World.size_alloc, World.size_drew] at *); omega) _) | (with_reducible refine Blk.alloc ?_ _) | (with_reducible refine Rd.drewN ?_ _) | (with_reducible refine Blk.drew ?_)))
  have N0 : Blk ((w.setCell ⟨rb, 1, none⟩ (.int .i64 ((at_ : Int) + 1))).alloc (.cells #[.int .i32 0, .bool false, .int .u8 0] 71)) w.heap.size 71 [.int .i32 0, .bool false, .int .u8 0] := Blk.newAt (by simp only [size_set]) _ _
  have T1' : Turn (fun b => b = rb ∨ w.heap.size ≤ b) w w1 := Turn.below T0 hb1 (fun b hb _ => by simp only [World.size_alloc, size_set]; omega)
  have HR1' : Rd w1 rb s (at_ + 1) g z := below_keeps' hb1 R0
  have N1' := below_keeps' hb1 N0
  have T1 := Lib.hid T1'
  have HR1 := Lib.hid HR1'
  have N1 := Lib.hid N1'
  clear T0 R0 N0 T1' HR1' N1' hb1
  have hr1 := Blk.lt HR1.out
  have l0 := N1.out.lt
  have hc58 := E.out.c
  have b58 : ((byt s (at_ + 1) : Int) == 58) = true := by rw [hc58]; rfl
  obtain ⟨d0, d1, d2, d3⟩ := HR1.out.cells
  have df := Blk.frozen HR1.out 1
  have wB : IntKind.i64.wrap ((at_ : Int) + 1 + 1) = (at_ : Int) + 2 := by rw [IntKind.wrap_i64]; omega
  have x0 := N1.out.cell (j := 0) rfl
  have x1 := N1.out.cell (j := 1) rfl
  have x2 := N1.out.cell (j := 2) rfl
  have u0 := N1.out.frozen 0
  have u1 := N1.out.frozen 1
  have u2 := N1.out.frozen 2
  go_wp2_with (first
    | (go_at_call 19; refine (is_rdI (s := s) (at_ := at_ + 1) (g := g) (z := z) (rb := rb) (by repeat (first | (with_reducible exact HR1.out) | (with_reducible refine Blk.set_other ?_ (by (try dsimp only [] at *); (try simp only [size_set, World.size_alloc, World.size_drew] at *); omega) _) | (with_reducible refine Blk.alloc ?_ _) | (with_reducible refine Rd.drewN ?_ _) | (with_reducible refine Blk.drew ?_))) hs _ (by omega) (by omega)).mono ?_; rintro e wx ⟨rfl, rfl⟩))
  have T2' : Turn (fun b => b = rb ∨ w.heap.size ≤ b) w (((w1.setCell ⟨rb, 1, none⟩ (.int .i64 ((at_ : Int) + 2))).alloc (.cells #[.int .i32 58, .bool false, .int .u8 0] 71)).drew) := (by repeat (first | (with_reducible exact T1.out) | (with_reducible refine Turn.set ?_ (by first | exact Or.inl rfl | exact Or.inr (Or.inl rfl) | exact Or.inr (Or.inr rfl) | exact Or.inr (by (try dsimp only [] at *); (try simp only [size_set, World.size_alloc, World.size_drew] at *); omega)) _) | (with_reducible refine Turn.alloc ?_ _) | (with_reducible refine Turn.drewN ?_ _) | (with_reducible refine Turn.drew ?_)))
  have HR2' : Rd (((w1.setCell ⟨rb, 1, none⟩ (.int .i64 ((at_ : Int) + 2))).alloc (.cells #[.int .i32 58, .bool false, .int .u8 0] 71)).drew) rb s (at_ + 2) g z := (by repeat (first | (with_reducible exact HR1.out) | (with_reducible refine @Rd.putI _ _ _ ?_ _ _ ?_ _ _ (by omega); rotate_left) | (with_reducible refine @Rd.putZI _ _ _ _ _ ?_ ?_ _ _ (by omega); rotate_left) | (with_reducible refine @Rd.putGI _ _ _ _ ?_ _ ?_ _ _ (by omega); rotate_left) | (with_reducible refine Blk.set_other ?_ (by (try dsimp only [] at *); (try simp only [size_set, World.size_alloc, World.size_drew] at *); omega) _) | (with_reducible refine Blk.alloc ?_ _) | (with_reducible refine Rd.drewN ?_ _) | (with_reducible refine Blk.drew ?_)))
  have N2' : Blk (((w1.setCell ⟨rb, 1, none⟩ (.int .i64 ((at_ : Int) + 2))).alloc (.cells #[.int .i32 58, .bool false, .int .u8 0] 71)).drew) w.heap.size 71 [.int .i32 0, .bool false, .int .u8 0] := (by repeat (first | (with_reducible exact N1.out) | (with_reducible refine Blk.set_other ?_ (by (try dsimp only [] at *); (try simp only [size_set, World.size_alloc, World.size_drew] at *); omega) _) | (with_reducible refine Blk.alloc ?_ _) | (with_reducible refine Rd.drewN ?_ _) | (with_reducible refine Blk.drew ?_)))
  have T2 := Lib.hid T2'
  have HR2 := Lib.hid HR2'
  have N2 := Lib.hid N2'
  clear T2' HR2' N2' d0 d1 d2 d3 df x0 x1 x2 u0 u1 u2 T1 HR1 N1 l0 hr1 hc58 b58
  generalize ((w1.setCell ⟨rb, 1, none⟩ (.int .i64 ((at_ : Int) + 2))).alloc (.cells #[.int .i32 58, .bool false, .int .u8 0] 71)).drew = W2 at *
  go_loopw [6] (fun s6 wr => ∃ t : Nat, s6 = .int .i64 (t : Int) ∧ wr = W2 ∧ at_ + 2 ≤ t ∧ t ≤ at_ + 8) (fun s6 _ => match s6 with | .int _ x => at_ + 8 - x.toNat | _ => 0)
  case atStart => exact ⟨at_ + 2, by simp, rfl, by omega, by omega⟩
  case round =>
    obtain ⟨t, rfl, rfl, ht1, ht2⟩ := hrel
    obtain ⟨d0, d1, d2, d3⟩ := HR2.out.cells
    have df := Blk.frozen HR2.out 1
    have hlt' : t < s.size := by omega
    have hlI : (t : Int) < (s.size : Int) := by omega
    have w6 : IntKind.i64.wrap ((at_ : Int) + 2 + 6) = (at_ : Int) + 8 := by rw [IntKind.wrap_i64]; omega
    have w7 : IntKind.i64.wrap ((t : Int) + 1) = (t : Int) + 1 := by rw [IntKind.wrap_i64]; omega
    by_cases h8 : t < at_ + 8
    · have h8' : (t : Int) < (at_ : Int) + 8 := by omega
      have hb : byt s t = (s[t]'hlt').toNat := by simp [byt, hlt']
      have hx : hexD (s[t]'hlt').toNat = true := by
        have := E.out.d (t - (at_ + 2)) (by omega)
        rw [show at_ + 2 + (t - (at_ + 2)) = t by omega, hb] at this
        exact this
      have HX := Lib.hid fun W => hex_met _ hx W
      clear hb hx
      go_wp2_with (first
        | (go_at_call 64; refine (HX.out _).mono ?_; rintro e wx ⟨rfl, rfl⟩))
      exact ⟨⟨t + 1, by simp, trivial, by omega, by omega⟩, by simp only [Int.toNat_natCast, show (((t : Nat) : Int) + 1).toNat = t + 1 by omega]; omega⟩
    · have ht : t = at_ + 8 := by omega
      subst ht
      have h8' : ¬ ((at_ + 8 : Nat) : Int) < (at_ : Int) + 8 := by omega
      have h82 : ((at_ : Int) + 2) ≤ ((at_ + 8 : Nat) : Int) := by omega
      have h83 : ((at_ + 8 : Nat) : Int) ≤ (s.size : Int) := by omega
      clear ht1 ht2 h8
      obtain ⟨D, hD, hD6, hDd, hDv, hDe⟩ := E.out.digits
      have h84 : s.extract (at_ + 2) (at_ + 8) = D := hD.symm
      have HP := Lib.hid fun W => ParseInt16 hD6 hDd W
      have HD := Lib.hid (And.intro hDv hD)
      clear hDd hDv hD6 hD
      have ew : ((at_ : Int) + 2).toNat = at_ + 2 := by omega
      go_wp2_with fail
      go_region
      go_wp2_with fail
      have R3 : Rd ((wr.setCell ⟨rb, 1, none⟩ (.int .i64 ((at_ : Int) + 8))).drew) rb s (at_ + 8) g z := (by repeat (first | (with_reducible exact HR2.out) | (with_reducible refine @Rd.putI _ _ _ ?_ _ _ ?_ _ _ (by omega); rotate_left) | (with_reducible refine @Rd.putZI _ _ _ _ _ ?_ ?_ _ _ (by omega); rotate_left) | (with_reducible refine @Rd.putGI _ _ _ _ ?_ _ ?_ _ _ (by omega); rotate_left) | (with_reducible refine Blk.set_other ?_ (by (try dsimp only [] at *); (try simp only [size_set, World.size_alloc, World.size_drew] at *); omega) _) | (with_reducible refine Blk.alloc ?_ _) | (with_reducible refine Rd.drewN ?_ _) | (with_reducible refine Blk.drew ?_)))
      have N3 : Blk ((wr.setCell ⟨rb, 1, none⟩ (.int .i64 ((at_ : Int) + 8))).drew) w.heap.size 71 [.int .i32 0, .bool false, .int .u8 0] := (by repeat (first | (with_reducible exact N2.out) | (with_reducible refine Blk.set_other ?_ (by (try dsimp only [] at *); (try simp only [size_set, World.size_alloc, World.size_drew] at *); omega) _) | (with_reducible refine Blk.alloc ?_ _) | (with_reducible refine Rd.drewN ?_ _) | (with_reducible refine Blk.drew ?_)))
      have T3 : Turn (fun b => b = rb ∨ w.heap.size ≤ b) w ((wr.setCell ⟨rb, 1, none⟩ (.int .i64 ((at_ : Int) + 8))).drew) := (by repeat (first | (with_reducible exact T2.out) | (with_reducible refine Turn.set ?_ (by first | exact Or.inl rfl | exact Or.inr (Or.inl rfl) | exact Or.inr (Or.inr rfl) | exact Or.inr (by (try dsimp only [] at *); (try simp only [size_set, World.size_alloc, World.size_drew] at *); omega)) _) | (with_reducible refine Turn.alloc ?_ _) | (with_reducible refine Turn.drewN ?_ _) | (with_reducible refine Turn.drew ?_)))
      refine (must_rd R3 hs 59 (by omega) E.out.e (by omega)).mono ?_
      rintro e w4 ⟨rfl, hw4⟩
      have R4' : Rd w4 rb s (at_ + 9) g z := by rw [hw4]; exact Rd.put (w := ((wr.setCell ⟨rb, 1, none⟩ (.int .i64 ((at_ : Int) + 8))).drew).drew) R3.drew (at_ + 9)
      have N4' : Blk w4 w.heap.size 71 [.int .i32 0, .bool false, .int .u8 0] := by rw [hw4]; exact (by repeat (first | (with_reducible exact N3) | (with_reducible refine Blk.set_other ?_ (by (try dsimp only [] at *); (try simp only [size_set, World.size_alloc, World.size_drew] at *); omega) _) | (with_reducible refine Blk.alloc ?_ _) | (with_reducible refine Rd.drewN ?_ _) | (with_reducible refine Blk.drew ?_)))
      have T4' : Turn (fun b => b = rb ∨ w.heap.size ≤ b) w w4 := by rw [hw4]; exact (by repeat (first | (with_reducible exact T3) | (with_reducible refine Turn.set ?_ (by first | exact Or.inl rfl | exact Or.inr (Or.inl rfl) | exact Or.inr (Or.inr rfl) | exact Or.inr (by (try dsimp only [] at *); (try simp only [size_set, World.size_alloc, World.size_drew] at *); omega)) _) | (with_reducible refine Turn.alloc ?_ _) | (with_reducible refine Turn.drewN ?_ _) | (with_reducible refine Turn.drew ?_)))
      have R4 := Lib.hid R4'
      have N4 := Lib.hid N4'
      have T4 := Lib.hid T4'
      clear R4' N4' T4' hw4 R3 N3 T3 HR2 N2 T2 d0 d1 d2 d3 df
      go_wp2_with fail
      refine (HP.out _).mono ?_
      rintro e w5 ⟨rfl, hb5⟩
      have hv16 : v < 16777216 := by
        have h1 := hexN_lt (s := s) (i := at_ + 2) 6 E.out.d
        rw [← E.out.v] at h1
        exact h1
      have e32 : IntKind.i32.wrap (v : Int) = (v : Int) := by rw [IntKind.wrap_i32]; omega
      have R5 := Lib.hid (below_keeps' hb5 R4.out)
      have N5 := Lib.hid (below_keeps' hb5 N4.out)
      have T5 := Lib.hid (Turn.below T4.out hb5 (fun b hb _ => Nat.lt_of_lt_of_le hb T4.out.size) : Turn (fun b => b = rb ∨ w.heap.size ≤ b) w w5)
      have hwd : (((wid (v : Int) : Nat) : Int) == 0) = false := by rw [beq_eq_false_iff_ne]; have := E.out.w; omega
      rw [HD.out.1]
      clear hb5 hv16
      have l5 := N5.out.lt
      have x0 := N5.out.cell (j := 0) rfl
      have x1 := N5.out.cell (j := 1) rfl
      have x2 := N5.out.cell (j := 2) rfl
      have u0 := N5.out.frozen 0
      have u1 := N5.out.frozen 1
      have u2 := N5.out.frozen 2
      go_wp2_with (first
        | (go_at_call 50; refine (width_met _ _).mono ?_; rintro e wx ⟨rfl, rfl⟩))
      refine bodyPost_ret_by (v := .agg #[.int .i32 (v : Int), .bool false, .int .u8 0]) ?_ rfl ⟨rfl, (by repeat (first | (with_reducible exact R5.out) | (with_reducible refine Blk.set_other ?_ (by (try dsimp only [] at *); (try simp only [size_set, World.size_alloc, World.size_drew] at *); omega) _) | (with_reducible refine Blk.alloc ?_ _) | (with_reducible refine Rd.drewN ?_ _) | (with_reducible refine Blk.drew ?_))), Turn.toGrown (S := fun b => b = rb ∨ w.heap.size ≤ b) (by repeat (first | (with_reducible exact T5.out) | (with_reducible refine Turn.set ?_ (by first | exact Or.inl rfl | exact Or.inr (Or.inl rfl) | exact Or.inr (Or.inr rfl) | exact Or.inr (by (try dsimp only [] at *); (try simp only [size_set, World.size_alloc, World.size_drew] at *); omega)) _) | (with_reducible refine Turn.alloc ?_ _) | (with_reducible refine Turn.drewN ?_ _) | (with_reducible refine Turn.drew ?_))) fun b hb h => by omega⟩
      simp only [results, show Tryd.f57.results = #[.cell 2 71] from rfl] <;> go_simp

set_option maxRecDepth 100000 in
set_option maxHeartbeats 4000000 in
theorem escape_rd {w : World} {rb : Nat} {s : ByteArray} {at_ g z v : Nat} (h : Rd w rb s at_ g z) (ha : Asc s) (hs : s.size ≤ 2000) (he : pEsc s at_ = some v) :
    Calls Tryd.prog 44 #[.pointer (some ⟨rb, 0, none⟩)] w fun e w' => e = .returned (aV 0 v 0 (.slice none 0 0)) ∧ Rd w' rb s (at_ + 9) g z ∧ w.grownBy w' (some rb) := by
  have hE := escOk he
  have hsz := hE.size
  have hlt := Blk.lt h
  have h1lt : at_ + 1 < s.size := by omega
  have hc := hE.c
  have hc' : (s[at_ + 1]'h1lt).toNat = 58 := by rw [← hc]; simp [byt, h1lt]
  have R0 : Rd (w.alloc (.cells #[.int .i64 0, .int .i32 0, .bool false, .int .u8 0, .bool false, .slice none 0 0, .bool false, .int .i64 0, .slice none 0 0] 74)) rb s at_ g z := Blk.alloc h _
  have N0 : Blk (w.alloc (.cells #[.int .i64 0, .int .i32 0, .bool false, .int .u8 0, .bool false, .slice none 0 0, .bool false, .int .i64 0, .slice none 0 0] 74)) w.heap.size 74 [.int .i64 0, .int .i32 0, .bool false, .int .u8 0, .bool false, .slice none 0 0, .bool false, .int .i64 0, .slice none 0 0] := Blk.new w 74 _
  have T0 : Turn (fun b => b = rb ∨ w.heap.size ≤ b) w (w.alloc (.cells #[.int .i64 0, .int .i32 0, .bool false, .int .u8 0, .bool false, .slice none 0 0, .bool false, .int .i64 0, .slice none 0 0] 74)) := (by repeat (first | (with_reducible exact Turn.refl _ _) | (with_reducible refine Turn.set ?_ (by first | exact Or.inl rfl | exact Or.inr (Or.inl rfl) | exact Or.inr (Or.inr rfl) | exact Or.inr (by (try dsimp only [] at *); (try simp only [size_set, World.size_alloc, World.size_drew] at *); omega)) _) | (with_reducible refine Turn.alloc ?_ _) | (with_reducible refine Turn.drewN ?_ _) | (with_reducible refine Turn.drew ?_)))
  have n1 : ¬ rb = w.heap.size := by omega
  have wA : IntKind.i64.wrap ((at_ : Int) + 1) = (at_ : Int) + 1 := by rw [IntKind.wrap_i64]; omega
  have hlI : (at_ : Int) + 1 < (s.size : Int) := by omega
  have hix : Lib.indexByte [97, 117, 108, 118, 99, 100, 109, 115, 101, 112, 120] ((58 : Int).toNat.toUInt8) = -1 := by kernel_rfl
  have HE := Lib.hid he
  clear hE he hc
  go_enter Tryd.func44, Tryd.ntmps44
  go_wp2_with fail
  generalize hw0 : w.alloc (.cells #[.int .i64 0, .int .i32 0, .bool false, .int .u8 0, .bool false, .slice none 0 0, .bool false, .int .i64 0, .slice none 0 0] 74) = w0 at *
  obtain ⟨d0, d1, d2, d3⟩ := R0.cells
  have R0 := Lib.hid R0
  have N0 := Lib.hid N0
  have T0 := Lib.hid T0
  go_region
  go_wp2_with fail
  go_region
  go_wp2_with (first
    | (go_at_call 56; refine (IndexByte_met _ _ _).mono ?_; rintro e wx ⟨rfl, hwx⟩; rw [hix]; have HW := Lib.hid hwx; clear hwx)
    | (go_at_call 57; have R1 : Rd wx rb s at_ g z := (by rw [HW.out]; exact (by repeat (first | (with_reducible exact R0.out) | (with_reducible refine Blk.set_other ?_ (by (try dsimp only [] at *); (try simp only [size_set, World.size_alloc, World.size_drew] at *); omega) _) | (with_reducible refine Blk.alloc ?_ _) | (with_reducible refine Rd.drewN ?_ _) | (with_reducible refine Blk.drew ?_)))); refine (escaped_rd R1 ha hs HE.out).mono ?_; rintro e w2 ⟨rfl, HR2, hg2⟩; have N1 : Blk wx w.heap.size 74 [.int .i64 0, .int .i32 0, .bool false, .int .u8 0, .bool false, .slice none 0 0, .bool false, .int .i64 0, .slice none 0 0] := (by rw [HW.out]; exact (by repeat (first | (with_reducible exact N0.out) | (with_reducible refine Blk.set_other ?_ (by (try dsimp only [] at *); (try simp only [size_set, World.size_alloc, World.size_drew] at *); omega) _) | (with_reducible refine Blk.alloc ?_ _) | (with_reducible refine Rd.drewN ?_ _) | (with_reducible refine Blk.drew ?_)))); have T1 : Turn (fun b => b = rb ∨ w.heap.size ≤ b) w wx := (by rw [HW.out]; exact (by repeat (first | (with_reducible exact T0.out) | (with_reducible refine Turn.set ?_ (by first | exact Or.inl rfl | exact Or.inr (Or.inl rfl) | exact Or.inr (Or.inr rfl) | exact Or.inr (by (try dsimp only [] at *); (try simp only [size_set, World.size_alloc, World.size_drew] at *); omega)) _) | (with_reducible refine Turn.alloc ?_ _) | (with_reducible refine Turn.drewN ?_ _) | (with_reducible refine Turn.drew ?_)))); have N2 := Lib.hid (Blk.grown N1 hg2 (by simp; omega)); have T2 := Lib.hid (Turn.grown T1 hg2 (Or.inl rfl)); have R2 := Lib.hid HR2; clear N1 T1 hg2 HR2 d0 d1 d2 d3; have l2 := N2.out.lt; have x0 := N2.out.cell (j := 0) rfl; have u0 := N2.out.frozen 0; have x1 := N2.out.cell (j := 1) rfl; have u1 := N2.out.frozen 1; have x2 := N2.out.cell (j := 2) rfl; have u2 := N2.out.frozen 2; have x3 := N2.out.cell (j := 3) rfl; have u3 := N2.out.frozen 3; have x4 := N2.out.cell (j := 4) rfl; have u4 := N2.out.frozen 4; have x5 := N2.out.cell (j := 5) rfl; have u5 := N2.out.frozen 5; have x6 := N2.out.cell (j := 6) rfl; have u6 := N2.out.frozen 6; have x7 := N2.out.cell (j := 7) rfl; have u7 := N2.out.frozen 7; have x8 := N2.out.cell (j := 8) rfl; have u8 := N2.out.frozen 8))
  refine bodyPost_ret_by (v := aV 0 v 0 (.slice none 0 0)) ?_ rfl ⟨rfl, (by repeat (first | (with_reducible exact R2.out) | (with_reducible refine Blk.set_other ?_ (by (try dsimp only [] at *); (try simp only [size_set, World.size_alloc, World.size_drew] at *); omega) _) | (with_reducible refine Blk.alloc ?_ _) | (with_reducible refine Rd.drewN ?_ _) | (with_reducible refine Blk.drew ?_))), Turn.toGrown (S := fun b => b = rb ∨ w.heap.size ≤ b) (by repeat (first | (with_reducible exact T2.out) | (with_reducible refine Turn.set ?_ (by first | exact Or.inl rfl | exact Or.inr (Or.inl rfl) | exact Or.inr (Or.inr rfl) | exact Or.inr (by (try dsimp only [] at *); (try simp only [size_set, World.size_alloc, World.size_drew] at *); omega)) _) | (with_reducible refine Turn.alloc ?_ _) | (with_reducible refine Turn.drewN ?_ _) | (with_reducible refine Turn.drew ?_))) fun b hb h => by omega⟩
  simp only [results, aV, show Tryd.f44.results = #[.cell 2 74] from rfl] <;> go_simp

end Go.Proofs.YtlanodchnjojoaaDoor
