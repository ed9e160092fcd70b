/- strconv.ParseInt to the base 16 of six digits; the function hex. -/
import Derived.Test.YtlanodchnjojoaaDoorSg
import Derived.Test.YtlanodchnjojoaaDoorAt3
import Derived.Laws.IdiomStrings
namespace Go.Proofs.YtlanodchnjojoaaDoor
open Go.RowKit

theorem hexD_cases {c : Nat} (h : hexD c = true) : (48 ≤ c ∧ c ≤ 57) ∨ (97 ≤ c ∧ c ≤ 102) := by
  simpa [hexD] using h
theorem hexV_lt {c : Nat} (h : hexD c = true) : hexV c < 16 := by
  unfold hexV; rcases hexD_cases h with h | h <;> split <;> omega
theorem hexN_succ (s : ByteArray) : ∀ n i v, hexN s (n + 1) i v = hexN s n i v * 16 + hexV (byt s (i + n))
  | 0, i, v => rfl
  | n + 1, i, v => by
    show hexN s (n + 1) (i + 1) (v * 16 + hexV (byt s i)) = hexN s n (i + 1) (v * 16 + hexV (byt s i)) * 16 + _
    rw [hexN_succ s n (i + 1)]
    rw [show i + 1 + n = i + (n + 1) by omega]
theorem hexN_lt {s : ByteArray} {i : Nat} : ∀ n, (∀ j < n, hexD (byt s (i + j)) = true) → hexN s n i 0 < 16 ^ n
  | 0, _ => by simp [hexN]
  | n + 1, h => by
    have h1 := hexN_lt n fun j hj => h j (by omega)
    have h2 := hexV_lt (h n (by omega))
    rw [hexN_succ, Nat.pow_succ]
    omega

theorem lower_met (c : Nat) (h : 97 ≤ c ∧ c ≤ 102) (w : World) : Calls Tryd.prog 78 #[.int .u8 (c : Int)] w fun e w' => e = .returned (.int .u8 (c : Int)) ∧ w' = w := by
  have : c = 97 ∨ c = 98 ∨ c = 99 ∨ c = 100 ∨ c = 101 ∨ c = 102 := by omega
  rcases this with rfl | rfl | rfl | rfl | rfl | rfl
  all_goals go_enter Tryd.func78, Tryd.ntmps78
  all_goals go_wp2
  all_goals go_ret
  all_goals exact ⟨rfl, rfl⟩

set_option maxRecDepth 100000 in
theorem hex_met (c : Nat) (h : hexD c = true) (w : World) : Calls Tryd.prog 64 #[.int .u8 (c : Int)] w fun e w' => e = .returned (.bool true) ∧ w' = w := by
  rcases hexD_cases h with h1 | h1
  · have a1 : (48 : Int) ≤ (c : Int) := by omega
    have a2 : (c : Int) ≤ 57 := by omega
    go_enter Tryd.func64, Tryd.ntmps64
    go_wp2
    go_ret
    exact ⟨rfl, rfl⟩
  · have a1 : (48 : Int) ≤ (c : Int) := by omega
    have a2 : ¬ (c : Int) ≤ 57 := by omega
    have a3 : (97 : Int) ≤ (c : Int) := by omega
    have a4 : (c : Int) ≤ 102 := by omega
    go_enter Tryd.func64, Tryd.ntmps64
    go_wp2
    go_ret
    exact ⟨rfl, rfl⟩

structure Fp (xs : Array Value) (b cap : Nat) : Prop where
  sz : xs.size = 172
  h1 : ∀ h : 1 < xs.size, xs[1] = .int .i64 16
  h8 : ∀ h : 8 < xs.size, xs[8] = .bool false
  h10 : ∀ h : 10 < xs.size, xs[10] = .int .u64 1152921504606846976
  h11 : ∀ h : 11 < xs.size, xs[11] = .int .u64 4294967295
  h12 : ∀ h : 12 < xs.size, xs[12] = .bool false
  h99 : ∀ h : 99 < xs.size, xs[99] = .slice (some ⟨b, 0, none⟩) 6 cap
  h100 : ∀ h : 100 < xs.size, xs[100] = .int .i64 6
theorem Fp.set {xs : Array Value} {b cap : Nat} (h : Fp xs b cap) (d : Nat) (v : Value) (hd : (d ≠ 1 ∧ d ≠ 8) ∧ (d ≠ 10 ∧ d ≠ 11) ∧ (d ≠ 12 ∧ d ≠ 99) ∧ d ≠ 100) : Fp (xs.setIfInBounds d v) b cap where
  sz := by simp [h.sz]
  h1 := Sl.ne (show Sl xs 1 _ from h.h1) hd.1.1
  h8 := Sl.ne (show Sl xs 8 _ from h.h8) hd.1.2
  h10 := Sl.ne (show Sl xs 10 _ from h.h10) hd.2.1.1
  h11 := Sl.ne (show Sl xs 11 _ from h.h11) hd.2.1.2
  h12 := Sl.ne (show Sl xs 12 _ from h.h12) hd.2.2.1.1
  h99 := Sl.ne (show Sl xs 99 _ from h.h99) hd.2.2.1.2
  h100 := Sl.ne (show Sl xs 100 _ from h.h100) hd.2.2.2

theorem Fp.of {xs : Array Value} {b cap : Nat} (sz : xs.size = 172) (h1 : Sl xs 1 (.int .i64 16)) (h8 : Sl xs 8 (.bool false)) (h10 : Sl xs 10 (.int .u64 1152921504606846976)) (h11 : Sl xs 11 (.int .u64 4294967295)) (h12 : Sl xs 12 (.bool false))
    (h99 : Sl xs 99 (.slice (some ⟨b, 0, none⟩) 6 cap)) (h100 : Sl xs 100 (.int .i64 6)) : Fp xs b cap := ⟨sz, h1, h8, h10, h11, h12, h99, h100⟩

noncomputable def puBody : Code := (Tryd.f73.body.bind firstLoop).getD .skip

set_option maxRecDepth 100000 in
set_option maxHeartbeats 4000000 in
theorem pu_round {b cap i v c : Nat} {w : World} {xs : Array Value} (hf : Fp xs b cap) (h13 : Sl xs 13 (.int .u64 (v : Int))) (h101 : Sl xs 101 (.int .i64 (i : Int))) (hi : i ≤ 6) (hv : v < 16777216)
    (hcell : i < 6 → w.cell? ⟨b, i, none⟩ = some (.int .u8 (c : Int)) ∧ hexD c = true) {Q : Exit → Act → World → Prop}
    (hnext : ∀ xs, i < 6 → Fp xs b cap → Sl xs 13 (.int .u64 ((v : Int) * 16 + (hexV c : Int))) → Sl xs 101 (.int .i64 ((i : Int) + 1)) → Q .normal ⟨xs, []⟩ w)
    (hout : ∀ xs, i = 6 → Fp xs b cap → Sl xs 13 (.int .u64 (v : Int)) → Q (.exit 3) ⟨xs, []⟩ w) : Code.wp Tryd.prog puBody Q ⟨xs, []⟩ w := by
  have HF := Lib.hid hf
  have HN := Lib.hid hnext
  have HO := Lib.hid hout
  clear hnext hout
  obtain ⟨sz, g1, g8, g10, g11, g12, g99, g100⟩ := hf
  have H13 := Lib.hid h13
  unfold Sl at h13 h101
  by_cases hlt : i < 6
  · obtain ⟨hc, hx⟩ := hcell hlt
    clear hcell
    have b1 : (i : Int) < 6 := by omega
    have w1 : IntKind.i64.wrap ((i : Int) + 1) = (i : Int) + 1 := by rw [IntKind.wrap_i64]; omega
    have w2 : IntKind.u64.wrap ((v : Int) * 16) = (v : Int) * 16 := by rw [IntKind.wrap_u64]; omega
    have hvx := hexV_lt hx
    have w3 : IntKind.u64.wrap ((v : Int) * 16 + (hexV c : Int)) = (v : Int) * 16 + (hexV c : Int) := by rw [IntKind.wrap_u64]; omega
    have c1 : ¬ (1152921504606846976 : Int) ≤ (v : Int) := by omega
    have c2 : ¬ (v : Int) * 16 + (hexV c : Int) < (v : Int) * 16 := by omega
    have c3 : ¬ (4294967295 : Int) < (v : Int) * 16 + (hexV c : Int) := by omega
    have c4 : ¬ (16 : Int) ≤ (hexV c : Int) := by omega
    rcases hexD_cases hx with h1 | h1
    · have a1 : (48 : Int) ≤ (c : Int) := by omega
      have a2 : (c : Int) ≤ 57 := by omega
      have a3 : ((c : Int) == 95) = false := by rw [beq_eq_false_iff_ne]; omega
      have w4 : IntKind.u8.wrap ((c : Int) - 48) = (hexV c : Int) := by rw [IntKind.wrap_u8]; unfold hexV; rw [if_pos h1.2]; omega
      have w5 : IntKind.u64.wrap (hexV c : Int) = (hexV c : Int) := by rw [IntKind.wrap_u64]; omega
      generalize hexV c = x at *
      conv => arg 2; whnf
      repeat (first | go_skip | go_guarded | ((with_reducible refine wp_cond_true ?_ ?_); focus (simp [Act.eval, sz]; done)) | ((with_reducible refine wp_cond_false ?_ ?_); focus (simp [Act.eval, sz]; done)) | ((fail_if_success (with_reducible refine wp_cond_true ?_ ?_)); go_step) | go_upon)
      exact HN.out _ hlt (by repeat (first | (with_reducible exact HF.out) | (with_reducible refine Fp.set ?_ _ _ (by decide)))) (by repeat (first | (with_reducible exact Sl.same _) | (with_reducible exact HF.out) | (with_reducible refine Sl.ne ?_ (by decide)))) (by repeat (first | (with_reducible exact Sl.same _) | (with_reducible exact HF.out) | (with_reducible refine Sl.ne ?_ (by decide))))
    · have a1 : (48 : Int) ≤ (c : Int) := by omega
      have a2 : ¬ (c : Int) ≤ 57 := by omega
      have a3 : ((c : Int) == 95) = false := by rw [beq_eq_false_iff_ne]; omega
      have a4 : (97 : Int) ≤ (c : Int) := by omega
      have a5 : (c : Int) ≤ 122 := by omega
      have w4 : (c : Int) - 97 + 10 = (hexV c : Int) := by unfold hexV; rw [if_neg (by omega)]; omega
      have w5 : IntKind.u64.wrap (hexV c : Int) = (hexV c : Int) := by rw [IntKind.wrap_u64]; omega
      generalize hexV c = x at *
      conv => arg 2; whnf
      repeat (first | go_skip | go_guarded | ((with_reducible refine wp_cond_true ?_ ?_); focus (simp [Act.eval, sz]; done)) | ((with_reducible refine wp_cond_false ?_ ?_); focus (simp [Act.eval, sz]; done)) | ((fail_if_success (with_reducible refine wp_cond_true ?_ ?_)); go_step) | go_upon)
      refine (lower_met c h1 _).mono ?_
      rintro e w' ⟨rfl, rfl⟩
      go_simp
      repeat (first | go_skip | go_guarded | ((with_reducible refine wp_cond_true ?_ ?_); focus (simp [Act.eval, sz]; done)) | ((with_reducible refine wp_cond_false ?_ ?_); focus (simp [Act.eval, sz]; done)) | ((fail_if_success (with_reducible refine wp_cond_true ?_ ?_)); go_step) | go_upon)
      refine (lower_met c h1 _).mono ?_
      rintro e w' ⟨rfl, rfl⟩
      go_simp
      repeat (first | go_skip | go_guarded | ((with_reducible refine wp_cond_true ?_ ?_); focus (simp [Act.eval, sz]; done)) | ((with_reducible refine wp_cond_false ?_ ?_); focus (simp [Act.eval, sz]; done)) | ((fail_if_success (with_reducible refine wp_cond_true ?_ ?_)); go_step) | go_upon)
      refine (lower_met c h1 _).mono ?_
      rintro e w' ⟨rfl, rfl⟩
      go_simp
      repeat (first | go_skip | go_guarded | ((with_reducible refine wp_cond_true ?_ ?_); focus (simp [Act.eval, sz]; done)) | ((with_reducible refine wp_cond_false ?_ ?_); focus (simp [Act.eval, sz]; done)) | ((fail_if_success (with_reducible refine wp_cond_true ?_ ?_)); go_step) | go_upon)
      exact HN.out _ hlt (by repeat (first | (with_reducible exact HF.out) | (with_reducible refine Fp.set ?_ _ _ (by decide)))) (by repeat (first | (with_reducible exact Sl.same _) | (with_reducible exact HF.out) | (with_reducible refine Sl.ne ?_ (by decide)))) (by repeat (first | (with_reducible exact Sl.same _) | (with_reducible exact HF.out) | (with_reducible refine Sl.ne ?_ (by decide))))
  · have b1 : ¬ (i : Int) < 6 := by omega
    clear hcell
    conv => arg 2; whnf
    repeat (first | go_skip | go_guarded | ((with_reducible refine wp_cond_true ?_ ?_); focus (simp [Act.eval, sz]; done)) | ((with_reducible refine wp_cond_false ?_ ?_); focus (simp [Act.eval, sz]; done)) | ((fail_if_success (with_reducible refine wp_cond_true ?_ ?_)); go_step) | go_upon)
    exact HO.out _ (by omega) (by repeat (first | (with_reducible exact HF.out) | (with_reducible refine Fp.set ?_ _ _ (by decide)))) (by repeat (first | (with_reducible exact Sl.same _) | (with_reducible exact H13.out) | (with_reducible refine Sl.ne ?_ (by decide))))

theorem bytesRow_get {s : ByteArray} {cap i : Nat} (h : i < s.size) : (bytesRow s cap)[i]? = some (.int .u8 ((byt s i : Nat) : Int)) := by
  unfold bytesRow
  have h2 : i < s.data.size := h
  rw [Array.getElem?_append_left (by simpa using h2), Array.getElem?_map, Array.getElem?_eq_getElem h2]
  simp only [byt, h, dif_pos, Option.map_some]
  rfl

set_option maxRecDepth 100000 in
set_option maxHeartbeats 4000000 in
theorem pu_all {s : ByteArray} (h6 : s.size = 6) (hd : ∀ i < 6, hexD (byt s i) = true) {w : World} {xs : Array Value} (hsz : xs.size = 172) (h0 : Sl xs 0 (.string s)) (h1 : Sl xs 1 (.int .i64 16)) (h2 : Sl xs 2 (.int .i64 32))
    {Q : Exit → Act → World → Prop} (hQ : ∀ xs w', xs.size = 172 → Sl xs 6 (.int .u64 (hexN s 6 0 0 : Nat)) → Sl xs 7 .nilIface → Below w.heap.size w w' → Q .ret ⟨xs, []⟩ w') :
    Code.wp Tryd.prog (Tryd.f73.body.getD .skip) Q ⟨xs, []⟩ w := by
  have hne : (s.toList == []) = false := by
    rw [beq_eq_false_iff_ne]
    intro hc
    rw [ByteArray.toList_eq] at hc
    have h7 : s.data.toList.length = s.size := by rw [Array.length_toList]; rfl
    rw [hc, h6] at h7
    cases h7
  have hcv := run_bytes_of_string (P := Tryd.prog) w 9 23 5 s Tryd.underlying9 Tryd.underlying23 Tryd.underlying5
  rw [h6] at hcv
  generalize hcap : grownCap w 6 0 5 = cap at hcv
  obtain ⟨w2, hw2⟩ : ∃ w2, w2 = w.drew.alloc (.cells (bytesRow s cap) 5 ((bytesRow s cap).size, (bytesRow s cap).size + 1)) := ⟨_, rfl⟩
  rw [← hw2] at hcv
  have hb2 : Below w.heap.size w w2 := by rw [hw2]; exact ((Below.refl _ w).drew).alloc (Nat.le_refl _) _
  have hcells : ∀ i, i < 6 → w2.cell? ⟨w.heap.size, i, none⟩ = some (.int .u8 ((byt s i : Nat) : Int)) := fun i hi => by
    have := heap_alloc_new w.drew (.cells (bytesRow s cap) 5 ((bytesRow s cap).size, (bytesRow s cap).size + 1))
    rw [← hw2] at this
    have hs : w.drew.heap.size = w.heap.size := rfl
    rw [hs] at this
    simp only [World.cell?, this]
    simp [bytesRow_get (cap := cap) (by rw [h6]; exact hi : i < s.size)]
  clear hw2 hcap
  have HB := Lib.hid hb2
  have HQ := Lib.hid hQ
  have H1 := Lib.hid h1
  have HC := Lib.hid hcells
  have HD := Lib.hid hd
  have HS := Lib.hid hsz
  have sz := hsz
  clear hQ hb2 hcells hd
  unfold Sl at h0 h1 h2
  conv => arg 2; whnf
  repeat (first | go_skip | go_guarded | ((with_reducible refine wp_cond_true ?_ ?_); focus (simp [Act.eval, sz]; done)) | ((with_reducible refine wp_cond_false ?_ ?_); focus (simp [Act.eval, sz]; done)) | ((fail_if_success (with_reducible refine wp_cond_true ?_ ?_)); go_step) | go_upon)
  refine wp_of_eq (c := Code.loop puBody) (by kernel_rfl) ?_
  refine wp_loop_ghost (fun n a w' => ∃ (xs : Array Value) (i : Nat), a = ⟨xs, []⟩ ∧ Fp xs w.heap.size cap ∧ Sl xs 13 (.int .u64 ((hexN s i 0 0 : Nat) : Int)) ∧ Sl xs 101 (.int .i64 (i : Int)) ∧ i ≤ 6 ∧ n = 6 - i ∧ w' = w2) 6
    ⟨_, 0, rfl, Fp.of (by simp [HS.out]) (by repeat (first | (with_reducible exact Sl.same _) | (with_reducible exact H1.out) | (with_reducible refine Sl.ne ?_ (by decide)))) (by repeat (first | (with_reducible exact Sl.same _) | (with_reducible exact H1.out) | (with_reducible refine Sl.ne ?_ (by decide)))) (by repeat (first | (with_reducible exact Sl.same _) | (with_reducible exact H1.out) | (with_reducible refine Sl.ne ?_ (by decide)))) (by repeat (first | (with_reducible exact Sl.same _) | (with_reducible exact H1.out) | (with_reducible refine Sl.ne ?_ (by decide)))) (by repeat (first | (with_reducible exact Sl.same _) | (with_reducible exact H1.out) | (with_reducible refine Sl.ne ?_ (by decide)))) (by repeat (first | (with_reducible exact Sl.same _) | (with_reducible exact H1.out) | (with_reducible refine Sl.ne ?_ (by decide)))) (by repeat (first | (with_reducible exact Sl.same _) | (with_reducible exact H1.out) | (with_reducible refine Sl.ne ?_ (by decide)))), (show Sl _ 13 (.int .u64 0) from (by repeat (first | (with_reducible exact Sl.same _) | (with_reducible exact H1.out) | (with_reducible refine Sl.ne ?_ (by decide))))), (show Sl _ 101 (.int .i64 0) from (by repeat (first | (with_reducible exact Sl.same _) | (with_reducible exact H1.out) | (with_reducible refine Sl.ne ?_ (by decide))))), by omega, rfl, rfl⟩ ?_
  rintro n a w' ⟨xs', i, rfl, hf, h13, h101, hi, hn, rfl⟩
  have hlt : hexN s i 0 0 < 16777216 := by
    have h := hexN_lt (s := s) (i := 0) i (fun j hj => by rw [Nat.zero_add]; exact HD.out j (by omega))
    exact Nat.lt_of_lt_of_le h (Nat.le_trans (Nat.pow_le_pow_right (by decide) hi) (by decide : 16 ^ 6 ≤ 16777216))
  refine pu_round hf h13 h101 hi hlt (c := byt s i) (fun h => ⟨HC.out i h, HD.out i h⟩) ?_ ?_
  · intro xs2 hlt hf2 h13' h101'
    refine ⟨6 - (i + 1), by omega, xs2, i + 1, rfl, hf2, ?_, by simpa using h101', by omega, rfl, rfl⟩
    have e := hexN_succ s i 0 0
    rw [Nat.zero_add] at e
    rw [e]; simpa using h13'
  · intro xs2 hi6 hf2 h13'
    subst hi6
    have sz2 := hf2.sz
    have sz := sz2
    obtain ⟨_, _, _, _, _, g12, _, _⟩ := hf2
    have H13 := Lib.hid h13'
    have hk : ∀ h : 13 < xs2.size, xs2[13] = Value.int IntKind.u64 ((hexN s 6 0 0 : Nat) : Int) := h13'
    clear h13' h13 hlt
    repeat (first | go_skip | go_guarded | ((with_reducible refine wp_cond_true ?_ ?_); focus (simp [Act.eval, sz]; done)) | ((with_reducible refine wp_cond_false ?_ ?_); focus (simp [Act.eval, sz]; done)) | ((fail_if_success (with_reducible refine wp_cond_true ?_ ?_)); go_step) | go_upon)
    exact HQ.out _ _ (by simp [sz2]) (by repeat (first | (with_reducible exact Sl.same _) | (with_reducible exact H13.out) | (with_reducible refine Sl.ne ?_ (by decide)))) (by repeat (first | (with_reducible exact Sl.same _) | (with_reducible exact H13.out) | (with_reducible refine Sl.ne ?_ (by decide)))) HB.out

set_option maxRecDepth 100000 in
theorem parseUint16 {s : ByteArray} (h6 : s.size = 6) (hd : ∀ i < 6, hexD (byt s i) = true) (w : World) :
    Calls Tryd.prog 73 #[.string s, .int .i64 16, .int .i64 32] w fun e w' => e = .returned (.tuple #[.int .u64 (hexN s 6 0 0 : Nat), .nilIface]) ∧ Below w.heap.size w w' := by
  go_enter Tryd.func73, Tryd.ntmps73
  refine wp_of_eq (c := Tryd.f73.body.getD .skip) (by kernel_rfl) ?_
  refine pu_all h6 hd (by simp) (fun _ => by simp) (fun _ => by simp) (fun _ => by simp) ?_
  intro xs w' sz h6 h7 hb
  have e6 := h6 (by rw [sz]; decide)
  have e7 := h7 (by rw [sz]; decide)
  refine bodyPost_ret_by (v := .tuple #[.int .u64 (hexN s 6 0 0 : Nat), .nilIface]) ?_ rfl ⟨rfl, hb⟩
  simp only [results, show Tryd.f73.results = #[.tmp 6, .tmp 7] from rfl] <;> go_simp

theorem wrap64_small {v : Nat} (h : v < 16777216) : IntKind.i64.wrap (v : Int) = (v : Int) := by rw [IntKind.wrap_i64]; omega

set_option maxRecDepth 100000 in
set_option maxHeartbeats 2000000 in
theorem parseInt16 {s : ByteArray} (h6 : s.size = 6) (hd : ∀ i < 6, hexD (byt s i) = true) (w : World) :
    Calls Tryd.prog 71 #[.string s, .int .i64 16, .int .i64 32] w fun e w' => e = .returned (.tuple #[.int .i64 (hexN s 6 0 0 : Nat), .nilIface]) ∧ Below w.heap.size w w' := by
  have hne : (s.toList == []) = false := by
    rw [beq_eq_false_iff_ne]
    intro hc
    rw [ByteArray.toList_eq] at hc
    have h7 : s.data.toList.length = s.size := by rw [Array.length_toList]; rfl
    rw [hc, h6] at h7
    cases h7
  have hv := hexN_lt (s := s) (i := 0) 6 (fun j hj => by rw [Nat.zero_add]; exact hd j (by omega))
  have hlt : 0 < s.size := by omega
  have hi0 : ((s[0]'hlt).toNat : Int) = ((byt s 0 : Nat) : Int) := by simp [byt, hlt]
  have hx := hexD_cases (hd 0 (by omega))
  have a1 : (((s[0]'hlt).toNat : Int) == 43) = false := by rw [hi0, beq_eq_false_iff_ne]; omega
  have a2 : (((s[0]'hlt).toNat : Int) == 45) = false := by rw [hi0, beq_eq_false_iff_ne]; omega
  have HV := fun w => parseUint16 h6 hd w
  clear hi0 hx
  generalize hexN s 6 0 0 = v at *
  have hv' : v < 16777216 := hv
  have a3 : ¬ (2147483648 : Int) ≤ (v : Int) := by omega
  have a4 := wrap64_small hv'
  have HV := Lib.hid HV
  clear hv hv' hd
  have hz : (0 : Int) < (s.size : Int) := by omega
  clear h6
  go_enter Tryd.func71, Tryd.ntmps71
  (repeat go_step)
  refine (HV.out _).mono ?_
  rintro e w2 ⟨rfl, hb⟩
  have HB := Lib.hid hb
  clear hb HV
  go_simp
  (repeat (first | go_step | go_skip))
  refine bodyPost_ret_by (v := .tuple #[.int .i64 (v : Int), .nilIface]) ?_ rfl ⟨rfl, HB.out⟩
  simp only [results, show Tryd.f71.results = #[.tmp 6, .tmp 7] from rfl] <;> go_simp

set_option maxRecDepth 100000 in
set_option maxHeartbeats 2000000 in
theorem ParseInt16 {s : ByteArray} (h6 : s.size = 6) (hd : ∀ i < 6, hexD (byt s i) = true) (w : World) :
    Calls Tryd.prog 65 #[.string s, .int .i64 16, .int .i64 32] w fun e w' => e = .returned (.tuple #[.int .i64 (hexN s 6 0 0 : Nat), .nilIface]) ∧ Below w.heap.size w w' := by
  have HV := Lib.hid fun w => parseInt16 h6 hd w
  generalize hexN s 6 0 0 = v at *
  clear h6 hd
  go_enter Tryd.func65, Tryd.ntmps65
  (repeat go_step)
  refine (HV.out _).mono ?_
  rintro e w2 ⟨rfl, hb⟩
  have HB := Lib.hid hb
  clear hb HV
  go_simp
  (repeat (first | go_step | go_skip))
  refine bodyPost_ret_by (v := .tuple #[.int .i64 (v : Int), .nilIface]) ?_ rfl ⟨rfl, HB.out⟩
  simp only [results, show Tryd.f65.results = #[.tmp 6, .tmp 7] from rfl] <;> go_simp

end Go.Proofs.YtlanodchnjojoaaDoor
