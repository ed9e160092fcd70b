/- The five patterns of the law PatternSoon: how they are read, and what Find finds of them in a text of a's, with or without a b at its end. -/
import Derived.Test.YtlanodchnjojoaaDoorSw
namespace Go.Proofs.YtlanodchnjojoaaDoor
open Go.RowKit

/-- What Find does from such a world on. -/
def SoonFinds (pb i least : Nat) (w : World) : Prop :=
  ∀ w', w.heap.size ≤ w'.heap.size → Below w.heap.size w w' → ∀ n, n ≤ 3000 →
    Calls Tryd.prog 7 #[.pointer (some ⟨pb, 0, none⟩), .string (aS n), .int .i64 0] w' (fun e w2 => e = .returned (.tuple #[matchV 0 0 (.slice none 0 0), .int .i64 4]) ∧ Below w'.heap.size w' w2) ∧
    Calls Tryd.prog 7 #[.pointer (some ⟨pb, 0, none⟩), .string (aS n ++ bS), .int .i64 0] w' (fun e w2 =>
      ((n < least ∧ e = .returned (.tuple #[matchV 0 0 (.slice none 0 0), .int .i64 4])) ∨
       (least ≤ n ∧ ∃ x a m c, e = .returned (.tuple #[matchV x (n + 1) (.slice a m c), .int .i64 0]) ∧ (i ≠ 3 → x = 0))) ∧ Below w'.heap.size w' w2)

def Soon (s : ByteArray) (i least : Nat) (w : World) : Prop :=
  Calls Tryd.prog 6 #[.string s] w fun e w' => (∃ pb, e = .returned (.tuple #[.pointer (some ⟨pb, 0, none⟩), .agg #[.int .i64 0, .int .i64 0]]) ∧ SoonFinds pb i least w') ∧ Below w.heap.size w w'

theorem soon_of {s : ByteArray} {i least : Nat} {w : World} {C : List Step} {ng nl S : Nat} {need : Nat → Nat} {fin : Nat → Bool}
    (hc : Calls Tryd.prog 6 #[.string s] w fun e w' => (∃ pb cb cap, e = .returned (.tuple #[.pointer (some ⟨pb, 0, none⟩), .agg #[.int .i64 0, .int .i64 0]]) ∧ PatAt w'.heap.size w' pb cb cap C ng nl S) ∧ Below w.heap.size w w')
    (wf : WF C ng nl S) (hk : chkA C need fin least = true) (hw : ∀ n, least ≤ n → ∃ k, Way C (pieces (aS n ++ bS)) k (n + 1) ∧ (i ≠ 3 → k = 0)) : Soon s i least w := by
  refine hc.mono ?_
  rintro e w1 ⟨⟨pb, cb, cap, rfl, hp⟩, hb⟩
  refine ⟨⟨pb, rfl, fun w' hs hb' n hn => ?_⟩, hb⟩
  have hp' := hp.up hs hb'
  have hac : ∀ (s : ByteArray), (∀ p ∈ pieces s, simple p) → ∀ st ∈ C, st.dO = 0 → st.what = 0 ∨ (st.what = 1 ∧ ∀ p ∈ pieces s, simple p) := fun s hs st hst h0 => by
    obtain ⟨pc, hpc⟩ := List.getElem?_of_mem hst
    rcases wf.act pc st hpc with h | h | h | h | h | h | h
    · have := h.2.1
      by_cases h1 : st.what = 0
      · exact .inl h1
      · exact .inr ⟨by omega, hs⟩
    all_goals (exfalso; omega)
  refine ⟨(Find_met hp' wf (aS n) (by rw [aS_size]; omega) (hac _ (aS_simple n))).mono ?_, (Find_met hp' wf (aS n ++ bS) (by rw [abS_size]; omega) (hac _ (abS_simple n))).mono ?_⟩
  · rintro e w2 ⟨hF, hb2⟩
    refine ⟨?_, hb2⟩
    rcases hF with ⟨k, t, a, m, c, _, _, _, hW, _⟩ | ⟨_, he⟩
    · exact ((aS_AA n).noEnd (chk_way hk hW).2).elim
    · exact he
  · rintro e w2 ⟨hF, hb2⟩
    refine ⟨?_, hb2⟩
    rcases hF with ⟨k, t, a, m, c, hk1, ht1, hl, hW, he⟩ | ⟨hno, he⟩
    · right
      obtain ⟨h1, h2⟩ := chk_way hk hW
      have ht := (abS_AB n).end_ h2
      subst ht
      have hle : least ≤ n := by omega
      refine ⟨hle, plcS (aS n ++ bS) k, a, m, c, ?_, fun h3 => ?_⟩
      · rw [he, plcS_asc (abS_asc n) (k := n + 1) (by rw [abS_size]; omega)]
      · obtain ⟨k0, hW0, hk0⟩ := hw n hle
        have := hk0 h3
        subst this
        have hk00 : k = 0 := by
          cases k with
          | zero => rfl
          | succ k => exact (hl 0 (by omega) _ hW0).elim
        subst hk00
        exact plcS_asc (abS_asc n) (Nat.zero_le _)
    · left
      refine ⟨?_, he⟩
      by_cases hle : least ≤ n
      · obtain ⟨k0, hW0, _⟩ := hw n hle
        have hk0 : k0 ≤ (pieces (aS n ++ bS)).length := by
          have := (chk_way hk hW0).1
          rw [pieces_asc_length (abS_asc n), abS_size]; omega
        exact (hno k0 hk0 _ hW0).elim
      · omega


def x0 : ByteArray := ⟨#[40, 97, 124, 97, 41, 42, 98]⟩
def T0 : T := (.cons (.lst (.cons (.pg 1 (.cons (.lst (.cons (.pl 0 97 1 (1) 1) .nil)) (.cons (.lst (.cons (.pl 0 97 1 (1) 1) .nil)) .nil)) 0 (-1) 3) (.cons (.pl 0 98 1 (1) 1) .nil))) .nil)
def C0 : List Step := [⟨2, 0, 0, 0, 1, 9, [], 0⟩, ⟨6, 0, 0, 0, 0, 0, [], 1⟩, ⟨4, 0, 0, 1, 0, 0, [0], 2⟩, ⟨2, 0, 0, 0, 4, 6, [0], 4⟩, ⟨0, 0, 97, 0, 0, 0, [0], 6⟩, ⟨3, 0, 0, 0, 7, 0, [0], 8⟩, ⟨0, 0, 97, 0, 0, 0, [0], 10⟩, ⟨5, 0, 0, 1, 0, 0, [0], 12⟩, ⟨7, 0, 0, 0, 0, 0, [0], 14⟩, ⟨0, 0, 98, 0, 0, 0, [], 16⟩, ⟨8, 0, 0, 0, 0, 0, [], 17⟩]
def N0 : List Nat := [0, 0, 0, 0, 0, 1, 0, 1, 1, 0, 1]
theorem parse0 : pB x0 4 ⟨0, 0, 0⟩ = some (T0, 4, ⟨7, 1, 4⟩) := by kernel_rfl
theorem code0 : theCode T0 = C0 := by kernel_rfl
theorem wf0 : WF C0 1 1 18 := by
  have h := wf_of (C0 := (lay T0).code) (ng := 1) (nl := 1) (by kernel_rfl)
  rw [show bases (lay T0).code 0 = C0 by kernel_rfl, show total (lay T0).code = 18 by kernel_rfl] at h
  exact h
theorem check0 : chkA C0 (fun pc => N0[pc]?.getD 0) (fun pc => decide (pc = 10)) 0 = true := by kernel_rfl
theorem way0 {ps : List Pc} {n : Nat} (h : AB ps n) (hd : 0 ≤ n) : Way C0 ps 0 (n + 1) :=
  way_loop (pre := []) (round := [0, 0, 0, 1, 0, 0, 0]) (ex := [1, 0]) (L := 0) (c := 0) (po := 10) (co := 0) (by kernel_rfl) (by kernel_rfl) (by kernel_rfl) ⟨_, rfl, rfl⟩ h hd
theorem comp0 (w : World) : Calls Tryd.prog 6 #[.string x0] w fun e w' => (∃ pb cb cap, e = .returned (.tuple #[.pointer (some ⟨pb, 0, none⟩), .agg #[.int .i64 0, .int .i64 0]]) ∧ PatAt w'.heap.size w' pb cb cap C0 1 1 18) ∧ Below w.heap.size w w' := by
  have h := compile_met (asc_of x0 (by decide)) (by decide) parse0 rfl (by decide) (Nat.le_of_ble_eq_true (by kernel_rfl)) (Nat.le_of_ble_eq_true (by kernel_rfl)) (Nat.le_of_ble_eq_true (by kernel_rfl)) w
  rw [code0, show (lay T0).loops = 1 by kernel_rfl, show total (lay T0).code = 18 by kernel_rfl] at h
  exact h
theorem soon0 (w : World) : Soon x0 0 0 w := soon_of (comp0 w) wf0 check0 (fun n hn => ⟨0, way0 (abS_AB n) hn, fun _ => rfl⟩)

def x1 : ByteArray := ⟨#[40, 97, 42, 41, 42, 98]⟩
def T1 : T := (.cons (.lst (.cons (.pg 1 (.cons (.lst (.cons (.pl 0 97 0 (-1) 1) .nil)) .nil) 0 (-1) 2) (.cons (.pl 0 98 1 (1) 1) .nil))) .nil)
def C1 : List Step := [⟨2, 0, 0, 0, 1, 9, [], 0⟩, ⟨6, 0, 0, 0, 0, 0, [], 1⟩, ⟨4, 0, 0, 1, 0, 0, [0], 2⟩, ⟨2, 0, 0, 0, 4, 7, [0], 4⟩, ⟨6, 0, 0, 1, 0, 0, [0], 6⟩, ⟨0, 0, 97, 0, 0, 0, [0, 1], 8⟩, ⟨7, 0, 0, 1, 3, 0, [0, 1], 11⟩, ⟨5, 0, 0, 1, 0, 0, [0], 14⟩, ⟨7, 0, 0, 0, 0, 0, [0], 16⟩, ⟨0, 0, 98, 0, 0, 0, [], 18⟩, ⟨8, 0, 0, 0, 0, 0, [], 19⟩]
def N1 : List Nat := [0, 0, 0, 0, 0, 0, 1, 0, 0, 0, 1]
theorem parse1 : pB x1 4 ⟨0, 0, 0⟩ = some (T1, 3, ⟨6, 1, 3⟩) := by kernel_rfl
theorem code1 : theCode T1 = C1 := by kernel_rfl
theorem wf1 : WF C1 1 2 20 := by
  have h := wf_of (C0 := (lay T1).code) (ng := 1) (nl := 2) (by kernel_rfl)
  rw [show bases (lay T1).code 0 = C1 by kernel_rfl, show total (lay T1).code = 20 by kernel_rfl] at h
  exact h
theorem check1 : chkA C1 (fun pc => N1[pc]?.getD 0) (fun pc => decide (pc = 10)) 0 = true := by kernel_rfl
theorem way1 {ps : List Pc} {n : Nat} (h : AB ps n) (hd : 0 ≤ n) : Way C1 ps 0 (n + 1) :=
  way_loop (pre := []) (round := [0, 0, 0, 0, 0, 0, 0, 1, 0, 0]) (ex := [1, 0]) (L := 0) (c := 0) (po := 10) (co := 0) (by kernel_rfl) (by kernel_rfl) (by kernel_rfl) ⟨_, rfl, rfl⟩ h hd
theorem comp1 (w : World) : Calls Tryd.prog 6 #[.string x1] w fun e w' => (∃ pb cb cap, e = .returned (.tuple #[.pointer (some ⟨pb, 0, none⟩), .agg #[.int .i64 0, .int .i64 0]]) ∧ PatAt w'.heap.size w' pb cb cap C1 1 2 20) ∧ Below w.heap.size w w' := by
  have h := compile_met (asc_of x1 (by decide)) (by decide) parse1 rfl (by decide) (Nat.le_of_ble_eq_true (by kernel_rfl)) (Nat.le_of_ble_eq_true (by kernel_rfl)) (Nat.le_of_ble_eq_true (by kernel_rfl)) w
  rw [code1, show (lay T1).loops = 2 by kernel_rfl, show total (lay T1).code = 20 by kernel_rfl] at h
  exact h
theorem soon1 (w : World) : Soon x1 1 0 w := soon_of (comp1 w) wf1 check1 (fun n hn => ⟨0, way1 (abS_AB n) hn, fun _ => rfl⟩)

def x2 : ByteArray := ⟨#[40, 40, 97, 124, 97, 97, 41, 43, 41, 43, 98]⟩
def T2 : T := (.cons (.lst (.cons (.pg 1 (.cons (.lst (.cons (.pg 2 (.cons (.lst (.cons (.pl 0 97 1 (1) 1) .nil)) (.cons (.lst (.cons (.pl 0 97 1 (1) 1) (.cons (.pl 0 97 1 (1) 1) .nil))) .nil)) 1 (-1) 8) .nil)) .nil) 1 (-1) 18) (.cons (.pl 0 98 1 (1) 1) .nil))) .nil)
def C2 : List Step := [⟨4, 0, 0, 1, 0, 0, [], 0⟩, ⟨4, 0, 0, 2, 0, 0, [], 1⟩, ⟨2, 0, 0, 0, 3, 5, [], 2⟩, ⟨0, 0, 97, 0, 0, 0, [], 3⟩, ⟨3, 0, 0, 0, 7, 0, [], 4⟩, ⟨0, 0, 97, 0, 0, 0, [], 5⟩, ⟨0, 0, 97, 0, 0, 0, [], 6⟩, ⟨5, 0, 0, 2, 0, 0, [], 7⟩, ⟨2, 0, 0, 0, 9, 18, [], 8⟩, ⟨6, 0, 0, 0, 0, 0, [], 9⟩, ⟨4, 0, 0, 2, 0, 0, [0], 10⟩, ⟨2, 0, 0, 0, 12, 14, [0], 12⟩, ⟨0, 0, 97, 0, 0, 0, [0], 14⟩, ⟨3, 0, 0, 0, 16, 0, [0], 16⟩, ⟨0, 0, 97, 0, 0, 0, [0], 18⟩, ⟨0, 0, 97, 0, 0, 0, [0], 20⟩, ⟨5, 0, 0, 2, 0, 0, [0], 22⟩, ⟨7, 0, 0, 0, 8, 0, [0], 24⟩, ⟨5, 0, 0, 1, 0, 0, [], 26⟩, ⟨2, 0, 0, 0, 20, 41, [], 27⟩, ⟨6, 0, 0, 1, 0, 0, [], 28⟩, ⟨4, 0, 0, 1, 0, 0, [1], 29⟩, ⟨4, 0, 0, 2, 0, 0, [1], 31⟩, ⟨2, 0, 0, 0, 24, 26, [1], 33⟩, ⟨0, 0, 97, 0, 0, 0, [1], 35⟩, ⟨3, 0, 0, 0, 28, 0, [1], 37⟩, ⟨0, 0, 97, 0, 0, 0, [1], 39⟩, ⟨0, 0, 97, 0, 0, 0, [1], 41⟩, ⟨5, 0, 0, 2, 0, 0, [1], 43⟩, ⟨2, 0, 0, 0, 30, 39, [1], 45⟩, ⟨6, 0, 0, 2, 0, 0, [1], 47⟩, ⟨4, 0, 0, 2, 0, 0, [1, 2], 49⟩, ⟨2, 0, 0, 0, 33, 35, [1, 2], 52⟩, ⟨0, 0, 97, 0, 0, 0, [1, 2], 55⟩, ⟨3, 0, 0, 0, 37, 0, [1, 2], 58⟩, ⟨0, 0, 97, 0, 0, 0, [1, 2], 61⟩, ⟨0, 0, 97, 0, 0, 0, [1, 2], 64⟩, ⟨5, 0, 0, 2, 0, 0, [1, 2], 67⟩, ⟨7, 0, 0, 2, 29, 0, [1, 2], 70⟩, ⟨5, 0, 0, 1, 0, 0, [1], 73⟩, ⟨7, 0, 0, 1, 19, 0, [1], 75⟩, ⟨0, 0, 98, 0, 0, 0, [], 77⟩, ⟨8, 0, 0, 0, 0, 0, [], 78⟩]
def N2 : List Nat := [0, 0, 0, 0, 1, 0, 1, 1, 1, 1, 1, 1, 1, 2, 1, 2, 2, 2, 1, 1, 1, 1, 1, 1, 1, 2, 1, 2, 2, 2, 2, 2, 2, 2, 3, 2, 3, 3, 3, 2, 2, 1, 2]
theorem parse2 : pB x2 4 ⟨0, 0, 0⟩ = some (T2, 19, ⟨11, 2, 19⟩) := by kernel_rfl
theorem code2 : theCode T2 = C2 := by kernel_rfl
theorem wf2 : WF C2 2 3 79 := by
  have h := wf_of (C0 := (lay T2).code) (ng := 2) (nl := 3) (by kernel_rfl)
  rw [show bases (lay T2).code 0 = C2 by kernel_rfl, show total (lay T2).code = 79 by kernel_rfl] at h
  exact h
theorem check2 : chkA C2 (fun pc => N2[pc]?.getD 0) (fun pc => decide (pc = 42)) 1 = true := by kernel_rfl
theorem way2 {ps : List Pc} {n : Nat} (h : AB ps n) (hd : 1 ≤ n) : Way C2 ps 0 (n + 1) :=
  way_loop (pre := [0, 0, 0, 0, 0, 0]) (round := [0, 0, 0, 0, 0, 0, 0, 0]) (ex := [1, 0, 1, 0]) (L := 8) (c := 0) (po := 42) (co := 0) (by kernel_rfl) (by kernel_rfl) (by kernel_rfl) ⟨_, rfl, rfl⟩ h hd
theorem comp2 (w : World) : Calls Tryd.prog 6 #[.string x2] w fun e w' => (∃ pb cb cap, e = .returned (.tuple #[.pointer (some ⟨pb, 0, none⟩), .agg #[.int .i64 0, .int .i64 0]]) ∧ PatAt w'.heap.size w' pb cb cap C2 2 3 79) ∧ Below w.heap.size w w' := by
  have h := compile_met (asc_of x2 (by decide)) (by decide) parse2 rfl (by decide) (Nat.le_of_ble_eq_true (by kernel_rfl)) (Nat.le_of_ble_eq_true (by kernel_rfl)) (Nat.le_of_ble_eq_true (by kernel_rfl)) w
  rw [code2, show (lay T2).loops = 3 by kernel_rfl, show total (lay T2).code = 79 by kernel_rfl] at h
  exact h
theorem soon2 (w : World) : Soon x2 2 1 w := soon_of (comp2 w) wf2 check2 (fun n hn => ⟨0, way2 (abS_AB n) hn, fun _ => rfl⟩)

def x3 : ByteArray := ⟨#[40, 97, 63, 41, 123, 52, 48, 125, 97, 123, 52, 48, 125, 98]⟩
def T3 : T := (.cons (.lst (.cons (.pg 1 (.cons (.lst (.cons (.pl 0 97 0 (1) 1) .nil)) .nil) 40 (40) 80) (.cons (.pl 0 97 40 (40) 40) (.cons (.pl 0 98 1 (1) 1) .nil)))) .nil)
def C3 : List Step := [⟨4, 0, 0, 1, 0, 0, [], 0⟩, ⟨2, 0, 0, 0, 2, 3, [], 1⟩, ⟨0, 0, 97, 0, 0, 0, [], 2⟩, ⟨5, 0, 0, 1, 0, 0, [], 3⟩, ⟨4, 0, 0, 1, 0, 0, [], 4⟩, ⟨2, 0, 0, 0, 6, 7, [], 5⟩, ⟨0, 0, 97, 0, 0, 0, [], 6⟩, ⟨5, 0, 0, 1, 0, 0, [], 7⟩, ⟨4, 0, 0, 1, 0, 0, [], 8⟩, ⟨2, 0, 0, 0, 10, 11, [], 9⟩, ⟨0, 0, 97, 0, 0, 0, [], 10⟩, ⟨5, 0, 0, 1, 0, 0, [], 11⟩, ⟨4, 0, 0, 1, 0, 0, [], 12⟩, ⟨2, 0, 0, 0, 14, 15, [], 13⟩, ⟨0, 0, 97, 0, 0, 0, [], 14⟩, ⟨5, 0, 0, 1, 0, 0, [], 15⟩, ⟨4, 0, 0, 1, 0, 0, [], 16⟩, ⟨2, 0, 0, 0, 18, 19, [], 17⟩, ⟨0, 0, 97, 0, 0, 0, [], 18⟩, ⟨5, 0, 0, 1, 0, 0, [], 19⟩, ⟨4, 0, 0, 1, 0, 0, [], 20⟩, ⟨2, 0, 0, 0, 22, 23, [], 21⟩, ⟨0, 0, 97, 0, 0, 0, [], 22⟩, ⟨5, 0, 0, 1, 0, 0, [], 23⟩, ⟨4, 0, 0, 1, 0, 0, [], 24⟩, ⟨2, 0, 0, 0, 26, 27, [], 25⟩, ⟨0, 0, 97, 0, 0, 0, [], 26⟩, ⟨5, 0, 0, 1, 0, 0, [], 27⟩, ⟨4, 0, 0, 1, 0, 0, [], 28⟩, ⟨2, 0, 0, 0, 30, 31, [], 29⟩, ⟨0, 0, 97, 0, 0, 0, [], 30⟩, ⟨5, 0, 0, 1, 0, 0, [], 31⟩, ⟨4, 0, 0, 1, 0, 0, [], 32⟩, ⟨2, 0, 0, 0, 34, 35, [], 33⟩, ⟨0, 0, 97, 0, 0, 0, [], 34⟩, ⟨5, 0, 0, 1, 0, 0, [], 35⟩, ⟨4, 0, 0, 1, 0, 0, [], 36⟩, ⟨2, 0, 0, 0, 38, 39, [], 37⟩, ⟨0, 0, 97, 0, 0, 0, [], 38⟩, ⟨5, 0, 0, 1, 0, 0, [], 39⟩, ⟨4, 0, 0, 1, 0, 0, [], 40⟩, ⟨2, 0, 0, 0, 42, 43, [], 41⟩, ⟨0, 0, 97, 0, 0, 0, [], 42⟩, ⟨5, 0, 0, 1, 0, 0, [], 43⟩, ⟨4, 0, 0, 1, 0, 0, [], 44⟩, ⟨2, 0, 0, 0, 46, 47, [], 45⟩, ⟨0, 0, 97, 0, 0, 0, [], 46⟩, ⟨5, 0, 0, 1, 0, 0, [], 47⟩, ⟨4, 0, 0, 1, 0, 0, [], 48⟩, ⟨2, 0, 0, 0, 50, 51, [], 49⟩, ⟨0, 0, 97, 0, 0, 0, [], 50⟩, ⟨5, 0, 0, 1, 0, 0, [], 51⟩, ⟨4, 0, 0, 1, 0, 0, [], 52⟩, ⟨2, 0, 0, 0, 54, 55, [], 53⟩, ⟨0, 0, 97, 0, 0, 0, [], 54⟩, ⟨5, 0, 0, 1, 0, 0, [], 55⟩, ⟨4, 0, 0, 1, 0, 0, [], 56⟩, ⟨2, 0, 0, 0, 58, 59, [], 57⟩, ⟨0, 0, 97, 0, 0, 0, [], 58⟩, ⟨5, 0, 0, 1, 0, 0, [], 59⟩, ⟨4, 0, 0, 1, 0, 0, [], 60⟩, ⟨2, 0, 0, 0, 62, 63, [], 61⟩, ⟨0, 0, 97, 0, 0, 0, [], 62⟩, ⟨5, 0, 0, 1, 0, 0, [], 63⟩, ⟨4, 0, 0, 1, 0, 0, [], 64⟩, ⟨2, 0, 0, 0, 66, 67, [], 65⟩, ⟨0, 0, 97, 0, 0, 0, [], 66⟩, ⟨5, 0, 0, 1, 0, 0, [], 67⟩, ⟨4, 0, 0, 1, 0, 0, [], 68⟩, ⟨2, 0, 0, 0, 70, 71, [], 69⟩, ⟨0, 0, 97, 0, 0, 0, [], 70⟩, ⟨5, 0, 0, 1, 0, 0, [], 71⟩, ⟨4, 0, 0, 1, 0, 0, [], 72⟩, ⟨2, 0, 0, 0, 74, 75, [], 73⟩, ⟨0, 0, 97, 0, 0, 0, [], 74⟩, ⟨5, 0, 0, 1, 0, 0, [], 75⟩, ⟨4, 0, 0, 1, 0, 0, [], 76⟩, ⟨2, 0, 0, 0, 78, 79, [], 77⟩, ⟨0, 0, 97, 0, 0, 0, [], 78⟩, ⟨5, 0, 0, 1, 0, 0, [], 79⟩, ⟨4, 0, 0, 1, 0, 0, [], 80⟩, ⟨2, 0, 0, 0, 82, 83, [], 81⟩, ⟨0, 0, 97, 0, 0, 0, [], 82⟩, ⟨5, 0, 0, 1, 0, 0, [], 83⟩, ⟨4, 0, 0, 1, 0, 0, [], 84⟩, ⟨2, 0, 0, 0, 86, 87, [], 85⟩, ⟨0, 0, 97, 0, 0, 0, [], 86⟩, ⟨5, 0, 0, 1, 0, 0, [], 87⟩, ⟨4, 0, 0, 1, 0, 0, [], 88⟩, ⟨2, 0, 0, 0, 90, 91, [], 89⟩, ⟨0, 0, 97, 0, 0, 0, [], 90⟩, ⟨5, 0, 0, 1, 0, 0, [], 91⟩, ⟨4, 0, 0, 1, 0, 0, [], 92⟩, ⟨2, 0, 0, 0, 94, 95, [], 93⟩, ⟨0, 0, 97, 0, 0, 0, [], 94⟩, ⟨5, 0, 0, 1, 0, 0, [], 95⟩, ⟨4, 0, 0, 1, 0, 0, [], 96⟩, ⟨2, 0, 0, 0, 98, 99, [], 97⟩, ⟨0, 0, 97, 0, 0, 0, [], 98⟩, ⟨5, 0, 0, 1, 0, 0, [], 99⟩, ⟨4, 0, 0, 1, 0, 0, [], 100⟩, ⟨2, 0, 0, 0, 102, 103, [], 101⟩, ⟨0, 0, 97, 0, 0, 0, [], 102⟩, ⟨5, 0, 0, 1, 0, 0, [], 103⟩, ⟨4, 0, 0, 1, 0, 0, [], 104⟩, ⟨2, 0, 0, 0, 106, 107, [], 105⟩, ⟨0, 0, 97, 0, 0, 0, [], 106⟩, ⟨5, 0, 0, 1, 0, 0, [], 107⟩, ⟨4, 0, 0, 1, 0, 0, [], 108⟩, ⟨2, 0, 0, 0, 110, 111, [], 109⟩, ⟨0, 0, 97, 0, 0, 0, [], 110⟩, ⟨5, 0, 0, 1, 0, 0, [], 111⟩, ⟨4, 0, 0, 1, 0, 0, [], 112⟩, ⟨2, 0, 0, 0, 114, 115, [], 113⟩, ⟨0, 0, 97, 0, 0, 0, [], 114⟩, ⟨5, 0, 0, 1, 0, 0, [], 115⟩, ⟨4, 0, 0, 1, 0, 0, [], 116⟩, ⟨2, 0, 0, 0, 118, 119, [], 117⟩, ⟨0, 0, 97, 0, 0, 0, [], 118⟩, ⟨5, 0, 0, 1, 0, 0, [], 119⟩, ⟨4, 0, 0, 1, 0, 0, [], 120⟩, ⟨2, 0, 0, 0, 122, 123, [], 121⟩, ⟨0, 0, 97, 0, 0, 0, [], 122⟩, ⟨5, 0, 0, 1, 0, 0, [], 123⟩, ⟨4, 0, 0, 1, 0, 0, [], 124⟩, ⟨2, 0, 0, 0, 126, 127, [], 125⟩, ⟨0, 0, 97, 0, 0, 0, [], 126⟩, ⟨5, 0, 0, 1, 0, 0, [], 127⟩, ⟨4, 0, 0, 1, 0, 0, [], 128⟩, ⟨2, 0, 0, 0, 130, 131, [], 129⟩, ⟨0, 0, 97, 0, 0, 0, [], 130⟩, ⟨5, 0, 0, 1, 0, 0, [], 131⟩, ⟨4, 0, 0, 1, 0, 0, [], 132⟩, ⟨2, 0, 0, 0, 134, 135, [], 133⟩, ⟨0, 0, 97, 0, 0, 0, [], 134⟩, ⟨5, 0, 0, 1, 0, 0, [], 135⟩, ⟨4, 0, 0, 1, 0, 0, [], 136⟩, ⟨2, 0, 0, 0, 138, 139, [], 137⟩, ⟨0, 0, 97, 0, 0, 0, [], 138⟩, ⟨5, 0, 0, 1, 0, 0, [], 139⟩, ⟨4, 0, 0, 1, 0, 0, [], 140⟩, ⟨2, 0, 0, 0, 142, 143, [], 141⟩, ⟨0, 0, 97, 0, 0, 0, [], 142⟩, ⟨5, 0, 0, 1, 0, 0, [], 143⟩, ⟨4, 0, 0, 1, 0, 0, [], 144⟩, ⟨2, 0, 0, 0, 146, 147, [], 145⟩, ⟨0, 0, 97, 0, 0, 0, [], 146⟩, ⟨5, 0, 0, 1, 0, 0, [], 147⟩, ⟨4, 0, 0, 1, 0, 0, [], 148⟩, ⟨2, 0, 0, 0, 150, 151, [], 149⟩, ⟨0, 0, 97, 0, 0, 0, [], 150⟩, ⟨5, 0, 0, 1, 0, 0, [], 151⟩, ⟨4, 0, 0, 1, 0, 0, [], 152⟩, ⟨2, 0, 0, 0, 154, 155, [], 153⟩, ⟨0, 0, 97, 0, 0, 0, [], 154⟩, ⟨5, 0, 0, 1, 0, 0, [], 155⟩, ⟨4, 0, 0, 1, 0, 0, [], 156⟩, ⟨2, 0, 0, 0, 158, 159, [], 157⟩, ⟨0, 0, 97, 0, 0, 0, [], 158⟩, ⟨5, 0, 0, 1, 0, 0, [], 159⟩, ⟨0, 0, 97, 0, 0, 0, [], 160⟩, ⟨0, 0, 97, 0, 0, 0, [], 161⟩, ⟨0, 0, 97, 0, 0, 0, [], 162⟩, ⟨0, 0, 97, 0, 0, 0, [], 163⟩, ⟨0, 0, 97, 0, 0, 0, [], 164⟩, ⟨0, 0, 97, 0, 0, 0, [], 165⟩, ⟨0, 0, 97, 0, 0, 0, [], 166⟩, ⟨0, 0, 97, 0, 0, 0, [], 167⟩, ⟨0, 0, 97, 0, 0, 0, [], 168⟩, ⟨0, 0, 97, 0, 0, 0, [], 169⟩, ⟨0, 0, 97, 0, 0, 0, [], 170⟩, ⟨0, 0, 97, 0, 0, 0, [], 171⟩, ⟨0, 0, 97, 0, 0, 0, [], 172⟩, ⟨0, 0, 97, 0, 0, 0, [], 173⟩, ⟨0, 0, 97, 0, 0, 0, [], 174⟩, ⟨0, 0, 97, 0, 0, 0, [], 175⟩, ⟨0, 0, 97, 0, 0, 0, [], 176⟩, ⟨0, 0, 97, 0, 0, 0, [], 177⟩, ⟨0, 0, 97, 0, 0, 0, [], 178⟩, ⟨0, 0, 97, 0, 0, 0, [], 179⟩, ⟨0, 0, 97, 0, 0, 0, [], 180⟩, ⟨0, 0, 97, 0, 0, 0, [], 181⟩, ⟨0, 0, 97, 0, 0, 0, [], 182⟩, ⟨0, 0, 97, 0, 0, 0, [], 183⟩, ⟨0, 0, 97, 0, 0, 0, [], 184⟩, ⟨0, 0, 97, 0, 0, 0, [], 185⟩, ⟨0, 0, 97, 0, 0, 0, [], 186⟩, ⟨0, 0, 97, 0, 0, 0, [], 187⟩, ⟨0, 0, 97, 0, 0, 0, [], 188⟩, ⟨0, 0, 97, 0, 0, 0, [], 189⟩, ⟨0, 0, 97, 0, 0, 0, [], 190⟩, ⟨0, 0, 97, 0, 0, 0, [], 191⟩, ⟨0, 0, 97, 0, 0, 0, [], 192⟩, ⟨0, 0, 97, 0, 0, 0, [], 193⟩, ⟨0, 0, 97, 0, 0, 0, [], 194⟩, ⟨0, 0, 97, 0, 0, 0, [], 195⟩, ⟨0, 0, 97, 0, 0, 0, [], 196⟩, ⟨0, 0, 97, 0, 0, 0, [], 197⟩, ⟨0, 0, 97, 0, 0, 0, [], 198⟩, ⟨0, 0, 97, 0, 0, 0, [], 199⟩, ⟨0, 0, 98, 0, 0, 0, [], 200⟩, ⟨8, 0, 0, 0, 0, 0, [], 201⟩]
def N3 : List Nat := [0, 0, 0, 0, 0, 0, 0, 0, 0, 0, 0, 0, 0, 0, 0, 0, 0, 0, 0, 0, 0, 0, 0, 0, 0, 0, 0, 0, 0, 0, 0, 0, 0, 0, 0, 0, 0, 0, 0, 0, 0, 0, 0, 0, 0, 0, 0, 0, 0, 0, 0, 0, 0, 0, 0, 0, 0, 0, 0, 0, 0, 0, 0, 0, 0, 0, 0, 0, 0, 0, 0, 0, 0, 0, 0, 0, 0, 0, 0, 0, 0, 0, 0, 0, 0, 0, 0, 0, 0, 0, 0, 0, 0, 0, 0, 0, 0, 0, 0, 0, 0, 0, 0, 0, 0, 0, 0, 0, 0, 0, 0, 0, 0, 0, 0, 0, 0, 0, 0, 0, 0, 0, 0, 0, 0, 0, 0, 0, 0, 0, 0, 0, 0, 0, 0, 0, 0, 0, 0, 0, 0, 0, 0, 0, 0, 0, 0, 0, 0, 0, 0, 0, 0, 0, 0, 0, 0, 0, 0, 0, 0, 1, 2, 3, 4, 5, 6, 7, 8, 9, 10, 11, 12, 13, 14, 15, 16, 17, 18, 19, 20, 21, 22, 23, 24, 25, 26, 27, 28, 29, 30, 31, 32, 33, 34, 35, 36, 37, 38, 39, 40, 41]
theorem parse3 : pB x3 4 ⟨0, 0, 0⟩ = some (T3, 121, ⟨14, 1, 121⟩) := by kernel_rfl
theorem code3 : theCode T3 = C3 := by kernel_rfl
theorem wf3 : WF C3 1 0 202 := by
  have h := wf_of (C0 := (lay T3).code) (ng := 1) (nl := 0) (by kernel_rfl)
  rw [show bases (lay T3).code 0 = C3 by kernel_rfl, show total (lay T3).code = 202 by kernel_rfl] at h
  exact h
theorem check3 : chkA C3 (fun pc => N3[pc]?.getD 0) (fun pc => decide (pc = 201)) 40 = true := by kernel_rfl
theorem way3 {ps : List Pc} {n : Nat} (h : AB ps n) (hd : 40 ≤ n) : Way C3 ps (n - 40) (n + 1) :=
  way_fix (cs := [0, 1, 0, 0, 1, 0, 0, 1, 0, 0, 1, 0, 0, 1, 0, 0, 1, 0, 0, 1, 0, 0, 1, 0, 0, 1, 0, 0, 1, 0, 0, 1, 0, 0, 1, 0, 0, 1, 0, 0, 1, 0, 0, 1, 0, 0, 1, 0, 0, 1, 0, 0, 1, 0, 0, 1, 0, 0, 1, 0, 0, 1, 0, 0, 1, 0, 0, 1, 0, 0, 1, 0, 0, 1, 0, 0, 1, 0, 0, 1, 0, 0, 1, 0, 0, 1, 0, 0, 1, 0, 0, 1, 0, 0, 1, 0, 0, 1, 0, 0, 1, 0, 0, 1, 0, 0, 1, 0, 0, 1, 0, 0, 1, 0, 0, 1, 0, 0, 1, 0, 0, 0, 0, 0, 0, 0, 0, 0, 0, 0, 0, 0, 0, 0, 0, 0, 0, 0, 0, 0, 0, 0, 0, 0, 0, 0, 0, 0, 0, 0, 0, 0, 0, 0, 0, 0, 0, 0, 0, 0, 0]) (po := 201) (co := 0) (by kernel_rfl) ⟨_, rfl, rfl⟩ h hd
theorem comp3 (w : World) : Calls Tryd.prog 6 #[.string x3] w fun e w' => (∃ pb cb cap, e = .returned (.tuple #[.pointer (some ⟨pb, 0, none⟩), .agg #[.int .i64 0, .int .i64 0]]) ∧ PatAt w'.heap.size w' pb cb cap C3 1 0 202) ∧ Below w.heap.size w w' := by
  have h := compile_met (asc_of x3 (by decide)) (by decide) parse3 rfl (by decide) (Nat.le_of_ble_eq_true (by kernel_rfl)) (Nat.le_of_ble_eq_true (by kernel_rfl)) (Nat.le_of_ble_eq_true (by kernel_rfl)) w
  rw [code3, show (lay T3).loops = 0 by kernel_rfl, show total (lay T3).code = 202 by kernel_rfl] at h
  exact h
theorem soon3 (w : World) : Soon x3 3 40 w := soon_of (comp3 w) wf3 check3 (fun n hn => ⟨n - 40, (way3 (abS_AB n) hn), fun h => (h rfl).elim⟩)

def x4 : ByteArray := ⟨#[40, 46, 42, 41, 42, 120, 124, 40, 97, 124, 46, 41, 42, 98]⟩
def T4 : T := (.cons (.lst (.cons (.pg 1 (.cons (.lst (.cons (.pl 1 0 0 (-1) 1) .nil)) .nil) 0 (-1) 2) (.cons (.pl 0 120 1 (1) 1) .nil))) (.cons (.lst (.cons (.pg 2 (.cons (.lst (.cons (.pl 0 97 1 (1) 1) .nil)) (.cons (.lst (.cons (.pl 1 0 1 (1) 1) .nil)) .nil)) 0 (-1) 3) (.cons (.pl 0 98 1 (1) 1) .nil))) .nil))
def C4 : List Step := [⟨2, 0, 0, 0, 1, 12, [], 0⟩, ⟨2, 0, 0, 0, 2, 10, [], 1⟩, ⟨6, 0, 0, 0, 0, 0, [], 2⟩, ⟨4, 0, 0, 1, 0, 0, [0], 3⟩, ⟨2, 0, 0, 0, 5, 8, [0], 5⟩, ⟨6, 0, 0, 1, 0, 0, [0], 7⟩, ⟨0, 1, 0, 0, 0, 0, [0, 1], 9⟩, ⟨7, 0, 0, 1, 4, 0, [0, 1], 12⟩, ⟨5, 0, 0, 1, 0, 0, [0], 15⟩, ⟨7, 0, 0, 0, 1, 0, [0], 17⟩, ⟨0, 0, 120, 0, 0, 0, [], 19⟩, ⟨3, 0, 0, 0, 22, 0, [], 20⟩, ⟨2, 0, 0, 0, 13, 21, [], 21⟩, ⟨6, 0, 0, 2, 0, 0, [], 22⟩, ⟨4, 0, 0, 2, 0, 0, [2], 23⟩, ⟨2, 0, 0, 0, 16, 18, [2], 25⟩, ⟨0, 0, 97, 0, 0, 0, [2], 27⟩, ⟨3, 0, 0, 0, 19, 0, [2], 29⟩, ⟨0, 1, 0, 0, 0, 0, [2], 31⟩, ⟨5, 0, 0, 2, 0, 0, [2], 33⟩, ⟨7, 0, 0, 2, 12, 0, [2], 35⟩, ⟨0, 0, 98, 0, 0, 0, [], 37⟩, ⟨8, 0, 0, 0, 0, 0, [], 38⟩]
def N4 : List Nat := [0, 0, 0, 0, 0, 0, 0, 1, 0, 0, 0, 1, 0, 0, 0, 0, 0, 1, 0, 1, 1, 0, 1]
theorem parse4 : pB x4 4 ⟨0, 0, 0⟩ = some (T4, 7, ⟨14, 2, 7⟩) := by kernel_rfl
theorem code4 : theCode T4 = C4 := by kernel_rfl
theorem wf4 : WF C4 2 3 39 := by
  have h := wf_of (C0 := (lay T4).code) (ng := 2) (nl := 3) (by kernel_rfl)
  rw [show bases (lay T4).code 0 = C4 by kernel_rfl, show total (lay T4).code = 39 by kernel_rfl] at h
  exact h
theorem check4 : chkA C4 (fun pc => N4[pc]?.getD 0) (fun pc => decide (pc = 22) || decide (pc = 11)) 0 = true := by kernel_rfl
theorem way4 {ps : List Pc} {n : Nat} (h : AB ps n) (hd : 0 ≤ n) : Way C4 ps 0 (n + 1) :=
  way_loop (pre := [1]) (round := [0, 0, 0, 1, 0, 0, 0]) (ex := [1, 0]) (L := 12) (c := 0) (po := 22) (co := 0) (by kernel_rfl) (by kernel_rfl) (by kernel_rfl) ⟨_, rfl, rfl⟩ h hd
theorem comp4 (w : World) : Calls Tryd.prog 6 #[.string x4] w fun e w' => (∃ pb cb cap, e = .returned (.tuple #[.pointer (some ⟨pb, 0, none⟩), .agg #[.int .i64 0, .int .i64 0]]) ∧ PatAt w'.heap.size w' pb cb cap C4 2 3 39) ∧ Below w.heap.size w w' := by
  have h := compile_met (asc_of x4 (by decide)) (by decide) parse4 rfl (by decide) (Nat.le_of_ble_eq_true (by kernel_rfl)) (Nat.le_of_ble_eq_true (by kernel_rfl)) (Nat.le_of_ble_eq_true (by kernel_rfl)) w
  rw [code4, show (lay T4).loops = 3 by kernel_rfl, show total (lay T4).code = 39 by kernel_rfl] at h
  exact h
theorem soon4 (w : World) : Soon x4 4 0 w := soon_of (comp4 w) wf4 check4 (fun n hn => ⟨0, way4 (abS_AB n) hn, fun _ => rfl⟩)

end Go.Proofs.YtlanodchnjojoaaDoor
