/- A check on a laid code: it is well formed. -/
import Derived.Test.YtlanodchnjojoaaGreatDoorLy
import Derived.Test.YtlanodchnjojoaaGreatDoorFf
import Derived.Test.YtlanodchnjojoaaGreatDoorWk
import Derived.Lib.SlBytesRow
namespace Go.Proofs.YtlanodchnjojoaaGreatDoor
open Go.RowKit

def actB (C : List Step) (ng nl pc : Nat) (st : Step) : Bool :=
  (decide (st.dO = 0) && (decide (st.what ≤ 1) && (decide (pc + 1 < C.length) && decide (loopsOf C (pc + 1) = st.loops)))) ||
  ((decide (st.dO = 2) && (decide (st.a < C.length) && (decide (st.b < C.length) && (decide (loopsOf C st.a = st.loops) && decide (loopsOf C st.b = st.loops))))) ||
  ((decide (st.dO = 3) && (decide (st.a < C.length) && decide (loopsOf C st.a = st.loops))) ||
  (((decide (st.dO = 4) || decide (st.dO = 5)) && (decide (pc + 1 < C.length) && (decide (loopsOf C (pc + 1) = st.loops) && (decide (1 ≤ st.grp) && decide (st.grp ≤ ng))))) ||
  ((decide (st.dO = 6) && (decide (pc + 1 < C.length) && (decide (st.grp < nl) && decide (loopsOf C (pc + 1) = st.loops ++ [st.grp])))) ||
  ((decide (st.dO = 7) && (decide (st.a < C.length) && (decide (st.grp < nl) && decide (st.loops = loopsOf C st.a ++ [st.grp])))) ||
  decide (st.dO = 8))))))
def stepB (C : List Step) (ng nl pc : Nat) : Bool := match C[pc]? with
  | some st => actB C ng nl pc st && (decide (st.loops.length ≤ 100) && (st.loops.all (fun l => decide (l < nl)) && decide st.loops.Nodup))
  | none => true
def wfB (C : List Step) (ng nl S : Nat) : Bool :=
  decide (0 < C.length) && (decide (loopsOf C 0 = []) && (decide (C.length ≤ 10000) && ((List.range C.length).all (stepB C ng nl) && (decide (ng ≤ 31) && (decide (nl ≤ 10000) && decide (S ≤ 100000))))))

theorem wf_of {C0 : List Step} {ng nl : Nat} (h : wfB (bases C0 0) ng nl (total C0) = true) : WF (bases C0 0) ng nl (total C0) := by
  simp only [wfB, Bool.and_eq_true, decide_eq_true_eq] at h
  obtain ⟨h1, h2, h3, h4, h5, h6, h7⟩ := h
  have hs : ∀ (pc : Nat) (st : Step), (bases C0 0)[pc]? = some st → actB (bases C0 0) ng nl pc st = true ∧ st.loops.length ≤ 100 ∧ (∀ l ∈ st.loops, l < nl) ∧ st.loops.Nodup := fun pc st hpc => by
    have hlt := (List.getElem?_eq_some_iff.1 hpc).1
    have := List.all_eq_true.1 h4 pc (List.mem_range.2 hlt)
    simp only [stepB, hpc, Bool.and_eq_true, decide_eq_true_eq, List.all_eq_true] at this
    exact this
  have hbase : ∀ (pc : Nat) (st : Step), (bases C0 0)[pc]? = some st → ∃ st0, C0[pc]? = some st0 ∧ st.base = total (C0.take pc) ∧ st.loops = st0.loops := fun pc st hpc => by
    rw [bases_get] at hpc
    cases hc : C0[pc]? with
    | none => rw [hc] at hpc; cases hpc
    | some st0 =>
      rw [hc] at hpc
      simp at hpc
      exact ⟨st0, rfl, by rw [← hpc], by rw [← hpc]⟩
  have htot : ∀ i j : Nat, i ≤ j → total (C0.take i) ≤ total (C0.take j) := fun i j hij => by
    have := total_le (C0.take j) i
    rwa [List.take_take, Nat.min_eq_left hij] at this
  refine ⟨h1, h2, h3, fun pc st hpc => ?_, fun pc st pc' st' hpc hpc' hlt => ?_, fun pc st hpc => ?_, ⟨h5, h6, h7⟩⟩
  · obtain ⟨_, a1, a2, a3⟩ := hs pc st hpc
    obtain ⟨st0, b1, b2, b3⟩ := hbase pc st hpc
    have := total_take _ _ _ b1
    have h8 := total_le C0 (pc + 1)
    exact ⟨by rw [b2, b3]; omega, a1, a2, a3⟩
  · obtain ⟨st0, b1, b2, b3⟩ := hbase pc st hpc
    obtain ⟨st0', c1, c2, c3⟩ := hbase pc' st' hpc'
    have := total_take _ _ _ b1
    have h8 := htot (pc + 1) pc' hlt
    rw [b2, b3, c2]
    omega
  · have ha := (hs pc st hpc).1
    simp only [actB, Bool.or_eq_true, Bool.and_eq_true, decide_eq_true_eq] at ha
    exact ha

end Go.Proofs.YtlanodchnjojoaaGreatDoor

namespace Go.Proofs.YtlanodchnjojoaaGreatDoor
open Go.RowKit

theorem mem_piecesFrom (s : ByteArray) : ∀ (f pos : Nat) (p : Pc), p ∈ piecesFrom s f pos → ∃ i, i < s.size ∧ p = pieceAt s i
  | 0, pos, p, h => by simp [piecesFrom] at h
  | f + 1, pos, p, h => by
    unfold piecesFrom at h
    split at h
    · rename_i hp
      rcases List.mem_cons.1 h with h | h
      · exact ⟨pos, hp, h⟩
      · exact mem_piecesFrom s f _ p h
    · simp at h
theorem mem_pieces {s : ByteArray} {p : Pc} (h : p ∈ pieces s) : ∃ i, i < s.size ∧ p = pieceAt s i := mem_piecesFrom s _ _ p h

theorem CA_noWay {ps : List Pc} (h : ∀ p ∈ ps, p.rune ≠ 97) (k t : Nat) : ¬ Way CA ps k t := by
  rintro ⟨pc, c, r, st, hst, ho⟩
  have key : ∀ y, Reach CA ps ⟨0, 0, k⟩ y → y = ⟨0, 0, k⟩ := by
    intro y hy
    induction hy with
    | refl => rfl
    | tail _ h2 ih =>
      subst ih
      simp only [succ, CA, List.getElem?_cons_zero] at h2
      split at h2
      · rename_i p hp
        have := h p (List.mem_of_getElem? hp)
        have e : acc ⟨0, 0, 97, 0, 0, 0, [], 0⟩ p = false := by simp [acc, this]
        rw [e] at h2
        simp at h2
      · simp at h2
  have := key _ r
  cases this
  simp only [CA, List.getElem?_cons_zero, Option.some.injEq] at hst
  subst hst
  cases ho

end Go.Proofs.YtlanodchnjojoaaGreatDoor

namespace Go.Proofs.YtlanodchnjojoaaGreatDoor
open Go.RowKit

def zs (n : Nat) : ByteArray := ⟨Array.replicate n 0⟩
theorem zs_size (n : Nat) : (zs n).size = n := by simp [zs, ByteArray.size]
theorem zs_get (n i : Nat) (h : i < (zs n).size) : (zs n)[i]'h = 0 := by
  show (zs n).data[i]'h = 0
  simp [zs]
theorem zs_asc (n : Nat) : Asc (zs n) := fun i h => by rw [zs_get]; decide
theorem zs_runes (n : Nat) : ∀ p ∈ pieces (zs n), p.rune ≠ 97 := fun p hp => by
  obtain ⟨i, hi, rfl⟩ := mem_pieces hp
  rw [piece_asc (zs_asc n) hi]
  have : byt (zs n) i = 0 := by simp only [byt, hi, dif_pos, zs_get]; rfl
  rw [this]
  show ((0 : Nat) : Int) ≠ 97
  omega
theorem zs_extract (n : Nat) : (zs (n + 1)).extract 1 (1 + n) = zs n := by
  apply ByteArray.ext
  apply Array.toList_inj.1
  rw [Lib.extract_data]
  simp [zs]

theorem wfA : WF CA 0 0 2 := by
  have h := wf_of (C0 := (lay TA).code) (ng := 0) (nl := 0) (by kernel_rfl)
  rw [show bases (lay TA).code 0 = CA by kernel_rfl, show total (lay TA).code = 2 by kernel_rfl] at h
  exact h

theorem find_zeros {w : World} {pb cb cap : Nat} (hp : PatAt w.heap.size w pb cb cap CA 0 0 2) (n : Nat) (hn : n ≤ 65536) :
    Calls Tryz.prog 5 #[.pointer (some ⟨pb, 0, none⟩), .string (zs n), .int .i64 0] w fun e w' => e = .returned (.tuple #[matchV 0 0 (.slice none 0 0), .int .i64 4]) ∧ Below w.heap.size w w' := by
  refine (Find_met hp wfA (zs n) (by rw [zs_size]; exact hn) (fun st hst h0 => ?_)).mono ?_
  · simp only [CA, List.mem_cons, List.not_mem_nil, or_false] at hst
    rcases hst with rfl | rfl
    · exact .inl rfl
    · cases h0
  · rintro e w' ⟨hF, hb⟩
    refine ⟨?_, hb⟩
    rcases hF with ⟨k, t, a, m, c, _, _, _, hW, _⟩ | ⟨_, he⟩
    · exact (CA_noWay (zs_runes n) k t hW).elim
    · exact he

end Go.Proofs.YtlanodchnjojoaaGreatDoor
