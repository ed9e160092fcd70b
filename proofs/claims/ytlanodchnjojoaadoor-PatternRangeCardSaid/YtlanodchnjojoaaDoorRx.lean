/- A check on a laid code: it is well formed. -/
import Derived.Test.YtlanodchnjojoaaDoorLy
import Derived.Test.YtlanodchnjojoaaDoorFf
import Derived.Test.YtlanodchnjojoaaDoorRp
namespace Go.Proofs.YtlanodchnjojoaaDoor
open Go.RowKit

def actB (C : List Step) (ng nl pc : Nat) (st : Step) : Bool :=
  (decide (st.dO = 0) && (decide (st.what ≤ 1) && (decide (pc + 1 < C.length) && decide (loopsOf C (pc + 1) = st.loops)))) ||
  ((decide (st.dO = 2) && (decide (st.a < C.length) && (decide (st.b < C.length) && (decide (loopsOf C st.a = st.loops) && decide (loopsOf C st.b = st.loops))))) ||
  ((decide (st.dO = 3) && (decide (st.a < C.length) && decide (loopsOf C st.a = st.loops))) ||
  (((decide (st.dO = 4) || decide (st.dO = 5)) && (decide (pc + 1 < C.length) && (decide (loopsOf C (pc + 1) = st.loops) && (decide (1 ≤ st.grp) && decide (st.grp ≤ ng))))) ||
  ((decide (st.dO = 6) && (decide (pc + 1 < C.length) && (decide (st.grp < nl) && decide (loopsOf C (pc + 1) = st.loops ++ [st.grp])))) ||
  ((decide (st.dO = 7) && (decide (st.a < C.length) && (decide (st.grp < nl) && decide (st.loops = loopsOf C st.a ++ [st.grp])))) ||
  decide (st.dO = 8))))))
def stepB (C : List Step) (ng nl pc : Nat) : Bool := match C[pc]? with
  | some st => actB C ng nl pc st && (decide (st.loops.length ≤ 100) && (st.loops.all (fun l => decide (l < nl)) && decide st.loops.Nodup))
  | none => true
def wfB (C : List Step) (ng nl S : Nat) : Bool :=
  decide (0 < C.length) && (decide (loopsOf C 0 = []) && (decide (C.length ≤ 10000) && ((List.range C.length).all (stepB C ng nl) && (decide (ng ≤ 31) && (decide (nl ≤ 10000) && decide (S ≤ 100000))))))

theorem wf_of {C0 : List Step} {ng nl : Nat} (h : wfB (bases C0 0) ng nl (total C0) = true) : WF (bases C0 0) ng nl (total C0) := by
  simp only [wfB, Bool.and_eq_true, decide_eq_true_eq] at h
  obtain ⟨h1, h2, h3, h4, h5, h6, h7⟩ := h
  have hs : ∀ (pc : Nat) (st : Step), (bases C0 0)[pc]? = some st → actB (bases C0 0) ng nl pc st = true ∧ st.loops.length ≤ 100 ∧ (∀ l ∈ st.loops, l < nl) ∧ st.loops.Nodup := fun pc st hpc => by
    have hlt := (List.getElem?_eq_some_iff.1 hpc).1
    have := List.all_eq_true.1 h4 pc (List.mem_range.2 hlt)
    simp only [stepB, hpc, Bool.and_eq_true, decide_eq_true_eq, List.all_eq_true] at this
    exact this
  have hbase : ∀ (pc : Nat) (st : Step), (bases C0 0)[pc]? = some st → ∃ st0, C0[pc]? = some st0 ∧ st.base = total (C0.take pc) ∧ st.loops = st0.loops := fun pc st hpc => by
    rw [bases_get] at hpc
    cases hc : C0[pc]? with
    | none => rw [hc] at hpc; cases hpc
    | some st0 =>
      rw [hc] at hpc
      simp at hpc
      exact ⟨st0, rfl, by rw [← hpc], by rw [← hpc]⟩
  have htot : ∀ i j : Nat, i ≤ j → total (C0.take i) ≤ total (C0.take j) := fun i j hij => by
    have := total_le (C0.take j) i
    rwa [List.take_take, Nat.min_eq_left hij] at this
  refine ⟨h1, h2, h3, fun pc st hpc => ?_, fun pc st pc' st' hpc hpc' hlt => ?_, fun pc st hpc => ?_, ⟨h5, h6, h7⟩⟩
  · obtain ⟨_, a1, a2, a3⟩ := hs pc st hpc
    obtain ⟨st0, b1, b2, b3⟩ := hbase pc st hpc
    have := total_take _ _ _ b1
    have h8 := total_le C0 (pc + 1)
    exact ⟨by rw [b2, b3]; omega, a1, a2, a3⟩
  · obtain ⟨st0, b1, b2, b3⟩ := hbase pc st hpc
    obtain ⟨st0', c1, c2, c3⟩ := hbase pc' st' hpc'
    have := total_take _ _ _ b1
    have h8 := htot (pc + 1) pc' hlt
    rw [b2, b3, c2]
    omega
  · have ha := (hs pc st hpc).1
    simp only [actB, Bool.or_eq_true, Bool.and_eq_true, decide_eq_true_eq] at ha
    exact ha

end Go.Proofs.YtlanodchnjojoaaDoor

namespace Go.Proofs.YtlanodchnjojoaaDoor
open Go.RowKit

def dch (d : Nat) : UInt8 := UInt8.ofNat (if d < 10 then 48 + d else 87 + d)
theorem dch_nat {d : Nat} (h : d < 16) : (dch d).toNat = if d < 10 then 48 + d else 87 + d := by
  unfold dch
  rw [UInt8.toNat_ofNat']
  split <;> omega
theorem dch_hex {d : Nat} (h : d < 16) : hexD (dch d).toNat = true ∧ hexV (dch d).toNat = d := by
  rw [dch_nat h]
  unfold hexD hexV
  split
  · exact ⟨by simp; omega, by rw [if_pos (by omega)]; omega⟩
  · exact ⟨by simp; omega, by rw [if_neg (by omega)]; omega⟩

def one1 (d : Nat) : ByteArray := ⟨#[dch d]⟩
def X0 : ByteArray := ⟨#[92, 58]⟩
/-- The text so far: with so many digits. -/
def XT (R : Nat) : Nat → ByteArray
  | 0 => X0
  | i + 1 => XT R i ++ one1 (R / 16 ^ (5 - i) % 16)
def XS : ByteArray := ⟨#[59]⟩
def XR (R : Nat) : ByteArray := XT R 6 ++ XS
theorem XR_eq (R : Nat) : XR R = ⟨#[92, 58, dch (R / 1048576 % 16), dch (R / 65536 % 16), dch (R / 4096 % 16), dch (R / 256 % 16), dch (R / 16 % 16), dch (R % 16), 59]⟩ := by
  apply ByteArray.ext
  simp [XR, XT, X0, XS, one1, ByteArray.data_append]
theorem XT_size (R : Nat) : ∀ i, (XT R i).size = 2 + i
  | 0 => rfl
  | i + 1 => by rw [XT, ByteArray.size_append, XT_size R i]; rfl
theorem XR_size (R : Nat) : (XR R).size = 9 := by rw [XR_eq]; rfl
theorem XR_byt (R i : Nat) (h : i < 9) : byt (XR R) i = ([92, 58, dch (R / 1048576 % 16), dch (R / 65536 % 16), dch (R / 4096 % 16), dch (R / 256 % 16), dch (R / 16 % 16), dch (R % 16), 59][i]'h).toNat := by
  have hs : i < (XR R).size := by rw [XR_size]; exact h
  simp only [byt, hs, dif_pos]
  congr 1
  have : ∀ (s : ByteArray) (hs : i < s.size), s = ⟨#[92, 58, dch (R / 1048576 % 16), dch (R / 65536 % 16), dch (R / 4096 % 16), dch (R / 256 % 16), dch (R / 16 % 16), dch (R % 16), 59]⟩ → s[i]'hs = [92, 58, dch (R / 1048576 % 16), dch (R / 65536 % 16), dch (R / 4096 % 16), dch (R / 256 % 16), dch (R / 16 % 16), dch (R % 16), 59][i]'h := by
    intro s hs e
    subst e
    rfl
  exact this _ hs (XR_eq R)
theorem XR_end (R : Nat) : byt (XR R) 9 = 256 := by
  unfold byt; rw [dif_neg (by rw [XR_size]; omega)]
theorem XR_asc (R : Nat) : Asc (XR R) := fun i hi => by
  have h9 : i < 9 := by rw [XR_size] at hi; exact hi
  have hb := XR_byt R i h9
  simp only [byt, hi, dif_pos] at hb
  rw [hb]
  have hd : ∀ d, d < 16 → (dch d).toNat < 128 := fun d h => by rw [dch_nat h]; split <;> omega
  have : i = 0 ∨ i = 1 ∨ i = 2 ∨ i = 3 ∨ i = 4 ∨ i = 5 ∨ i = 6 ∨ i = 7 ∨ i = 8 := by omega
  rcases this with rfl | rfl | rfl | rfl | rfl | rfl | rfl | rfl | rfl
  · show (92 : UInt8).toNat < 128; decide
  · show (58 : UInt8).toNat < 128; decide
  · exact hd _ (Nat.mod_lt _ (by decide))
  · exact hd _ (Nat.mod_lt _ (by decide))
  · exact hd _ (Nat.mod_lt _ (by decide))
  · exact hd _ (Nat.mod_lt _ (by decide))
  · exact hd _ (Nat.mod_lt _ (by decide))
  · exact hd _ (Nat.mod_lt _ (by decide))
  · show (59 : UInt8).toNat < 128; decide

theorem XR_hexN {R : Nat} (h : R < 16777216) : hexN (XR R) 6 2 0 = R := by
  simp only [hexN]
  rw [XR_byt R 2 (by omega), XR_byt R (2 + 1) (by omega), XR_byt R (2 + 1 + 1) (by omega), XR_byt R (2 + 1 + 1 + 1) (by omega), XR_byt R (2 + 1 + 1 + 1 + 1) (by omega), XR_byt R (2 + 1 + 1 + 1 + 1 + 1) (by omega)]
  simp only [List.getElem_cons_succ, List.getElem_cons_zero]
  rw [(dch_hex (d := R / 1048576 % 16) (by omega)).2, (dch_hex (d := R / 65536 % 16) (by omega)).2, (dch_hex (d := R / 4096 % 16) (by omega)).2, (dch_hex (d := R / 256 % 16) (by omega)).2, (dch_hex (d := R / 16 % 16) (by omega)).2, (dch_hex (d := R % 16) (by omega)).2]
  omega

theorem XR_esc {R : Nat} (h : okR R) : pEsc (XR R) 0 = some R := by
  have hR : R < 16777216 := by have := h.1; omega
  unfold pEsc
  rw [XR_hexN hR, if_pos]
  refine ⟨XR_byt R 1 (by omega), fun i hi => ?_, XR_byt R 8 (by omega), wid_ok h⟩
  have : i = 0 ∨ i = 1 ∨ i = 2 ∨ i = 3 ∨ i = 4 ∨ i = 5 := by omega
  rcases this with rfl | rfl | rfl | rfl | rfl | rfl
  · rw [XR_byt R (0 + 2 + 0) (by omega)]; exact (dch_hex (Nat.mod_lt _ (by decide))).1
  · rw [XR_byt R (0 + 2 + 1) (by omega)]; exact (dch_hex (Nat.mod_lt _ (by decide))).1
  · rw [XR_byt R (0 + 2 + 2) (by omega)]; exact (dch_hex (Nat.mod_lt _ (by decide))).1
  · rw [XR_byt R (0 + 2 + 3) (by omega)]; exact (dch_hex (Nat.mod_lt _ (by decide))).1
  · rw [XR_byt R (0 + 2 + 4) (by omega)]; exact (dch_hex (Nat.mod_lt _ (by decide))).1
  · rw [XR_byt R (0 + 2 + 5) (by omega)]; exact (dch_hex (Nat.mod_lt _ (by decide))).1

def TR (R : Nat) : T := .cons (.lst (.cons (.pl 0 R 1 1 1) .nil)) .nil
theorem parseR {R : Nat} (h : okR R) : pB (XR R) 1 ⟨0, 0, 0⟩ = some (TR R, 1, ⟨9, 0, 1⟩) := by
  have e0 : byt (XR R) 0 = 92 := XR_byt R 0 (by omega)
  have e9 := XR_end R
  have es := XR_size R
  have ee := XR_esc h
  have hA : ∀ rec, pAtom rec (XR R) ⟨0, 0, 0⟩ = some (.leaf 0 R, 1, ⟨9, 0, 1⟩) := fun rec => by
    unfold pAtom
    simp [e0, ee]
  have hP : ∀ rec, pPart rec (XR R) ⟨0, 0, 0⟩ = some (.pl 0 R 1 1 1, 1, ⟨9, 0, 1⟩) := fun rec => by
    unfold pPart
    rw [hA]
    simp [es, e9, Atm.part]
  unfold pB
  rw [show (100 : Nat) = 98 + 1 + 1 from rfl, pLoop]
  simp only [es, e0, hP]
  rw [pLoop]
  simp [es, e9, TR, T.snoc]

theorem codeR (R : Nat) : theCode (TR R) = CR R := by kernel_rfl
theorem wfR (R : Nat) : WF (CR R) 0 0 2 := by
  have h := wf_of (C0 := (lay (TR R)).code) (ng := 0) (nl := 0) (by kernel_rfl)
  rw [show bases (lay (TR R)).code 0 = CR R by kernel_rfl, show total (lay (TR R)).code = 2 by kernel_rfl] at h
  exact h

theorem compileR {R : Nat} (h : okR R) (w : World) : Calls Tryd.prog 6 #[.string (XR R)] w fun e w' => (∃ pb cb cap, e = .returned (.tuple #[.pointer (some ⟨pb, 0, none⟩), .agg #[.int .i64 0, .int .i64 0]]) ∧ PatAt w'.heap.size w' pb cb cap (CR R) 0 0 2) ∧ Below w.heap.size w w' := by
  have hc := compile_met (XR_asc R) (by rw [XR_size]; decide) (parseR h) (by rw [XR_size]) (by kernel_rfl) (Nat.le_of_ble_eq_true (by kernel_rfl)) (Nat.le_of_ble_eq_true (by kernel_rfl)) (Nat.le_of_ble_eq_true (by kernel_rfl)) w
  rw [codeR, show (lay (TR R)).loops = 0 by kernel_rfl, show total (lay (TR R)).code = 2 by kernel_rfl] at hc
  exact hc

theorem hexIdx (d : Nat) (h : d < (⟨#[48, 49, 50, 51, 52, 53, 54, 55, 56, 57, 97, 98, 99, 100, 101, 102]⟩ : ByteArray).size) : (⟨#[48, 49, 50, 51, 52, 53, 54, 55, 56, 57, 97, 98, 99, 100, 101, 102]⟩ : ByteArray)[d]'h = dch d := by
  have h16 : d < 16 := h
  have : d = 0 ∨ d = 1 ∨ d = 2 ∨ d = 3 ∨ d = 4 ∨ d = 5 ∨ d = 6 ∨ d = 7 ∨ d = 8 ∨ d = 9 ∨ d = 10 ∨ d = 11 ∨ d = 12 ∨ d = 13 ∨ d = 14 ∨ d = 15 := by omega
  rcases this with rfl | rfl | rfl | rfl | rfl | rfl | rfl | rfl | rfl | rfl | rfl | rfl | rfl | rfl | rfl | rfl <;> rfl

end Go.Proofs.YtlanodchnjojoaaDoor
