/- The contract of the method met over a matcher's memory. -/
import Derived.Test.YtlanodchnjojoaaDoorMem
namespace Go.Proofs.YtlanodchnjojoaaDoor
open Go.RowKit

theorem wrap_pow (I : Nat) : IntKind.u64.wrap (2 ^ (I % 64)) = ((2 ^ (I % 64) : Nat) : Int) := by
  rw [IntKind.wrap_u64]
  have h : 2 ^ (I % 64) < 2 ^ 64 := Nat.pow_lt_pow_right (by decide) (Nat.mod_lt _ (by decide))
  have h2 : ((2 ^ (I % 64) : Nat) : Int) < 18446744073709551616 := by
    have : (2 : Nat) ^ 64 = 18446744073709551616 := by decide
    omega
  have h3 : ((2 : Int) ^ (I % 64)) = ((2 ^ (I % 64) : Nat) : Int) := by simp
  rw [h3]
  generalize 2 ^ (I % 64) = u at *
  omega
theorem pow_lt64 (I : Nat) : 2 ^ (I % 64) < 18446744073709551616 := by
  have h : 2 ^ (I % 64) < 2 ^ 64 := Nat.pow_lt_pow_right (by decide) (Nat.mod_lt _ (by decide))
  have : (2 : Nat) ^ 64 = 18446744073709551616 := by decide
  omega
theorem or_pow (x I : Nat) (hx : x < 18446744073709551616) : bits .or .u64 (x : Int) (IntKind.u64.wrap (2 ^ (I % 64))) = ((x ||| 2 ^ (I % 64) : Nat) : Int) := by
  rw [wrap_pow, u64_or_nat _ _ hx (pow_lt64 I)]
theorem bitB_eq (x I : Nat) (hx : x < 18446744073709551616) : bitB x I = x.testBit (I % 64) := by
  have h : ((x : Int) / 2 ^ (I % 64)) = ((x / 2 ^ (I % 64) : Nat) : Int) := by simp
  unfold bitB
  rw [h]
  have h1 : ((1 : Int)) = ((1 : Nat) : Int) := rfl
  rw [h1, u64_and_nat _ _ (Nat.lt_of_le_of_lt (Nat.div_le_self _ _) hx) (by decide), Nat.testBit_eq_decide_div_mod_eq, Nat.and_one_is_mod]
  generalize x / 2 ^ (I % 64) = y
  rw [Bool.eq_iff_iff, beq_iff_eq, decide_eq_true_iff]
  omega

/-- What met does. -/
def MetPost (w : World) (G : Geo) (D : Dyn) (bit : Nat → Nat → Bool) (jobs : List Job) (bg : List Nat) (I k : Nat) (e : Ending) (w' : World) : Prop :=
  (bit I k = true ∧ e = .returned (.bool true) ∧ w' = w) ∨
  (bit I k = false ∧ e = .returned (.bool false) ∧ ∃ D', D'.jm = D.jm ∧ D'.jv = D.jv ∧ D'.sb = D.sb ∧ D'.fb = D.fb ∧ D'.gb = D.gb ∧ Mat w' G D' (mark bit I k) jobs bg)

theorem natVals_get (l : List Nat) (j : Nat) (h : j < l.length) : (natVals l)[j]? = some (.int .i64 ((l[j]?.getD 0 : Nat) : Int)) := by
  simp [natVals, h]
theorem u64Vals_get (l : List Nat) (j : Nat) (h : j < l.length) : (u64Vals l)[j]? = some (.int .u64 ((l[j]?.getD 0 : Nat) : Int)) := by
  simp [u64Vals, h]
theorem u64_made (n j u : Nat) : (madeCells #[Value.int .u64 0] n).setIfInBounds j (.int .u64 (u : Int)) = (u64Vals ((List.replicate n 0).set j u)).toArray := by
  apply Array.toList_inj.1
  rw [Array.toList_setIfInBounds, toList_madeCells_one]
  simp [u64Vals, List.map_set]

theorem met_mat {w : World} {G : Geo} {D : Dyn} {bit : Nat → Nat → Bool} {jobs : List Job} {bg : List Nat} (h : Mat w G D bit jobs bg) (pc k : Nat) (hpc : pc < G.C.length) (hk : k ≤ G.ps.length) :
    Calls Tryd.prog 36 #[.pointer (some ⟨G.mb, 0, none⟩), .int .i64 pc, .int .i64 k] w (MetPost w G D bit jobs bg (idx G.C (stOf G.C bg pc k)) k) := by
  have hst := List.getElem?_eq_getElem hpc
  generalize hS : G.C[pc] = st at hst
  obtain ⟨la, lb, capl, hc, hla, hlb⟩ := h.pat.code pc st hst
  have hwf := h.wf.base _ _ hst
  have hIv : idx G.C (stOf G.C bg pc k) = st.base + cnt st.loops bg k st.loops.length := by
    simp [idx, stOf, hst]
  generalize hI : idx G.C (stOf G.C bg pc k) = I at hIv
  have hcl := cnt_le st.loops bg k st.loops.length
  have hIS : I < G.S := by omega
  have hsm := h.wf.small
  have hlen := h.wf.len
  have hnp := h.np
  have hm0 := h.m.cell (j := 0) (v := .pointer (some ⟨G.pb, 0, none⟩)) rfl
  have hm3 := h.m.cell (j := 3) (v := .slice (some ⟨G.bb, 0, none⟩) (G.ps.length + 1) (G.ps.length + 1)) rfl
  have hm6 := h.m.cell (j := 6) (v := .slice (some ⟨D.gb, 0, none⟩) G.nl G.nl) rfl
  have hs5 := hc 13 (.slice la st.loops.length capl) rfl
  have hs6 := hc 14 (.int .i64 st.base) rfl
  have hbg : ∀ l, l < G.nl → w.cell? ⟨D.gb, l, none⟩ = some (.int .i64 ((bg[l]?.getD 0 : Nat) : Int)) := fun l hl => h.be.cell (natVals_get bg l (by rw [h.bl]; exact hl))
  have hlt : ∀ j, j < st.loops.length → st.loops[j]?.getD 0 < G.nl := fun j hj => by
    rw [List.getElem?_eq_getElem hj]; exact hwf.2.2.1 _ (by simp)
  have hrk : k < D.rows.length := by rw [h.rl]; omega
  rcases h.row k hk with ⟨h1, h2⟩ | ⟨h1, h2, h3, h4, h5, h6, h7⟩
  · have hrow := h.bn.cell h1
    refine (met_new w G.mb G.pb G.cb G.bb D.gb lb G.C.length G.capc (G.ps.length + 1) G.nl capl pc k G.S st.base I la st.loops bg hm0 hm3 hm6 h.pat.c3 h.pat.c6 hs5 hla hs6 (fun j hj => (hlb j hj).2) hlt hbg hpc (by omega) (by omega) (by omega) (by omega) (by omega) (by omega)
      (Lib.hid hIv.symm) hIS hrow (h.bn.frozen k) (ne_of_tag h.tm h.tb (by decide)) h.bn.lt h.m.lt).mono ?_
    rintro e w' ⟨he, hw⟩
    obtain ⟨D', d1, d2, d3, d4, d5, hM⟩ := h.newRow hk hIS h1
    refine .inr ⟨h2 I hIS, he, D', d1, d2, d3, d4, d5, ?_⟩
    rw [hw]
    have e1 : bits .or .u64 0 (IntKind.u64.wrap (2 ^ (I % 64))) = ((2 ^ (I % 64) : Nat) : Int) := by
      have := or_pow 0 I (by decide)
      simpa using this
    rw [e1, u64_made]
    exact hM.drew.drew
  · have hrow := h.bn.cell h1
    have hwl : I / 64 < (D.wd k).length := by rw [h3]; omega
    have hx : (D.wd k)[I / 64]?.getD 0 < 18446744073709551616 := by
      rw [List.getElem?_eq_getElem hwl]; exact h6 _ (by simp)
    refine (met_old w G.mb G.pb G.cb G.bb D.gb (D.rb k) lb G.C.length G.capc (G.ps.length + 1) G.nl (G.S / 64 + 1) capl pc k G.S st.base I la st.loops bg ((D.wd k)[I / 64]?.getD 0) hm0 hm3 hm6 h.pat.c3 h.pat.c6 hs5 hla hs6 (fun j hj => (hlb j hj).2) hlt hbg hpc (by omega) (by omega) (by omega) (by omega) (by omega)
      (Lib.hid hIv.symm) (by omega) hrow (by omega) (h2.frozen _) (h2.cell (u64Vals_get _ _ hwl))).mono ?_
    rintro e w' (⟨g1, g2, g3⟩ | ⟨g1, g2, g3⟩)
    · rw [bitB_eq _ _ hx] at g1
      exact .inl ⟨by rw [h7 I hIS]; exact g1, g2, g3⟩
    · rw [bitB_eq _ _ hx] at g1
      refine .inr ⟨by rw [h7 I hIS]; exact g1, g2, { D with wd := fun k' => if k' = k then (D.wd k).set (I / 64) ((D.wd k)[I / 64]?.getD 0 ||| 2 ^ (I % 64)) else D.wd k' }, rfl, rfl, rfl, rfl, rfl, ?_⟩
      rw [g3, or_pow _ _ hx]
      exact (h.setRow hk hIS h1 rfl).drew

end Go.Proofs.YtlanodchnjojoaaDoor
