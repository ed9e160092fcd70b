/- The pattern "a" is not found in a text of other small bytes. -/
import Derived.Test.YtlanodchnjojoaaDoorWk
import Derived.Test.YtlanodchnjojoaaDoorFf
import Derived.Test.YtlanodchnjojoaaDoorIt
import Derived.Lib.MapLaws
import Derived.Lib.QuoteLoop
namespace Go.Proofs.YtlanodchnjojoaaDoor
open Go.RowKit

theorem mem_piecesFrom (s : ByteArray) : ∀ (f pos : Nat) (p : Pc), p ∈ piecesFrom s f pos → ∃ i, i < s.size ∧ p = pieceAt s i
  | 0, pos, p, h => by simp [piecesFrom] at h
  | f + 1, pos, p, h => by
    unfold piecesFrom at h
    split at h
    · rename_i hp
      rcases List.mem_cons.1 h with h | h
      · exact ⟨pos, hp, h⟩
      · exact mem_piecesFrom s f _ p h
    · simp at h
theorem mem_pieces {s : ByteArray} {p : Pc} (h : p ∈ pieces s) : ∃ i, i < s.size ∧ p = pieceAt s i := mem_piecesFrom s _ _ p h

theorem CA_noWay {ps : List Pc} (h : ∀ p ∈ ps, p.rune ≠ 97) (k t : Nat) : ¬ Way CA ps k t := by
  rintro ⟨pc, c, r, st, hst, ho⟩
  have key : ∀ y, Reach CA ps ⟨0, 0, k⟩ y → y = ⟨0, 0, k⟩ := by
    intro y hy
    induction hy with
    | refl => rfl
    | tail _ h2 ih =>
      subst ih
      simp only [succ, CA, List.getElem?_cons_zero] at h2
      split at h2
      · rename_i p hp
        have := h p (List.mem_of_getElem? hp)
        have e : acc ⟨0, 0, 97, 0, 0, 0, [], 0⟩ p = false := by simp [acc, this]
        rw [e] at h2
        simp at h2
      · simp at h2
  have := key _ r
  cases this
  simp only [CA, List.getElem?_cons_zero, Option.some.injEq] at hst
  subst hst
  cases ho

end Go.Proofs.YtlanodchnjojoaaDoor

namespace Go.Proofs.YtlanodchnjojoaaDoor
open Go.RowKit

/-- A rune that has a form of its own. -/
def okR (r : Nat) : Prop := r ≤ 1114111 ∧ ¬ (55296 ≤ r ∧ r < 57344)
theorem okR_valid {r : Nat} (h : okR r) : Utf8.valid (r : Int) = true := by
  obtain ⟨h1, h2⟩ := h
  simp only [Utf8.valid, Bool.or_eq_true, Bool.and_eq_true, decide_eq_true_eq]
  omega
theorem enc_form {r : Nat} (h : okR r) : Utf8.encode (r : Int) = if r < 128 then ⟨#[UInt8.ofNat r]⟩ else if r < 2048 then ⟨#[UInt8.ofNat (192 + r / 64), UInt8.ofNat (128 + r % 64)]⟩
    else if r < 65536 then ⟨#[UInt8.ofNat (224 + r / 4096), UInt8.ofNat (128 + r / 64 % 64), UInt8.ofNat (128 + r % 64)]⟩
    else ⟨#[UInt8.ofNat (240 + r / 262144), UInt8.ofNat (128 + r / 4096 % 64), UInt8.ofNat (128 + r / 64 % 64), UInt8.ofNat (128 + r % 64)]⟩ := by
  unfold Utf8.encode
  simp only [okR_valid h, if_true, Int.toNat_natCast]
theorem enc_size {r : Nat} (h : okR r) : (Utf8.encode (r : Int)).size = if r < 128 then 1 else if r < 2048 then 2 else if r < 65536 then 3 else 4 := by
  rw [enc_form h]
  split
  · rfl
  · split
    · rfl
    · split <;> rfl
theorem wid_ok {r : Nat} (h : okR r) : wid (r : Int) ≠ 0 := by
  have hs : (Utf8.encode (r : Int)).size ≠ 0 := by
    have : 1 ≤ (Utf8.encode (r : Int)).size := by
      rw [enc_size h]
      split
      · omega
      · split
        · omega
        · split <;> omega
    omega
  unfold wid
  split
  · rename_i hc
    simp only [Bool.and_eq_true, bne_iff_ne, ne_eq, beq_iff_eq] at hc
    exfalso
    obtain ⟨h1, h2⟩ := hc
    rw [enc_form h, ByteArray.toList_eq, ByteArray.toList_eq] at h2
    split at h2
    · have := congrArg List.length h2; simp [lostB] at this
    · split at h2
      · have := congrArg List.length h2; simp [lostB] at this
      · split at h2
        · simp only [lostB, List.cons.injEq, and_true] at h2
          obtain ⟨a, b, c⟩ := h2
          have a' := congrArg UInt8.toNat a
          have b' := congrArg UInt8.toNat b
          have c' := congrArg UInt8.toNat c
          simp only [UInt8.toNat_ofNat'] at a' b' c'
          have e1 : UInt8.toNat 239 = 239 := rfl
          have e2 : UInt8.toNat 191 = 191 := rfl
          have e3 : UInt8.toNat 189 = 189 := rfl
          rw [e1] at a'; rw [e2] at b'; rw [e3] at c'
          omega
        · have := congrArg List.length h2; simp [lostB] at this
  · exact hs

/-- A piece that is no broken byte is as wide as its rune's form. -/
theorem dec_width {s : ByteArray} {pos : Nat} (hp : pos < s.size) (h : ¬ ((Utf8.decode s pos).1 = 65533 ∧ (Utf8.decode s pos).2 = 1)) :
    okR (Utf8.decode s pos).1 ∧ (Utf8.decode s pos).2 = (Utf8.encode ((Utf8.decode s pos).1 : Int)).size := by
  have k0 := (s.get! pos).toNat_lt
  have k1 := (s.get! (pos + 1)).toNat_lt
  have k2 := (s.get! (pos + 2)).toNat_lt
  have k3 := (s.get! (pos + 3)).toNat_lt
  rw [Lib.decode_at] at h ⊢
  rcases Lib.decodeN_shape (s.size - pos) (s.get! pos).toNat (s.get! (pos + 1)).toNat (s.get! (pos + 2)).toNat (s.get! (pos + 3)).toNat with ⟨c, e⟩ | ⟨c1, c2, c3, cv, e⟩ | ⟨c1, c2, c3, c4, cv, cs, e⟩ | ⟨c1, c2, c3, c4, c5, cv, cw, e⟩ | e
  · have ho : okR (s.get! pos).toNat := ⟨by omega, by omega⟩
    rw [e]; exact ⟨ho, by rw [enc_size ho, if_pos c]⟩
  · have ho : okR ((s.get! pos).toNat % 32 * 64 + (s.get! (pos + 1)).toNat % 64) := ⟨by omega, by omega⟩
    rw [e]; exact ⟨ho, by rw [enc_size ho, if_neg (by omega), if_pos (by omega)]⟩
  · have ho : okR ((s.get! pos).toNat % 16 * 4096 + (s.get! (pos + 1)).toNat % 64 * 64 + (s.get! (pos + 2)).toNat % 64) := ⟨by omega, by omega⟩
    rw [e]; exact ⟨ho, by rw [enc_size ho, if_neg (by omega), if_neg (by omega), if_pos (by omega)]⟩
  · have ho : okR ((s.get! pos).toNat % 8 * 262144 + (s.get! (pos + 1)).toNat % 64 * 4096 + (s.get! (pos + 2)).toNat % 64 * 64 + (s.get! (pos + 3)).toNat % 64) := ⟨by omega, by omega⟩
    rw [e]; exact ⟨ho, by rw [enc_size ho, if_neg (by omega), if_neg (by omega), if_neg (by omega)]⟩
  · rw [e] at h; exact (h ⟨rfl, rfl⟩).elim
theorem dec_le {s : ByteArray} {pos : Nat} (hp : pos < s.size) : pos + (Utf8.decode s pos).2 ≤ s.size := by
  rw [Lib.decode_at]
  have := Lib.decodeN_width_le (s.size - pos) (s.get! pos).toNat (s.get! (pos + 1)).toNat (s.get! (pos + 2)).toNat (s.get! (pos + 3)).toNat (by omega)
  omega

theorem get!_extract {s : ByteArray} {pos : Nat} {x y z : UInt8} (h : (s.extract pos (pos + 3)).toList = [x, y, z]) : s.get! pos = x ∧ s.get! (pos + 1) = y ∧ s.get! (pos + 2) = z ∧ pos + 3 ≤ s.size := by
  rw [ByteArray.toList_eq, ByteArray.data_extract, Array.toList_extract] at h
  have hl := congrArg List.length h
  simp only [List.extract, List.length_take, List.length_drop, Array.length_toList, List.length_cons, List.length_nil] at hl
  have hsz : s.data.size = s.size := rfl
  have hk : pos + 3 ≤ s.size := by omega
  have hg : ∀ j v, j < 3 → [x, y, z][j]? = some v → s.get! (pos + j) = v := fun j v hj hv => by
    rw [← h] at hv
    simp only [List.extract, List.getElem?_take, List.getElem?_drop] at hv
    split at hv
    · have hlt : pos + j < s.data.size := by omega
      rw [Array.getElem?_toList, Array.getElem?_eq_getElem hlt] at hv
      show s.data[pos + j]! = v
      rw [getElem!_pos s.data (pos + j) hlt]
      exact Option.some.inj hv
    · cases hv
  exact ⟨hg 0 x (by omega) rfl, hg 1 y (by omega) rfl, hg 2 z (by omega) rfl, hk⟩

/-- Is a rune met at a place, whole? As the law's own test says it. -/
def metR (s : ByteArray) (r pos : Nat) : Bool := decide ((Utf8.decode s pos).1 = r) && (decide (r ≠ 65533) || (decide (3 ≤ s.size - pos) && ((s.extract pos (pos + 3)).toList == lostB.toList)))
theorem metR_piece {s : ByteArray} {r pos : Nat} : metR s r pos = (!(pieceAt s pos).broken && (pieceAt s pos).rune == (r : Int)) := by
  unfold metR pieceAt brk
  by_cases h1 : (Utf8.decode s pos).1 = 65533
  · rw [h1]
    by_cases hr : r = 65533
    · subst hr
      by_cases h2 : s.size - pos < 3
      · have h3 : ¬ 3 ≤ s.size - pos := by omega
        simp [h2, h3]
      · have h3 : 3 ≤ s.size - pos := by omega
        cases h4 : ((s.extract pos (pos + 3)).toList == lostB.toList)
        · simp [h2, h3, h4, bne]
        · simp [h2, h3, h4, bne]
    · have hr' : ¬ (65533 = r) := fun h => hr h.symm
      by_cases h5 : (decide (s.size - pos < 3) || (s.extract pos (pos + 3)).toList != lostB.toList) = true
      · simp [hr', h5]
      · simp only [Bool.not_eq_true] at h5
        have : ((65533 : Int) == (r : Int)) = false := by rw [beq_eq_false_iff_ne]; omega
        simp [hr', h5, this]
  · have hb : ((Utf8.decode s pos).1 == 65533) = false := by rw [beq_eq_false_iff_ne]; exact h1
    simp only [hb, Bool.false_and, Bool.false_eq_true, if_false, Bool.not_false, Bool.true_and]
    by_cases hr : (Utf8.decode s pos).1 = r
    · have : r ≠ 65533 := by rw [← hr]; exact h1
      simp [hr, this]
    · have : (((Utf8.decode s pos).1 : Int) == (r : Int)) = false := by rw [beq_eq_false_iff_ne]; omega
      simp [hr, this]
theorem metR_width {s : ByteArray} {r pos : Nat} (hp : pos < s.size) (h : metR s r pos = true) : okR r ∧ (Utf8.decode s pos).2 = (Utf8.encode (r : Int)).size := by
  unfold metR at h
  simp only [Bool.and_eq_true, Bool.or_eq_true, decide_eq_true_eq, beq_iff_eq] at h
  obtain ⟨h1, h2⟩ := h
  have := dec_width hp (fun hc => by
    rcases h2 with h2 | ⟨_, h3⟩
    · exact h2 (by rw [← h1]; exact hc.1)
    · obtain ⟨a, b, c, d⟩ := get!_extract (x := 239) (y := 191) (z := 189) (by rw [h3, ByteArray.toList_eq]; rfl)
      have e := hc.2
      rw [Lib.decode_at, a, b, c] at e
      have e1 : (239 : UInt8).toNat = 239 := rfl
      have e2 : (191 : UInt8).toNat = 191 := rfl
      have e3 : (189 : UInt8).toNat = 189 := rfl
      rw [e1, e2, e3] at e
      have n1 : 1 < s.size - pos := by omega
      have n2 : 2 < s.size - pos := by omega
      simp [Lib.decodeN, n1, n2] at e)
  rw [h1] at this
  exact this

theorem pieceAt_at (s : ByteArray) (pos : Nat) : (pieceAt s pos).at_ = pos := by unfold pieceAt; split <;> rfl
/-- The pieces, one behind the other. -/
theorem chain (s : ByteArray) : ∀ (f pos k : Nat) (p : Pc), s.size ≤ pos + f → (piecesFrom s f pos)[k]? = some p →
    p = pieceAt s p.at_ ∧ p.at_ < s.size ∧ (piecesFrom s f pos)[k + 1]? = if p.at_ + (Utf8.decode s p.at_).2 < s.size then some (pieceAt s (p.at_ + (Utf8.decode s p.at_).2)) else none
  | 0, pos, k, p, _, h => by simp [piecesFrom] at h
  | f + 1, pos, k, p, hf, h => by
    have hw := Lib.width_pos s pos
    simp only [piecesFrom] at h ⊢
    split at h
    · rename_i hp
      rw [if_pos hp]
      cases k with
      | zero =>
        simp only [List.getElem?_cons_zero, Option.some.injEq] at h
        subst h
        rw [pieceAt_at]
        refine ⟨rfl, hp, ?_⟩
        rw [List.getElem?_cons_succ]
        cases f with
        | zero => simp only [piecesFrom]; rw [if_neg (by omega)]; rfl
        | succ f =>
          simp only [piecesFrom]
          by_cases hq : pos + (Utf8.decode s pos).2 < s.size
          · rw [if_pos hq, if_pos hq]; rfl
          · rw [if_neg hq, if_neg hq]; rfl
      | succ k =>
        rw [List.getElem?_cons_succ] at h ⊢
        exact chain s f _ k p (by omega) h
    · simp at h

theorem plcS_lt {s : ByteArray} {k : Nat} (hk : k < (pieces s).length) : plcS s k < s.size ∧ (pieces s)[k]? = some (pieceAt s (plcS s k)) ∧ plcS s (k + 1) = plcS s k + (Utf8.decode s (plcS s k)).2 := by
  have hg := List.getElem?_eq_getElem hk
  obtain ⟨h1, h2, h3⟩ := chain s s.size 0 k _ (by omega) hg
  have hp : plcS s k = ((pieces s)[k]).at_ := by unfold plcS; rw [hg]; rfl
  have hle := dec_le h2
  rw [← hp] at h1 h2 h3 hle
  refine ⟨h2, by rw [hg, ← h1], ?_⟩
  have h3' : (pieces s)[k + 1]? = if plcS s k + (Utf8.decode s (plcS s k)).2 < s.size then some (pieceAt s (plcS s k + (Utf8.decode s (plcS s k)).2)) else none := h3
  have e : plcS s (k + 1) = ((pieces s)[k + 1]?.map (·.at_)).getD s.size := rfl
  rw [e, h3']
  split
  · simp [pieceAt_at]
  · simp; omega
theorem plcS_end {s : ByteArray} : plcS s (pieces s).length = s.size := by unfold plcS; simp
theorem plcS_zero {s : ByteArray} : plcS s 0 = 0 := by
  unfold plcS pieces
  cases h : s.size with
  | zero => rfl
  | succ n =>
    simp only [piecesFrom]
    rw [if_pos (by omega)]
    simp [pieceAt_at]

/-- Is the rune met at a piece? -/
def hitK (s : ByteArray) (r k : Nat) : Bool := decide (k < (pieces s).length) && metR s r (plcS s k)

/-- The code of one rune's pattern. -/
def CR (r : Nat) : List Step := [⟨0, 0, r, 0, 0, 0, [], 0⟩, ⟨8, 0, 0, 0, 0, 0, [], 1⟩]

theorem CR_way {s : ByteArray} {r k t : Nat} : Way (CR r) (pieces s) k t ↔ (hitK s r k = true ∧ t = k + 1) := by
  have hsucc : ∀ c, succ (CR r) (pieces s) ⟨0, c, k⟩ = if hitK s r k = true then [⟨1, 0, k + 1⟩] else [] := fun c => by
    simp only [succ, CR, List.getElem?_cons_zero]
    by_cases hk : k < (pieces s).length
    · obtain ⟨_, h2, _⟩ := plcS_lt hk
      rw [h2]
      have e : acc ⟨0, 0, (r : Int), 0, 0, 0, [], 0⟩ (pieceAt s (plcS s k)) = hitK s r k := by
        unfold hitK; rw [metR_piece]; simp [acc, hk]
      simp only [e]
      rfl
    · have e : hitK s r k = false := by unfold hitK; simp [hk]
      rw [List.getElem?_eq_none (by omega), e]; rfl
  constructor
  · rintro ⟨pc, c, hr, st, hst, ho⟩
    have key : ∀ y, Reach (CR r) (pieces s) ⟨0, 0, k⟩ y → y = ⟨0, 0, k⟩ ∨ (hitK s r k = true ∧ y = ⟨1, 0, k + 1⟩) := by
      intro y hy
      induction hy with
      | refl => exact .inl rfl
      | tail _ h2 ih =>
        rcases ih with ih | ⟨hh, ih⟩
        · subst ih
          rw [hsucc] at h2
          split at h2
          · rename_i hh
            simp only [List.mem_singleton] at h2
            exact .inr ⟨hh, h2⟩
          · simp at h2
        · subst ih
          simp [succ, CR] at h2
    rcases key _ hr with e | ⟨hh, e⟩
    · cases e
      simp only [CR, List.getElem?_cons_zero, Option.some.injEq] at hst
      subst hst; cases ho
    · cases e
      exact ⟨hh, rfl⟩
  · rintro ⟨hh, rfl⟩
    refine ⟨1, 0, Reach.one (by rw [hsucc, if_pos hh]; simp), ⟨8, 0, 0, 0, 0, 0, [], 1⟩, rfl, rfl⟩

theorem hitK_len {s : ByteArray} {r k : Nat} (h : hitK s r k = true) : k < (pieces s).length ∧ metR s r (plcS s k) = true := by
  unfold hitK at h; simpa using h
theorem hitK_width {s : ByteArray} {r k : Nat} (h : hitK s r k = true) : plcS s (k + 1) = plcS s k + (Utf8.encode (r : Int)).size ∧ 1 ≤ (Utf8.encode (r : Int)).size := by
  obtain ⟨h1, h2⟩ := hitK_len h
  obtain ⟨h3, _, h5⟩ := plcS_lt h1
  obtain ⟨h6, h7⟩ := metR_width h3 h2
  have := Lib.width_pos s (plcS s k)
  exact ⟨by rw [h5, h7], by omega⟩

/-- The piece behind the last of these. -/
def nextOf (pre : List Nat) : Nat := (pre.getLast?.map (· + 1)).getD 0
theorem nextOf_snoc (pre : List Nat) (k : Nat) : nextOf (pre ++ [k]) = k + 1 := by simp [nextOf]
theorem nextOf_hits {hit : Nat → Bool} : ∀ n, nextOf (hitsTo hit n) ≤ n ∧ ∀ i, nextOf (hitsTo hit n) ≤ i → i < n → hit i = false
  | 0 => ⟨by simp [hitsTo, nextOf], fun i _ h => by omega⟩
  | n + 1 => by
    obtain ⟨h1, h2⟩ := nextOf_hits (hit := hit) n
    by_cases hh : hit n = true
    · rw [hitsTo_hit hh, nextOf_snoc]
      exact ⟨Nat.le_refl _, fun i h3 h4 => by omega⟩
    · have hf : hit n = false := by simpa using hh
      have e : hitsTo hit (n + 1) = hitsTo hit n := hitsTo_skip (k := n) 1 fun j h3 h4 => by
        have : j = n := by omega
        subst this; exact hf
      rw [e]
      refine ⟨by omega, fun i h3 h4 => ?_⟩
      by_cases hi : i = n
      · subst hi; exact hf
      · exact h2 i h3 (by omega)
theorem prefix_hits {hit : Nat → Bool} {pre : List Nat} {k : Nat} : ∀ n, pre ++ [k] <+: hitsTo hit n → hit k = true ∧ k < n ∧ pre = hitsTo hit k
  | 0, h => by
    have := List.IsPrefix.length_le h
    simp [hitsTo] at this
  | n + 1, h => by
    by_cases hh : hit n = true
    · rw [hitsTo_hit hh] at h
      by_cases hl : (pre ++ [k]).length ≤ (hitsTo hit n).length
      · have h' : pre ++ [k] <+: hitsTo hit n := List.prefix_of_prefix_length_le h (List.prefix_append _ _) hl
        obtain ⟨a, b, c⟩ := prefix_hits n h'
        exact ⟨a, by omega, c⟩
      · have he : pre ++ [k] = hitsTo hit n ++ [n] := by
          refine List.IsPrefix.eq_of_length h ?_
          have := List.IsPrefix.length_le h
          simp at this hl ⊢
          omega
        obtain ⟨e1, e2⟩ := List.append_inj' he rfl
        simp at e2
        subst e2
        exact ⟨hh, by omega, e1⟩
    · have hf : hit n = false := by simpa using hh
      have e : hitsTo hit (n + 1) = hitsTo hit n := hitsTo_skip (k := n) 1 fun j h3 h4 => by
        have : j = n := by omega
        subst this; exact hf
      rw [e] at h
      obtain ⟨a, b, c⟩ := prefix_hits n h
      exact ⟨a, by omega, c⟩

end Go.Proofs.YtlanodchnjojoaaDoor
