/- The plain reader: what a pattern's text says, and how that lies in memory. -/
import Derived.Test.YtlanodchnjojoaaDoorNu
namespace Go.Proofs.YtlanodchnjojoaaDoor
open Go.RowKit

/-- What is read: lists, parts of one sign, parts that are groups, branches. -/
inductive T
  | nil
  | cons (x r : T)
  | pl (what r : Nat) (l m : Int) (z : Nat)
  | pg (g : Nat) (bs : T) (l m : Int) (z : Nat)
  | lst (ps : T)
  deriving DecidableEq

inductive Atm
  | leaf (what r : Nat)
  | grp (g : Nat) (bs : T)

def Atm.part : Atm → Int → Int → Nat → T
  | .leaf what r, l, m, z => .pl what r l m z
  | .grp g bs, l, m, z => .pg g bs l m z

def T.len : T → Nat
  | .cons _ r => r.len + 1
  | _ => 0
def T.snoc : T → T → T
  | .cons y r, x => .cons y (r.snoc x)
  | _, x => .cons x .nil
def T.toL : T → List T
  | .cons x r => x :: r.toL
  | _ => []
/-- A list that ends as lists do. -/
def T.isL : T → Bool
  | .cons _ r => r.isL
  | .nil => true
  | _ => false

structure PS where
  at_ : Nat
  g : Nat
  z : Nat
  deriving DecidableEq

def isSign (c : Nat) : Bool := [40, 41, 91, 93, 123, 125, 42, 43, 63, 124, 46, 94, 36, 92, 45].contains c

/-- A digit to the base 16 (a small one), and its value. -/
def hexD (c : Nat) : Bool := decide (48 ≤ c ∧ c ≤ 57) || decide (97 ≤ c ∧ c ≤ 102)
def hexV (c : Nat) : Nat := if c ≤ 57 then c - 48 else c - 87
/-- The value of so many digits from a place on, behind what came ahead of them. -/
def hexN (s : ByteArray) : Nat → Nat → Nat → Nat
  | 0, _, v => v
  | n + 1, i, v => hexN s n (i + 1) (v * 16 + hexV (byt s i))
/-- A rune by its number, behind its backslash: six digits. -/
def pEsc (s : ByteArray) (a : Nat) : Option Nat :=
  if byt s (a + 1) = 58 ∧ (∀ i < 6, hexD (byt s (a + 2 + i)) = true) ∧ byt s (a + 8) = 59 ∧ wid (hexN s 6 (a + 2) 0 : Nat) ≠ 0 then some (hexN s 6 (a + 2) 0) else none

def pAtom (rec : PS → Option (T × Nat × PS)) (s : ByteArray) (p : PS) : Option (Atm × Nat × PS) :=
  if 2048 < p.z + 1 then none
  else if byt s p.at_ = 40 then
    if p.g = 31 then none
    else match rec ⟨p.at_ + 1, p.g + 1, p.z + 1⟩ with
      | some (bs, sz, q) => if byt s q.at_ = 41 then some (.grp (p.g + 1) bs, sz + 1, ⟨q.at_ + 1, q.g, q.z⟩) else none
      | none => none
  else if byt s p.at_ = 92 then
    match pEsc s p.at_ with
    | some v => some (.leaf 0 v, 1, ⟨p.at_ + 9, p.g, p.z + 1⟩)
    | none => none
  else if byt s p.at_ = 91 ∨ byt s p.at_ = 94 ∨ byt s p.at_ = 36 then none
  else if byt s p.at_ = 46 then some (.leaf 1 0, 1, ⟨p.at_ + 1, p.g, p.z + 1⟩)
  else if isSign (byt s p.at_) then none
  else some (.leaf 0 (byt s p.at_), 1, ⟨p.at_ + 1, p.g, p.z + 1⟩)

/-- How often, behind a {: one number alone. -/
def pTimes (s : ByteArray) (at_ : Nat) : Option (Nat × Nat) :=
  match numL s at_ 4 at_ 0 with
  | some (n, a) => if byt s a = 125 then some (n, a + 1) else none
  | none => none

def fin (a : Atm) (sz : Nat) (l m : Int) (psz : Nat) (q : PS) : Option (T × Nat × PS) :=
  if sz ≤ psz ∧ q.z + (psz - sz) ≤ 2048 ∧ psz ≤ 2048 then some (a.part l m psz, psz, ⟨q.at_, q.g, q.z + (psz - sz)⟩) else none

def pPart (rec : PS → Option (T × Nat × PS)) (s : ByteArray) (p : PS) : Option (T × Nat × PS) :=
  match pAtom rec s p with
  | none => none
  | some (a, sz, q) =>
    if 2048 < sz ∨ s.size < q.at_ ∨ 2048 < q.z then none
    else if byt s q.at_ = 42 then fin a sz 0 (-1) sz ⟨q.at_ + 1, q.g, q.z⟩
    else if byt s q.at_ = 43 then fin a sz 1 (-1) (2 * sz) ⟨q.at_ + 1, q.g, q.z⟩
    else if byt s q.at_ = 63 then fin a sz 0 1 sz ⟨q.at_ + 1, q.g, q.z⟩
    else if byt s q.at_ = 123 then
      match pTimes s (q.at_ + 1) with
      | some (n, at') => if n ≤ 255 then fin a sz n n (sz * n) ⟨at', q.g, q.z⟩ else none
      | none => none
    else some (a.part 1 1 sz, sz, q)

def pLoop (rec : PS → Option (T × Nat × PS)) (s : ByteArray) : Nat → PS → Nat → T → T → Option (T × Nat × PS)
  | 0, _, _, _, _ => none
  | f + 1, p, size, cur, out =>
    if s.size < p.at_ ∨ 2048 < p.z ∨ 2048 < size ∨ 31 < p.g then none
    else if p.at_ < s.size ∧ byt s p.at_ ≠ 124 ∧ byt s p.at_ ≠ 41 then
      match pPart rec s p with
      | none => none
      | some (x, psz, q) => pLoop rec s f q (size + psz) (cur.snoc x) out
    else if byt s p.at_ = 124 then pLoop rec s f ⟨p.at_ + 1, p.g, p.z⟩ size .nil (out.snoc (.lst cur))
    else some (out.snoc (.lst cur), size, p)

def pB (s : ByteArray) : Nat → PS → Option (T × Nat × PS)
  | 0, _ => none
  | d + 1, p => pLoop (pB s d) s 100 p 0 .nil .nil

/-- A list's cells in memory, in blocks that are let. -/
def RowIs (w : World) (F : Nat → Prop) (v : Value) (n : Nat) (cs : List Value) : Prop :=
  (v = .slice none 0 0 ∧ n = 0) ∨ ∃ b cap, v = .slice (some ⟨b, 0, none⟩) n cap ∧ F b ∧ b < w.heap.size ∧ ∀ j x, cs[j]? = some x → w.cell? ⟨b, j, none⟩ = some x

def leafCells (what r : Nat) : List Value := [.int .i64 what, .int .i32 r, .bool false, .int .u8 0, .bool false, .slice none 0 0, .bool false, .int .i64 0, .slice none 0 0]
def grpCells (g : Nat) (v : Value) : List Value := [.int .i64 6, .int .i32 0, .bool false, .int .u8 0, .bool false, .slice none 0 0, .bool false, .int .i64 g, v]

/-- What is read, as it lies in memory: k: how many cells an item of the list has. -/
def Rep (w : World) (F : Nat → Prop) : Nat → T → List Value → Prop
  | _, .nil, cs => cs = []
  | k, .cons x r, cs => ∃ c1 c2, cs = c1 ++ c2 ∧ c1.length = k ∧ Rep w F 0 x c1 ∧ Rep w F k r c2
  | _, .pl what r l m z, cs => cs = leafCells what r ++ [.int .i64 l, .int .i64 m, .int .i64 z]
  | _, .pg g bs l m z, cs => ∃ v co, cs = grpCells g v ++ [.int .i64 l, .int .i64 m, .int .i64 z] ∧ RowIs w F v bs.len co ∧ co.length = bs.len * 1 ∧ Rep w F 1 bs co
  | _, .lst ps, cs => ∃ v co, cs = [v] ∧ RowIs w F v ps.len co ∧ co.length = ps.len * 12 ∧ Rep w F 12 ps co

/-- Branches in memory, as the value of their list. -/
def RepV (w : World) (F : Nat → Prop) (v : Value) (bs : T) : Prop := ∃ co, RowIs w F v bs.len co ∧ co.length = bs.len * 1 ∧ Rep w F 1 bs co
def RepA (w : World) (F : Nat → Prop) : Atm → List Value → Prop
  | .leaf what r, cs => cs = leafCells what r
  | .grp g bs, cs => ∃ v, cs = grpCells g v ∧ RepV w F v bs

theorem RowIs.keep {w w' : World} {F F' : Nat → Prop} {v : Value} {n : Nat} {cs : List Value} (h : RowIs w F v n cs) (hF : ∀ b, b < w.heap.size → F b → F' b) (hs : w.heap.size ≤ w'.heap.size) (hk : ∀ b, b < w.heap.size → F b → w'.heap[b]? = w.heap[b]?) : RowIs w' F' v n cs := by
  rcases h with h | ⟨b, cap, h1, h2, h3, h4⟩
  · exact .inl h
  · exact .inr ⟨b, cap, h1, hF b h3 h2, Nat.lt_of_lt_of_le h3 hs, fun j x hj => by
      have := h4 j x hj
      simp only [World.cell?, hk b h3 h2] at this ⊢
      exact this⟩

theorem Rep.keep {w w' : World} {F F' : Nat → Prop} (hF : ∀ b, b < w.heap.size → F b → F' b) (hs : w.heap.size ≤ w'.heap.size) (hk : ∀ b, b < w.heap.size → F b → w'.heap[b]? = w.heap[b]?) :
    ∀ (t : T) (k : Nat) (cs : List Value), Rep w F k t cs → Rep w' F' k t cs
  | .nil, _, _, h => h
  | .cons x r, k, cs, ⟨c1, c2, h1, h2, h3, h4⟩ => ⟨c1, c2, h1, h2, Rep.keep hF hs hk x _ _ h3, Rep.keep hF hs hk r _ _ h4⟩
  | .pl .., _, _, h => h
  | .pg _ bs .., _, _, ⟨v, co, h1, h2, h3, h4⟩ => ⟨v, co, h1, h2.keep hF hs hk, h3, Rep.keep hF hs hk bs _ _ h4⟩
  | .lst ps, _, _, ⟨v, co, h1, h2, h3, h4⟩ => ⟨v, co, h1, h2.keep hF hs hk, h3, Rep.keep hF hs hk ps _ _ h4⟩

theorem RepV.keep {w w' : World} {F F' : Nat → Prop} (hF : ∀ b, b < w.heap.size → F b → F' b) (hs : w.heap.size ≤ w'.heap.size) (hk : ∀ b, b < w.heap.size → F b → w'.heap[b]? = w.heap[b]?) {v : Value} {bs : T} (h : RepV w F v bs) : RepV w' F' v bs := by
  obtain ⟨co, h1, h2, h3⟩ := h
  exact ⟨co, h1.keep hF hs hk, h2, Rep.keep hF hs hk _ _ _ h3⟩
theorem RepA.keep {w w' : World} {F F' : Nat → Prop} (hF : ∀ b, b < w.heap.size → F b → F' b) (hs : w.heap.size ≤ w'.heap.size) (hk : ∀ b, b < w.heap.size → F b → w'.heap[b]? = w.heap[b]?) {a : Atm} {cs : List Value} (h : RepA w F a cs) : RepA w' F' a cs := by
  cases a with
  | leaf what r => exact h
  | grp g bs => obtain ⟨v, h1, h2⟩ := h; exact ⟨v, h1, h2.keep hF hs hk⟩

theorem RepA.len {w : World} {F : Nat → Prop} {a : Atm} {cs : List Value} (h : RepA w F a cs) : cs.length = 9 := by
  cases a with
  | leaf what r => cases h; rfl
  | grp g bs => obtain ⟨v, h1, h2⟩ := h; subst h1; rfl
theorem RepA.part {w : World} {F : Nat → Prop} {a : Atm} {cs : List Value} (h : RepA w F a cs) (l m : Int) (z : Nat) : Rep w F 0 (a.part l m z) (cs ++ [.int .i64 l, .int .i64 m, .int .i64 z]) := by
  cases a with
  | leaf what r => cases h; rfl
  | grp g bs =>
    obtain ⟨v, h1, co, h2, h3, h4⟩ := h
    subst h1
    exact ⟨v, co, rfl, h2, h3, h4⟩

theorem T.len_snoc : ∀ t x : T, t.isL = true → (t.snoc x).len = t.len + 1
  | .nil, _, _ => rfl
  | .cons _ r, x, h => by simp only [T.snoc, T.len]; rw [T.len_snoc r x h]
theorem T.isL_snoc : ∀ t x : T, t.isL = true → (t.snoc x).isL = true
  | .nil, _, _ => rfl
  | .cons _ r, x, h => T.isL_snoc r x h
theorem Rep.snoc {w : World} {F : Nat → Prop} {k : Nat} {x : T} {c : List Value} (hx : Rep w F 0 x c) (hc : c.length = k) : ∀ (t : T) (cs : List Value), t.isL = true → Rep w F k t cs → Rep w F k (t.snoc x) (cs ++ c)
  | .nil, cs, _, h => by
    cases h
    exact ⟨c, [], by simp, hc, hx, rfl⟩
  | .cons y r, cs, hl, ⟨c1, c2, h1, h2, h3, h4⟩ => ⟨c1, c2 ++ c, by rw [h1, List.append_assoc], h2, h3, Rep.snoc hx hc r c2 hl h4⟩

/-- The parts' cells by their number. -/
theorem Rep.get {w : World} {F : Nat → Prop} {k : Nat} : ∀ (t : T) (cs : List Value) (i : Nat) (x : T), Rep w F k t cs → t.toL[i]? = some x → ∃ c, c.length = k ∧ Rep w F 0 x c ∧ ∀ j v, c[j]? = some v → cs[i * k + j]? = some v
  | .nil, _, _, _, _, h => by simp [T.toL] at h
  | .pl .., _, _, _, _, h => by simp [T.toL] at h
  | .pg .., _, _, _, _, h => by simp [T.toL] at h
  | .lst .., _, _, _, _, h => by simp [T.toL] at h
  | .cons y r, cs, 0, x, ⟨c1, c2, h1, h2, h3, h4⟩, h => by
    simp [T.toL] at h
    subst h
    refine ⟨c1, h2, h3, fun j v hj => ?_⟩
    have := (List.getElem?_eq_some_iff.1 hj).1
    rw [h1, Nat.zero_mul, Nat.zero_add, List.getElem?_append_left this, hj]
  | .cons y r, cs, i + 1, x, ⟨c1, c2, h1, h2, h3, h4⟩, h => by
    simp [T.toL] at h
    obtain ⟨c, g1, g2, g3⟩ := Rep.get r c2 i x h4 h
    refine ⟨c, g1, g2, fun j v hj => ?_⟩
    have e : (i + 1) * k + j = c1.length + (i * k + j) := by rw [h2, Nat.succ_mul]; omega
    rw [h1, e, List.getElem?_append_right (by omega), Nat.add_sub_cancel_left]
    exact g3 j v hj

theorem RowIs.own {w : World} {B : Nat} {e : TypeId} {size n : Nat} {v : Value} {cs : List Value} {F : Nat → Prop} (h : w.ownsRow B e size v n cs) (hF : ∀ b, v.ownBlock = some b → F b) : RowIs w F v n cs := by
  rcases h.2 with ⟨h1, h2⟩ | ⟨g, cap, cur, h1, h2, h3, h4, h5, h6, h7⟩
  · exact .inl ⟨h1, h2⟩
  · subst h1
    refine .inr ⟨g, cap, rfl, hF g rfl, get_lt h3, fun j x hj => ?_⟩
    rw [← h7, List.getElem?_take] at hj
    split at hj
    · simp only [Array.getElem?_toList] at hj
      simp [World.cell?, h3, hj]
    · cases hj

end Go.Proofs.YtlanodchnjojoaaDoor
