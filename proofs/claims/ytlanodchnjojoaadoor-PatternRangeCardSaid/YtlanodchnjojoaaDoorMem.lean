/- How a pattern's code and a matcher lie in memory, and what each write leaves of that. -/
import Derived.Test.YtlanodchnjojoaaDoorInv
import Derived.Maps.AppendAt
import Derived.Deep.AppendLies
import Derived.WalkSmall
import Derived.Laws.NewBlocks
namespace Go.Proofs.YtlanodchnjojoaaDoor
open Go.RowKit

/-- A block that is known whole, and may be written. -/
def Blk (w : World) (b : Nat) (t : TypeId) (xs : List Value) : Prop := w.heap[b]? = some (.cells xs.toArray t (0, 0))

theorem Blk.lt {w : World} {b : Nat} {t : TypeId} {xs : List Value} (h : Blk w b t xs) : b < w.heap.size := (Array.getElem?_eq_some_iff.1 h).1
theorem Blk.cell {w : World} {b : Nat} {t : TypeId} {xs : List Value} (h : Blk w b t xs) {j : Nat} {v : Value} (hj : xs[j]? = some v) : w.cell? ⟨b, j, none⟩ = some v := by
  unfold Blk at h
  simp [World.cell?, h, hj]
theorem Blk.frozen {w : World} {b : Nat} {t : TypeId} {xs : List Value} (h : Blk w b t xs) (j : Nat) : w.frozen? ⟨b, j, none⟩ = false := by
  unfold Blk at h
  simp [World.frozen?, h]
theorem Blk.keep {w w' : World} {b : Nat} {t : TypeId} {xs : List Value} (h : Blk w b t xs) (hk : w'.heap[b]? = w.heap[b]?) : Blk w' b t xs := by
  unfold Blk at *; rw [hk]; exact h
theorem Blk.set {w : World} {b : Nat} {t : TypeId} {xs : List Value} (h : Blk w b t xs) (j : Nat) (v : Value) : Blk (w.setCell ⟨b, j, none⟩ v) b t (xs.set j v) := by
  unfold Blk at *
  simp [World.setCell, Array.getElem?_modify, h]
theorem Blk.set_other {w : World} {b : Nat} {t : TypeId} {xs : List Value} (h : Blk w b t xs) {p : Addr} (hp : b ≠ p.block) (v : Value) : Blk (w.setCell p v) b t xs :=
  h.keep (Below.heap_setCell w p v b hp)
theorem Blk.alloc {w : World} {b : Nat} {t : TypeId} {xs : List Value} (h : Blk w b t xs) (o : Obj) : Blk (w.alloc o) b t xs := h.keep (Below.heap_alloc w o b h.lt)
theorem Blk.new (w : World) (t : TypeId) (xs : List Value) : Blk (w.alloc (.cells xs.toArray t)) w.heap.size t xs := by
  unfold Blk World.alloc; simp
theorem Blk.drew {w : World} {b : Nat} {t : TypeId} {xs : List Value} (h : Blk w b t xs) : Blk w.drew b t xs := h
theorem Blk.grown {w w' : World} {b : Nat} {t : TypeId} {xs : List Value} {row : Option Nat} (h : Blk w b t xs) (hg : w.grownBy w' row) (hne : some b ≠ row) : Blk w' b t xs :=
  h.keep (hg.block b h.lt hne)

def i64s (l : List Int) : List Value := l.map (Value.int .i64)
def natVals (l : List Nat) : List Value := l.map fun (n : Nat) => .int .i64 (n : Int)
def u64Vals (l : List Nat) : List Value := l.map fun (n : Nat) => .int .u64 (n : Int)

def stepCells (st : Step) (lv : Value) : List Value :=
  [.int .i64 st.dO, .int .i64 st.what, .int .i32 st.r, .bool false, .int .u8 0, .bool false, .slice none 0 0, .bool false, .int .i64 0, .slice none 0 0, .int .i64 st.grp, .int .i64 st.a, .int .i64 st.b, lv, .int .i64 st.base]

/-- A step of the code in memory. -/
def StepAt (B : Nat) (w : World) (cb i : Nat) (st : Step) : Prop :=
  ∃ la lb capl, (∀ (j : Nat) v, (stepCells st (.slice la st.loops.length capl))[j]? = some v → w.cell? ⟨cb, i * 15 + j, none⟩ = some v) ∧
    (∀ j, j < st.loops.length → la = some ⟨lb, 0, none⟩) ∧ (∀ j, j < st.loops.length → lb < B ∧ w.cell? ⟨lb, j, none⟩ = some (.int .i64 ((st.loops[j]?.getD 0 : Nat) : Int)))

/-- A pattern in memory, all of it below block B. -/
structure PatAt (B : Nat) (w : World) (pb cb capc : Nat) (C : List Step) (ng nl S : Nat) : Prop where
  pbB : pb < B
  cbB : cb < B
  c1 : w.cell? ⟨pb, 1, none⟩ = some (.int .i64 ng)
  c3 : w.cell? ⟨pb, 3, none⟩ = some (.slice (some ⟨cb, 0, none⟩) C.length capc)
  c4 : w.cell? ⟨pb, 4, none⟩ = some (.int .i64 nl)
  c6 : w.cell? ⟨pb, 6, none⟩ = some (.int .i64 S)
  code : ∀ i st, C[i]? = some st → StepAt B w cb i st

theorem PatAt.keep {B : Nat} {w w' : World} {pb cb capc : Nat} {C : List Step} {ng nl S : Nat} (h : PatAt B w pb cb capc C ng nl S) (hb : Below B w w') : PatAt B w' pb cb capc C ng nl S where
  pbB := h.pbB
  cbB := h.cbB
  c1 := (hb.cell (p := ⟨pb, 1, none⟩) h.pbB).trans h.c1
  c3 := (hb.cell (p := ⟨pb, 3, none⟩) h.pbB).trans h.c3
  c4 := (hb.cell (p := ⟨pb, 4, none⟩) h.pbB).trans h.c4
  c6 := (hb.cell (p := ⟨pb, 6, none⟩) h.pbB).trans h.c6
  code := fun i st hi => by
    obtain ⟨la, lb, capl, h1, h2, h3⟩ := h.code i st hi
    exact ⟨la, lb, capl, fun j v hj => (hb.cell (p := ⟨cb, i * 15 + j, none⟩) h.cbB).trans (h1 j v hj), h2, fun j hj => ⟨(h3 j hj).1, (hb.cell (p := ⟨lb, j, none⟩) (h3 j hj).1).trans (h3 j hj).2⟩⟩

def pcCells (p : Pc) : List Value := [.int .i64 p.at_, .int .i64 p.width, .int .i32 p.rune, .bool p.broken]
def jobCells : Job → List Value
  | .try_ pc k => [.int .i64 pc, .int .i64 k, .bool false, .bool false, .int .i64 0, .int .i64 0, .int .i64 0, .int .i64 0]
  | .loop l v => [.int .i64 0, .int .i64 0, .bool true, .bool true, .int .i64 l, .int .i64 0, .int .i64 0, .int .i64 v]
  | .grp g x y z => [.int .i64 0, .int .i64 0, .bool true, .bool false, .int .i64 g, .int .i64 x, .int .i64 y, .int .i64 z]
theorem jobCells_len (j : Job) : (jobCells j).length = 8 := by cases j <;> rfl
def jobsCells (js : List Job) : List Value := js.reverse.flatMap jobCells
theorem jobsCells_len (js : List Job) : (jobsCells js).length = js.length * 8 := by
  unfold jobsCells
  have : ∀ l : List Job, (l.flatMap jobCells).length = l.length * 8 := fun l => by
    induction l with
    | nil => rfl
    | cons a l ih => rw [List.flatMap_cons, List.length_append, ih, jobCells_len]; simp; omega
  rw [this]; simp
theorem jobsCells_cons (j : Job) (js : List Job) : jobsCells (j :: js) = jobsCells js ++ jobCells j := by simp [jobsCells]

/-- What stays of a matcher. -/
structure Geo where
  w0 : World
  B : Nat
  pb : Nat
  cb : Nat
  capc : Nat
  C : List Step
  ps : List Pc
  ng : Nat
  nl : Nat
  S : Nat
  s : ByteArray
  mb : Nat
  bb : Nat
  pv : Value
  kept : List (Nat × Obj)

/-- What turns of a matcher: jm: the list of jobs as its field holds it; jv: as it lies in memory. -/
structure Dyn where
  jm : Value
  jv : Value
  sb : Nat
  fb : Nat
  gb : Nat
  xs : List Int
  fs : List Int
  rows : List Value
  rb : Nat → Nat
  wd : Nat → List Nat
  tag : Nat → Nat

def mCells (G : Geo) (D : Dyn) : List Value :=
  [.pointer (some ⟨G.pb, 0, none⟩), .string G.s, G.pv, .slice (some ⟨G.bb, 0, none⟩) (G.ps.length + 1) (G.ps.length + 1), .slice (some ⟨D.sb, 0, none⟩) G.ng G.ng, .slice (some ⟨D.fb, 0, none⟩) G.ng G.ng, .slice (some ⟨D.gb, 0, none⟩) G.nl G.nl, D.jm]

/-- The row of one piece in the list of what was tried. -/
def RowAt (w : World) (G : Geo) (rows : List Value) (rb : Nat → Nat) (wd : Nat → List Nat) (tag : Nat → Nat) (bit : Nat → Nat → Bool) (k : Nat) : Prop :=
  (rows[k]? = some (.slice none 0 0) ∧ ∀ i, i < G.S → bit i k = false) ∨
  (rows[k]? = some (.slice (some ⟨rb k, 0, none⟩) (G.S / 64 + 1) (G.S / 64 + 1)) ∧ Blk w (rb k) 118 (u64Vals (wd k)) ∧ (wd k).length = G.S / 64 + 1 ∧ tag (rb k) = 10 + k ∧ G.B ≤ rb k ∧
    (∀ x ∈ wd k, x < 18446744073709551616) ∧ ∀ i, i < G.S → bit i k = ((wd k)[i / 64]?.getD 0).testBit (i % 64))

/-- Pieces of which it is known what kind they are. -/
def simple (p : Pc) : Prop := p.broken = false ∧ 97 ≤ p.rune ∧ p.rune ≤ 98

structure Mat (w : World) (G : Geo) (D : Dyn) (bit : Nat → Nat → Bool) (jobs : List Job) (bg : List Nat) : Prop where
  pat : PatAt G.B w G.pb G.cb G.capc G.C G.ng G.nl G.S
  below : Below G.B G.w0 w
  m : Blk w G.mb 66 (mCells G D)
  pc : w.ownsRow G.B 85 4 G.pv G.ps.length (G.ps.flatMap pcCells)
  sp : Blk w D.sb 32 (i64s D.xs)
  fr : Blk w D.fb 3 (i64s D.fs)
  be : Blk w D.gb 3 (natVals bg)
  xl : D.xs.length = 2 * G.ng
  fl : D.fs.length = G.ng
  bl : bg.length = G.nl
  jo : w.ownsRow G.B 102 8 D.jv jobs.length (jobsCells jobs)
  bn : Blk w G.bb 116 D.rows
  rl : D.rows.length = G.ps.length + 1
  row : ∀ k, k ≤ G.ps.length → RowAt w G D.rows D.rb D.wd D.tag bit k
  tm : D.tag G.mb = 1
  tb : D.tag G.bb = 2
  tp : ∀ q, G.pv.ownBlock = some q → D.tag q = 3
  ts : D.tag D.sb = 4
  tf : D.tag D.fb = 5
  tg : D.tag D.gb = 6
  tj : ∀ q, D.jv.ownBlock = some q → D.tag q = 7
  lm : G.B ≤ G.mb
  lb : G.B ≤ G.bb
  ls : G.B ≤ D.sb
  lf : G.B ≤ D.fb
  lg : G.B ≤ D.gb
  wf : WF G.C G.ng G.nl G.S
  np : G.ps.length ≤ 65536
  sz : G.s.size ≤ 65536
  pcs : ∀ p ∈ G.ps, p.at_ < G.s.size
  acs : ∀ st ∈ G.C, st.dO = 0 → st.what = 0 ∨ (st.what = 1 ∧ ∀ p ∈ G.ps, simple p)
  kp : ∀ q o, (q, o) ∈ G.kept → D.tag q = 0 ∧ w.heap[q]? = some o

variable {w : World} {G : Geo} {D : Dyn} {bit : Nat → Nat → Bool} {jobs : List Job} {bg : List Nat}

theorem get_lt {w : World} {q : Nat} {o : Obj} (h : w.heap[q]? = some o) : q < w.heap.size := (Array.getElem?_eq_some_iff.1 h).1
theorem Mat.jlt (h : Mat w G D bit jobs bg) : ∀ q, D.jv.ownBlock = some q → q < w.heap.size := fun q hq => (h.jo.lt q hq).2

/-- Nothing turns but blocks of one tag, and there may be new ones. -/
theorem Mat.rowKeep {w' : World} {rows : List Value} {rb : Nat → Nat} {wd : Nat → List Nat} {tag : Nat → Nat} {k : Nat} (h : RowAt w G rows rb wd tag bit k)
    (hk : ∀ b, b < w.heap.size → tag b = 10 + k → w'.heap[b]? = w.heap[b]?) : RowAt w' G rows rb wd tag bit k := by
  rcases h with h | ⟨h1, h2, h3, h4, h5⟩
  · exact .inl h
  · exact .inr ⟨h1, h2.keep (hk _ h2.lt h4), h3, h4, h5⟩

/-- Another world in which all the matcher's blocks are the same. -/
theorem Mat.keep {w' : World} (h : Mat w G D bit jobs bg) (hb : Below G.B w w') (hk : ∀ b, b < w.heap.size → w'.heap[b]? = w.heap[b]?) : Mat w' G D bit jobs bg :=
  have hg : w.grownBy w' none := ⟨hb.os, hb.tape, hb.output, hb.size, fun k hk' _ => hk k hk'⟩
  { h with
    pat := h.pat.keep hb
    below := h.below.trans hb
    m := h.m.keep (hk _ h.m.lt)
    pc := h.pc.kept hg (by cases h : G.pv.ownBlock <;> simp)
    sp := h.sp.keep (hk _ h.sp.lt)
    fr := h.fr.keep (hk _ h.fr.lt)
    be := h.be.keep (hk _ h.be.lt)
    jo := h.jo.kept hg (by cases h : D.jv.ownBlock <;> simp)
    bn := h.bn.keep (hk _ h.bn.lt)
    row := fun k hk' => Mat.rowKeep (h.row k hk') fun b hb _ => hk b hb
    kp := fun q o hq => ⟨(h.kp q o hq).1, (hk q (get_lt (h.kp q o hq).2)).trans (h.kp q o hq).2⟩ }
theorem Mat.Bsize (h : Mat w G D bit jobs bg) : G.B ≤ w.heap.size := Nat.le_trans h.lm (Nat.le_of_lt h.m.lt)
theorem Mat.alloc (h : Mat w G D bit jobs bg) (o : Obj) : Mat (w.alloc o) G D bit jobs bg :=
  h.keep ((Below.refl _ _).alloc h.Bsize o) fun b hb => Below.heap_alloc w o b hb
theorem Mat.drew (h : Mat w G D bit jobs bg) : Mat w.drew G D bit jobs bg := h.keep (Below.refl _ _).drew fun _ _ => rfl
theorem Mat.drewN (h : Mat w G D bit jobs bg) (n : Nat) : Mat (w.drewN n) G D bit jobs bg := h.keep (below_drewN (Below.refl _ _) n) fun _ _ => rfl

/-- A write into one block of the matcher's: what is not of that tag stays. -/
theorem Mat.own_ne {v : Value} {tag : Nat → Nat} {b t : Nat} (h : ∀ q, v.ownBlock = some q → tag q = t) (hb : tag b ≠ t) : v.ownBlock = none ∨ v.ownBlock ≠ some b := by
  cases hv : v.ownBlock with
  | none => exact .inl rfl
  | some q => exact .inr fun e => hb (by cases e; exact h b hv)
theorem grown_setCell (w : World) (p : Addr) (v : Value) : w.grownBy (w.setCell p v) (some p.block) :=
  ⟨rfl, rfl, rfl, by simp [World.setCell], fun k _ hk => Below.heap_setCell w p v k fun e => hk (by rw [e])⟩
theorem ne_of_tag {tag : Nat → Nat} {a b s t : Nat} (ha : tag a = s) (hb : tag b = t) (h : s ≠ t) : a ≠ b := fun e => h (by rw [← ha, ← hb, e])

theorem Mat.setJm (h : Mat w G D bit jobs bg) (v : Value) : Mat (w.setCell ⟨G.mb, 7, none⟩ v) G { D with jm := v } bit jobs bg :=
  have hb : Below G.B w (w.setCell ⟨G.mb, 7, none⟩ v) := (Below.refl _ _).setCell (p := ⟨G.mb, 7, none⟩) h.lm v
  have hg := grown_setCell w ⟨G.mb, 7, none⟩ v
  { h with
    pat := h.pat.keep hb
    below := h.below.trans hb
    m := by have := h.m.set 7 v; simpa [mCells] using this
    pc := h.pc.kept hg (Mat.own_ne h.tp (by rw [h.tm]; decide))
    sp := h.sp.set_other (ne_of_tag h.ts h.tm (by decide)) v
    fr := h.fr.set_other (ne_of_tag h.tf h.tm (by decide)) v
    be := h.be.set_other (ne_of_tag h.tg h.tm (by decide)) v
    jo := h.jo.kept hg (Mat.own_ne h.tj (by rw [h.tm]; decide))
    bn := h.bn.set_other (ne_of_tag h.tb h.tm (by decide)) v
    row := fun k hk => Mat.rowKeep (h.row k hk) fun b _ ht => Below.heap_setCell w _ v b (ne_of_tag ht h.tm (by omega))
    kp := fun q o hq => ⟨(h.kp q o hq).1, (Below.heap_setCell w _ _ q (ne_of_tag (h.kp q o hq).1 h.tm (by decide))).trans (h.kp q o hq).2⟩ }

theorem set_natVals (l : List Nat) (j v : Nat) : (natVals l).set j (.int .i64 (v : Int)) = natVals (l.set j v) := by simp [natVals, List.map_set]
theorem set_i64s (l : List Int) (j : Nat) (v : Int) : (i64s l).set j (.int .i64 v) = i64s (l.set j v) := by simp [i64s, List.map_set]
theorem set_u64 (l : List Nat) (j v : Nat) : (u64Vals l).set j (.int .u64 (v : Int)) = u64Vals (l.set j v) := by simp [u64Vals, List.map_set]

theorem Mat.setBegun (h : Mat w G D bit jobs bg) (l v : Nat) : Mat (w.setCell ⟨D.gb, l, none⟩ (.int .i64 (v : Int))) G D bit jobs (bg.set l v) :=
  have hb : Below G.B w (w.setCell ⟨D.gb, l, none⟩ (.int .i64 (v : Int))) := (Below.refl _ _).setCell (p := ⟨D.gb, l, none⟩) h.lg _
  have hg := grown_setCell w ⟨D.gb, l, none⟩ (.int .i64 (v : Int))
  { h with
    pat := h.pat.keep hb
    below := h.below.trans hb
    m := h.m.set_other (ne_of_tag h.tm h.tg (by decide)) _
    pc := h.pc.kept hg (Mat.own_ne h.tp (by rw [h.tg]; decide))
    sp := h.sp.set_other (ne_of_tag h.ts h.tg (by decide)) _
    fr := h.fr.set_other (ne_of_tag h.tf h.tg (by decide)) _
    be := by rw [← set_natVals]; exact h.be.set l _
    bl := by simp [h.bl]
    jo := h.jo.kept hg (Mat.own_ne h.tj (by rw [h.tg]; decide))
    bn := h.bn.set_other (ne_of_tag h.tb h.tg (by decide)) _
    row := fun k hk => Mat.rowKeep (h.row k hk) fun b _ ht => Below.heap_setCell w _ _ b (ne_of_tag ht h.tg (by omega))
    kp := fun q o hq => ⟨(h.kp q o hq).1, (Below.heap_setCell w _ _ q (ne_of_tag (h.kp q o hq).1 h.tg (by decide))).trans (h.kp q o hq).2⟩ }

theorem Mat.setFrom (h : Mat w G D bit jobs bg) (g : Nat) (v : Int) : Mat (w.setCell ⟨D.fb, g, none⟩ (.int .i64 v)) G { D with fs := D.fs.set g v } bit jobs bg :=
  have hb : Below G.B w (w.setCell ⟨D.fb, g, none⟩ (.int .i64 v)) := (Below.refl _ _).setCell (p := ⟨D.fb, g, none⟩) h.lf _
  have hg := grown_setCell w ⟨D.fb, g, none⟩ (.int .i64 v)
  { h with
    pat := h.pat.keep hb
    below := h.below.trans hb
    m := h.m.set_other (ne_of_tag h.tm h.tf (by decide)) _
    pc := h.pc.kept hg (Mat.own_ne h.tp (by rw [h.tf]; decide))
    sp := h.sp.set_other (ne_of_tag h.ts h.tf (by decide)) _
    fr := by show Blk _ _ _ (i64s (D.fs.set g v)); rw [← set_i64s]; exact h.fr.set g _
    fl := by simp [h.fl]
    be := h.be.set_other (ne_of_tag h.tg h.tf (by decide)) _
    jo := h.jo.kept hg (Mat.own_ne h.tj (by rw [h.tf]; decide))
    bn := h.bn.set_other (ne_of_tag h.tb h.tf (by decide)) _
    row := fun k hk => Mat.rowKeep (h.row k hk) fun b _ ht => Below.heap_setCell w _ _ b (ne_of_tag ht h.tf (by omega))
    kp := fun q o hq => ⟨(h.kp q o hq).1, (Below.heap_setCell w _ _ q (ne_of_tag (h.kp q o hq).1 h.tf (by decide))).trans (h.kp q o hq).2⟩ }

theorem Mat.setSpan (h : Mat w G D bit jobs bg) (g : Nat) (v : Int) : Mat (w.setCell ⟨D.sb, g, none⟩ (.int .i64 v)) G { D with xs := D.xs.set g v } bit jobs bg :=
  have hb : Below G.B w (w.setCell ⟨D.sb, g, none⟩ (.int .i64 v)) := (Below.refl _ _).setCell (p := ⟨D.sb, g, none⟩) h.ls _
  have hg := grown_setCell w ⟨D.sb, g, none⟩ (.int .i64 v)
  { h with
    pat := h.pat.keep hb
    below := h.below.trans hb
    m := h.m.set_other (ne_of_tag h.tm h.ts (by decide)) _
    pc := h.pc.kept hg (Mat.own_ne h.tp (by rw [h.ts]; decide))
    sp := by show Blk _ _ _ (i64s (D.xs.set g v)); rw [← set_i64s]; exact h.sp.set g _
    xl := by simp [h.xl]
    fr := h.fr.set_other (ne_of_tag h.tf h.ts (by decide)) _
    be := h.be.set_other (ne_of_tag h.tg h.ts (by decide)) _
    jo := h.jo.kept hg (Mat.own_ne h.tj (by rw [h.ts]; decide))
    bn := h.bn.set_other (ne_of_tag h.tb h.ts (by decide)) _
    row := fun k hk => Mat.rowKeep (h.row k hk) fun b _ ht => Below.heap_setCell w _ _ b (ne_of_tag ht h.ts (by omega))
    kp := fun q o hq => ⟨(h.kp q o hq).1, (Below.heap_setCell w _ _ q (ne_of_tag (h.kp q o hq).1 h.ts (by decide))).trans (h.kp q o hq).2⟩ }

def retag (tag : Nat → Nat) (b t : Nat) : Nat → Nat := fun x => if x = b then t else tag x
theorem retag_ne {tag : Nat → Nat} {b t x : Nat} (h : x ≠ b) : retag tag b t x = tag x := by simp [retag, h]
theorem retag_eq (tag : Nat → Nat) (b t : Nat) : retag tag b t b = t := by simp [retag]

/-- Behind an append to the jobs. -/
theorem Mat.push {w' : World} (h : Mat w G D bit jobs bg) (j : Job) {g cap : Nat} (hown : w'.ownsRow G.B 102 8 (.slice (some ⟨g, 0, none⟩) (jobs.length + 1) cap) (jobs.length + 1) (jobsCells jobs ++ jobCells j))
    (hgr : w.grownBy w' D.jv.ownBlock) (hat : D.jv.ownBlock = some g ∨ w.heap.size ≤ g) : ∃ tag, Mat w' G { D with jv := .slice (some ⟨g, 0, none⟩) (jobs.length + 1) cap, tag := tag } bit (j :: jobs) bg := by
  have hb : Below G.B w w' := (Below.refl _ _).grown hgr h.Bsize fun k hk => (h.jo.lt k hk).1
  have hne : ∀ b t, D.tag b = t → t ≠ 7 → some b ≠ D.jv.ownBlock := fun b t ht h7 e => h7 (by rw [← ht]; exact h.tj b e.symm)
  have hre : ∀ b t, D.tag b = t → t ≠ 7 → b < w.heap.size → retag D.tag g 7 b = t := fun b t ht h7 hlt => by
    rw [retag_ne, ht]
    rintro rfl
    rcases hat with hat | hat
    · exact hne b t ht h7 hat.symm
    · omega
  refine ⟨retag D.tag g 7, { h with
    pat := h.pat.keep hb
    below := h.below.trans hb
    m := h.m.grown hgr (hne _ _ h.tm (by decide))
    pc := h.pc.kept hgr (by
      cases hv : G.pv.ownBlock with
      | none => exact .inl rfl
      | some q => exact .inr (hne _ _ (h.tp q hv) (by decide)))
    sp := h.sp.grown hgr (hne _ _ h.ts (by decide))
    fr := h.fr.grown hgr (hne _ _ h.tf (by decide))
    be := h.be.grown hgr (hne _ _ h.tg (by decide))
    jo := by rw [jobsCells_cons]; exact hown
    bn := h.bn.grown hgr (hne _ _ h.tb (by decide))
    row := fun k hk => ?_
    tm := hre _ _ h.tm (by decide) h.m.lt
    tb := hre _ _ h.tb (by decide) h.bn.lt
    tp := fun q hq => hre _ _ (h.tp q hq) (by decide) (h.pc.lt q hq).2
    ts := hre _ _ h.ts (by decide) h.sp.lt
    tf := hre _ _ h.tf (by decide) h.fr.lt
    tg := hre _ _ h.tg (by decide) h.be.lt
    tj := fun q hq => by cases hq; exact retag_eq _ _ _
    kp := fun q o hq => ⟨hre _ _ (h.kp q o hq).1 (by decide) (get_lt (h.kp q o hq).2), (hgr.block q (get_lt (h.kp q o hq).2) (hne _ _ (h.kp q o hq).1 (by decide))).trans (h.kp q o hq).2⟩ }⟩
  rcases h.row k hk with h1 | ⟨h1, h2, h3, h4, h5⟩
  · exact .inl h1
  · exact .inr ⟨h1, h2.grown hgr (hne _ _ h4 (by omega)), h3, hre _ _ h4 (by omega) h2.lt, h5⟩

/-- Another list of jobs over the same memory. -/
theorem Mat.setJobs (h : Mat w G D bit jobs bg) {v : Value} {js : List Job} (hj : w.ownsRow G.B 102 8 v js.length (jobsCells js)) (ho : v.ownBlock = D.jv.ownBlock) : Mat w G { D with jv := v } bit js bg :=
  { h with jo := hj, tj := fun q hq => h.tj q (by rw [← ho]; exact hq) }

/-- A row of bits with one more. -/
theorem Mat.setRow (h : Mat w G D bit jobs bg) {k I : Nat} (hk : k ≤ G.ps.length) (hI : I < G.S) (hrow : D.rows[k]? = some (.slice (some ⟨D.rb k, 0, none⟩) (G.S / 64 + 1) (G.S / 64 + 1)))
    {u : Nat} (hu : u = ((D.wd k)[I / 64]?.getD 0) ||| 2 ^ (I % 64)) :
    Mat (w.setCell ⟨D.rb k, I / 64, none⟩ (.int .u64 (u : Int))) G { D with wd := fun k' => if k' = k then (D.wd k).set (I / 64) u else D.wd k' } (mark bit I k) jobs bg := by
  have hr := h.row k hk
  rcases hr with ⟨h1, _⟩ | ⟨_, h2, h3, h4, h5, h6, h7⟩
  · rw [h1] at hrow; simp at hrow
  have hb : Below G.B w (w.setCell ⟨D.rb k, I / 64, none⟩ (.int .u64 (u : Int))) := (Below.refl _ _).setCell (p := ⟨D.rb k, I / 64, none⟩) h5 _
  have hg := grown_setCell w ⟨D.rb k, I / 64, none⟩ (.int .u64 (u : Int))
  have hne : ∀ b t, D.tag b = t → t < 10 → b ≠ D.rb k := fun b t ht hlt => ne_of_tag ht h4 (by omega)
  refine { h with
    pat := h.pat.keep hb
    below := h.below.trans hb
    m := h.m.set_other (hne _ _ h.tm (by decide)) _
    pc := h.pc.kept hg (Mat.own_ne h.tp (by rw [h4]; omega))
    sp := h.sp.set_other (hne _ _ h.ts (by decide)) _
    fr := h.fr.set_other (hne _ _ h.tf (by decide)) _
    be := h.be.set_other (hne _ _ h.tg (by decide)) _
    jo := h.jo.kept hg (Mat.own_ne h.tj (by rw [h4]; omega))
    bn := h.bn.set_other (hne _ _ h.tb (by decide)) _
    row := fun k' hk' => ?_
    kp := fun q o hq => ⟨(h.kp q o hq).1, (Below.heap_setCell w _ _ q (ne_of_tag (h.kp q o hq).1 h4 (by omega))).trans (h.kp q o hq).2⟩ }
  by_cases e : k' = k
  · subst e
    refine .inr ⟨hrow, ?_, by simp [h3], h4, h5, ?_, ?_⟩
    · simp only [if_true]; rw [← set_u64]; exact h2.set _ _
    · intro x hx
      simp only [if_true] at hx
      rcases List.mem_or_eq_of_mem_set hx with hx | rfl
      · exact h6 x hx
      · rw [hu]
        apply Nat.or_lt_two_pow (n := 64)
        · cases hg : (D.wd k')[I / 64]? with
          | none => simp
          | some y => exact h6 y (List.mem_of_getElem? hg)
        · exact Nat.pow_lt_pow_right (by decide) (Nat.mod_lt _ (by decide))
    · intro i hi
      have h8 := h7 i hi
      simp only [mark, if_true, h8, List.getElem?_set]
      by_cases e2 : I / 64 = i / 64
      · have hlt : I / 64 < (D.wd k').length := by rw [h3]; omega
        rw [if_pos e2, if_pos (by omega), Option.getD_some, hu, e2, Nat.testBit_or, Nat.testBit_two_pow]
        congr 1
        by_cases e3 : I % 64 = i % 64
        · have : i = I := by omega
          simp [this]
        · have : i ≠ I := fun e => e3 (by rw [e])
          simp [this, e3]
      · rw [if_neg e2]
        have : i ≠ I := fun e => e2 (by rw [e])
        simp [this]
  · have hr := h.row k' hk'
    have hne2 : ∀ i, i < G.S → mark bit I k i k' = bit i k' := fun i _ => by simp [mark, e]
    rcases hr with ⟨g1, g2⟩ | ⟨g1, g2, g3, g4, g5, g6, g7⟩
    · exact .inl ⟨g1, fun i hi => by rw [hne2 i hi]; exact g2 i hi⟩
    · refine .inr ⟨g1, ?_, by simp [e, g3], g4, g5, by simpa [e] using g6, fun i hi => by rw [hne2 i hi]; simpa [e] using g7 i hi⟩
      simp only [e, if_false]
      exact g2.set_other (ne_of_tag g4 h4 (by omega)) _

/-- A new row of bits. -/
theorem Mat.newRow (h : Mat w G D bit jobs bg) {k I : Nat} (hk : k ≤ G.ps.length) (hI : I < G.S) (hrow : D.rows[k]? = some (.slice none 0 0)) :
    ∃ D', D'.jm = D.jm ∧ D'.jv = D.jv ∧ D'.sb = D.sb ∧ D'.fb = D.fb ∧ D'.gb = D.gb ∧
      Mat ((w.setCell ⟨G.bb, k, none⟩ (.slice (some ⟨w.heap.size, 0, none⟩) (G.S / 64 + 1) (G.S / 64 + 1))).alloc (.cells (u64Vals ((List.replicate (G.S / 64 + 1) 0).set (I / 64) (2 ^ (I % 64)))).toArray 118)) G D' (mark bit I k) jobs bg := by
  generalize hv : Value.slice (some ⟨w.heap.size, 0, none⟩) (G.S / 64 + 1) (G.S / 64 + 1) = v
  generalize hL : (List.replicate (G.S / 64 + 1) 0).set (I / 64) (2 ^ (I % 64)) = L
  generalize hw2 : (w.setCell ⟨G.bb, k, none⟩ v).alloc (.cells (u64Vals L).toArray 118) = w2
  have hsz : (w.setCell ⟨G.bb, k, none⟩ v).heap.size = w.heap.size := by simp [World.setCell]
  have hB := h.Bsize
  have hb : Below G.B w w2 := by
    rw [← hw2]
    exact ((Below.refl _ _).setCell (p := ⟨G.bb, k, none⟩) h.lb _).alloc (by rw [hsz]; exact hB) _
  have hg : w.grownBy w2 (some G.bb) := by
    rw [← hw2]
    exact (grown_setCell w ⟨G.bb, k, none⟩ v).trans (World.grownBy_alloc _ _ _)
  have hre : ∀ b t, D.tag b = t → b < w.heap.size → retag D.tag w.heap.size (10 + k) b = t := fun b t ht hlt => by rw [retag_ne (by omega), ht]
  have hne : ∀ b t, D.tag b = t → t ≠ 2 → some b ≠ some G.bb := fun b t ht h2 e => by cases e; exact h2 (ht.symm.trans h.tb)
  refine ⟨{ D with rows := D.rows.set k v, rb := fun k' => if k' = k then w.heap.size else D.rb k', wd := fun k' => if k' = k then L else D.wd k', tag := retag D.tag w.heap.size (10 + k) }, rfl, rfl, rfl, rfl, rfl, { h with
    pat := h.pat.keep hb
    below := h.below.trans hb
    m := h.m.grown hg (hne _ _ h.tm (by decide))
    pc := h.pc.kept hg (Mat.own_ne h.tp (by rw [h.tb]; decide))
    sp := h.sp.grown hg (hne _ _ h.ts (by decide))
    fr := h.fr.grown hg (hne _ _ h.tf (by decide))
    be := h.be.grown hg (hne _ _ h.tg (by decide))
    jo := h.jo.kept hg (Mat.own_ne h.tj (by rw [h.tb]; decide))
    bn := by rw [← hw2]; exact (h.bn.set k v).alloc _
    rl := by simp [h.rl]
    row := fun k' hk' => ?_
    tm := hre _ _ h.tm h.m.lt
    tb := hre _ _ h.tb h.bn.lt
    tp := fun q hq => hre _ _ (h.tp q hq) (h.pc.lt q hq).2
    ts := hre _ _ h.ts h.sp.lt
    tf := hre _ _ h.tf h.fr.lt
    tg := hre _ _ h.tg h.be.lt
    tj := fun q hq => hre _ _ (h.tj q hq) (h.jlt q hq)
    kp := fun q o hq => ⟨hre _ _ (h.kp q o hq).1 (get_lt (h.kp q o hq).2), (hg.block q (get_lt (h.kp q o hq).2) (hne _ _ (h.kp q o hq).1 (by decide))).trans (h.kp q o hq).2⟩ }⟩
  by_cases e : k' = k
  · subst e
    have hold : ∀ i, i < G.S → bit i k' = false := by
      rcases h.row k' hk' with ⟨_, h2⟩ | ⟨h1, _⟩
      · exact h2
      · rw [h1] at hrow; simp at hrow
    refine .inr ⟨?_, ?_, ?_, ?_, ?_, ?_, ?_⟩
    · simp only [if_true]
      rw [List.getElem?_set_self (by rw [h.rl]; omega), ← hv]
    · simp only [if_true]
      rw [← hw2, ← hsz]
      exact Blk.new _ _ _
    · simp only [if_true]; rw [← hL]; simp
    · simp only [if_true]; exact retag_eq _ _ _
    · simp only [if_true]; exact hB
    · intro x hx
      simp only [if_true] at hx
      rw [← hL] at hx
      rcases List.mem_or_eq_of_mem_set hx with hx | rfl
      · have := (List.mem_replicate.1 hx).2; omega
      · exact Nat.pow_lt_pow_right (a := 2) (n := 64) (by decide) (Nat.mod_lt I (y := 64) (by decide))
    · intro i hi
      simp only [mark, if_true, hold i hi, Bool.false_or]
      rw [← hL, List.getElem?_set]
      by_cases e2 : I / 64 = i / 64
      · rw [if_pos e2, if_pos (by simp; omega), Option.getD_some, Nat.testBit_two_pow]
        by_cases e3 : I % 64 = i % 64
        · have : i = I := by omega
          simp [this]
        · have : i ≠ I := fun e => e3 (by rw [e])
          simp [this, e3]
      · rw [if_neg e2]
        have : i ≠ I := fun e => e2 (by rw [e])
        have h4 : i / 64 < G.S / 64 + 1 := by omega
        simp [this, h4]
  · have hr := h.row k' hk'
    have hne2 : ∀ i, i < G.S → mark bit I k i k' = bit i k' := fun i _ => by simp [mark, e]
    have hget : (D.rows.set k v)[k']? = D.rows[k']? := List.getElem?_set_ne (Ne.symm e)
    rcases hr with ⟨g1, g2⟩ | ⟨g1, g2, g3, g4, g5, g6, g7⟩
    · exact .inl ⟨by rw [hget]; exact g1, fun i hi => by rw [hne2 i hi]; exact g2 i hi⟩
    · refine .inr ⟨by simp only [e, if_false]; rw [hget]; exact g1, ?_, by simp [e, g3], ?_, by simpa [e] using g5, by simpa [e] using g6, fun i hi => by rw [hne2 i hi]; simpa [e] using g7 i hi⟩
      · simp only [e, if_false]
        exact g2.grown hg (hne _ _ g4 (by omega))
      · simp only [e, if_false]
        exact hre _ _ g4 g2.lt

end Go.Proofs.YtlanodchnjojoaaDoor
