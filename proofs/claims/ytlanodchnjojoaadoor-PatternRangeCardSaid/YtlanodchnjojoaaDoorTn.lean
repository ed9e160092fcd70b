/- What turns in memory: a set of blocks. -/
import Derived.Test.YtlanodchnjojoaaDoorSg
namespace Go.Proofs.YtlanodchnjojoaaDoor
open Go.RowKit

/-- Nothing turns but blocks of a set, and there may be new ones. -/
structure Turn (S : Nat → Prop) (w w' : World) : Prop where
  os : w'.os = w.os
  tape : w'.tape = w.tape
  output : w'.output = w.output
  size : w.heap.size ≤ w'.heap.size
  block : ∀ b, b < w.heap.size → ¬ S b → w'.heap[b]? = w.heap[b]?

variable {S : Nat → Prop} {w w' w'' : World}
theorem Turn.refl (S : Nat → Prop) (w : World) : Turn S w w := ⟨rfl, rfl, rfl, Nat.le_refl _, fun _ _ _ => rfl⟩
theorem Turn.trans (h : Turn S w w') (g : Turn S w' w'') : Turn S w w'' :=
  ⟨g.os.trans h.os, g.tape.trans h.tape, g.output.trans h.output, Nat.le_trans h.size g.size, fun b hb hs => (g.block b (Nat.lt_of_lt_of_le hb h.size) hs).trans (h.block b hb hs)⟩
theorem Turn.mono {S' : Nat → Prop} (h : Turn S w w') (hs : ∀ b, b < w.heap.size → S b → S' b) : Turn S' w w' := ⟨h.os, h.tape, h.output, h.size, fun b hb hn => h.block b hb fun hS => hn (hs b hb hS)⟩
theorem Turn.set (h : Turn S w w') {p : Addr} (hp : S p.block) (v : Value) : Turn S w (w'.setCell p v) :=
  ⟨h.os, h.tape, h.output, by simpa [World.setCell] using h.size, fun b hb hn => (Below.heap_setCell w' p v b fun e => hn (e ▸ hp)).trans (h.block b hb hn)⟩
theorem Turn.drew (h : Turn S w w') : Turn S w w'.drew := ⟨h.os, h.tape, h.output, h.size, h.block⟩
theorem Turn.drewN (h : Turn S w w') (n : Nat) : Turn S w (w'.drewN n) :=
  have g := grown_drewN w' n none
  ⟨g.os.trans h.os, g.tape.trans h.tape, g.output.trans h.output, Nat.le_trans h.size g.size, fun b hb hn => (g.block b (Nat.lt_of_lt_of_le hb h.size) (by simp)).trans (h.block b hb hn)⟩
theorem Turn.alloc (h : Turn S w w') (o : Obj) : Turn S w (w'.alloc o) :=
  ⟨h.os, h.tape, h.output, Nat.le_trans h.size (by simp), fun b hb hn => (Below.heap_alloc w' o b (Nat.lt_of_lt_of_le hb h.size)).trans (h.block b hb hn)⟩
theorem Turn.grown {r : Nat} (h : Turn S w w') (g : w'.grownBy w'' (some r)) (hr : S r) : Turn S w w'' :=
  ⟨g.os.trans h.os, g.tape.trans h.tape, g.output.trans h.output, Nat.le_trans h.size g.size, fun b hb hn => (g.block b (Nat.lt_of_lt_of_le hb h.size) (fun e => hn (by cases e; exact hr))).trans (h.block b hb hn)⟩
theorem Turn.grown0 (h : Turn S w w') (g : w'.grownBy w'' none) : Turn S w w'' :=
  ⟨g.os.trans h.os, g.tape.trans h.tape, g.output.trans h.output, Nat.le_trans h.size g.size, fun b hb hn => (g.block b (Nat.lt_of_lt_of_le hb h.size) (by simp)).trans (h.block b hb hn)⟩
theorem Turn.below {B : Nat} (h : Turn S w w') (g : Below B w' w'') (hB : ∀ b, b < w.heap.size → ¬ S b → b < B) : Turn S w w'' :=
  ⟨g.os.trans h.os, g.tape.trans h.tape, g.output.trans h.output, Nat.le_trans h.size g.size, fun b hb hn => (g.block b (hB b hb hn)).trans (h.block b hb hn)⟩
theorem Turn.toGrown {rb : Nat} (h : Turn S w w') (hS : ∀ b, b < w.heap.size → S b → b = rb) : w.grownBy w' (some rb) :=
  ⟨h.os, h.tape, h.output, h.size, fun b hb hn => h.block b hb fun hs => hn (by rw [hS b hb hs])⟩
theorem Turn.toBelow {B : Nat} (h : Turn S w w') (hB : B ≤ w.heap.size) (hS : ∀ b, b < B → ¬ S b) : Below B w w' :=
  ⟨h.os, h.tape, h.output, h.size, fun b hb => h.block b (Nat.lt_of_lt_of_le hb hB) (hS b hb)⟩
theorem Turn.keep {b : Nat} {t : TypeId} {xs : List Value} (h : Turn S w w') (hb : Blk w b t xs) (hn : ¬ S b) : Blk w' b t xs := hb.keep (h.block b hb.lt hn)
theorem Turn.cell (h : Turn S w w') {b j : Nat} (hb : b < w.heap.size) (hn : ¬ S b) : w'.cell? ⟨b, j, none⟩ = w.cell? ⟨b, j, none⟩ := by
  simp only [World.cell?, h.block b hb hn]
theorem Blk.newAt {w : World} {b : Nat} (hb : b = w.heap.size) (t : TypeId) (xs : List Value) : Blk (w.alloc (.cells xs.toArray t)) b t xs := hb ▸ Blk.new w t xs
theorem size_set (w : World) (p : Addr) (v : Value) : (w.setCell p v).heap.size = w.heap.size := by simp [World.setCell]

theorem RepV.turn {F F' : Nat → Prop} {v : Value} {bs : T} (h : RepV w F v bs) (t : Turn S w w') (hF : ∀ b, b < w.heap.size → F b → F' b ∧ ¬ S b) : RepV w' F' v bs :=
  h.keep (fun b h1 h2 => (hF b h1 h2).1) t.size fun b h1 h2 => t.block b h1 (hF b h1 h2).2
theorem Rep.turn {F F' : Nat → Prop} {k : Nat} {cs : List Value} {x : T} (h : Rep w F k x cs) (t : Turn S w w') (hF : ∀ b, b < w.heap.size → F b → F' b ∧ ¬ S b) : Rep w' F' k x cs :=
  Rep.keep (fun b h1 h2 => (hF b h1 h2).1) t.size (fun b h1 h2 => t.block b h1 (hF b h1 h2).2) _ _ _ h
theorem is_rdI {w : World} {rb : Nat} {s : ByteArray} {at_ g z : Nat} (h : Rd w rb s at_ g z) (hs : s.size ≤ 2000) (c : Int) (hc : 0 ≤ c ∧ c < 256) (ha : at_ ≤ s.size) :
    Calls Tryd.prog 19 #[.pointer (some ⟨rb, 0, none⟩), .int .u8 c] w fun e w' => e = .returned (.bool ((byt s at_ : Int) == c)) ∧ w.drew = w' := by
  have := is_rd h hs c.toNat (by omega) ha
  have e : ((c.toNat : Nat) : Int) = c := by omega
  rw [← beq_cast, e] at this
  exact this
theorem Rd.putI {w : World} {rb : Nat} {s : ByteArray} {at_ g z : Nat} (h : Rd w rb s at_ g z) (x : Int) {v : Nat} (hx : x = v) : Rd (w.setCell ⟨rb, 1, none⟩ (.int .i64 x)) rb s v g z := by subst hx; exact h.put v
theorem Rd.putGI {w : World} {rb : Nat} {s : ByteArray} {at_ g z : Nat} (h : Rd w rb s at_ g z) (x : Int) {v : Nat} (hx : x = v) : Rd (w.setCell ⟨rb, 2, none⟩ (.int .i64 x)) rb s at_ v z := by subst hx; exact h.putG v
theorem Rd.putZI {w : World} {rb : Nat} {s : ByteArray} {at_ g z : Nat} (h : Rd w rb s at_ g z) (x : Int) {v : Nat} (hx : x = v) : Rd (w.setCell ⟨rb, 3, none⟩ (.int .i64 x)) rb s at_ g v := by subst hx; exact h.putZ v

end Go.Proofs.YtlanodchnjojoaaDoor
