/- The method All, and its iterator where it ends at once: a nil pattern, or a text that is too long. -/
import Derived.Test.YtlanodchnjojoaaGreatDoorPi
namespace Go.Proofs.YtlanodchnjojoaaGreatDoor
open Go.RowKit Go.Shelf
attribute [local go_sem] Oper.semAt_some

theorem all_met (pv : Value) (hpv : ∃ x, pv = .pointer x) (s : ByteArray) (w : World) :
    Calls Tryz.prog 8 #[pv, .string s] w fun e w' => e = .returned (.func (.func 23) #[] #[.pointer (some ⟨w.heap.size, 0, none⟩), .pointer (some ⟨w.heap.size + 1, 0, none⟩)]) ∧ w' = (w.alloc (.cells #[pv] 23)).alloc (.cells #[.string s] 9) := by
  obtain ⟨x, rfl⟩ := hpv
  have hmf : ∀ (fn : Fn) (first cap : Array Value) (w : World), (Instr.makeFunc fn first cap).run Tryz.prog w = .ok (.func fn first cap) w := fun _ _ _ _ => rfl
  go_enter Tryz.func8, Tryz.ntmps8
  go_wp2
  go_ret
  exact ⟨rfl, rfl⟩

set_option maxRecDepth 100000 in
theorem all1_early {α : Type} (encs : α → Array Value) {Kp : World → World → Prop} {N : Nat} (n : Nat) (Bp Bs n₀ : Nat) (pv : Value) (s : ByteArray) (hpv : pv = .pointer none ∨ ∃ b, pv = .pointer (some ⟨b, 0, none⟩) ∧ (65536 : Int) < (s.size : Int)) (w : World) (hn : n₀ = w.heap.size) (hBp : Bp < n₀) (hBs : Bs < n₀) (hp : w.cell? ⟨Bp, 0, none⟩ = some pv) (hs : w.cell? ⟨Bs, 0, none⟩ = some (.string s)) :
    SeqStopsK Fence.wide n Tryz.prog 23 #[.pointer (some ⟨Bp, 0, none⟩), .pointer (some ⟨Bs, 0, none⟩)] encs Kp (fun ys => ys = []) (fun _ => False) N w := fun l J Jx W hW hJ hJx hY h0 => by
  subst hn
  have cp := (hW.cell (p := ⟨Bp, 0, none⟩) hBp).trans hp
  have cs := (hW.cell (p := ⟨Bs, 0, none⟩) hBs).trans hs
  refine callsIn_of_wp Tryz.func23 rfl trivial ?_ rfl
  simp only [Tryz.ntmps23, List.size_toArray, List.length_cons, List.length_nil, Nat.reduceAdd, Nat.reduceSub, Array.replicate_succ, Array.replicate_zero, List.push_toArray, List.append_toArray, List.nil_append, List.cons_append]
  have hJ0 := Lib.hid h0
  clear hJ hJx hY h0 hp hs
  rcases hpv with rfl | ⟨b, rfl, hlen⟩
  · gi_wp2
    refine bodyPost_ret (results_none rfl _ _ _) rfl ?_
    exact ⟨⟨_, rfl⟩, .inl ⟨[], rfl, hJ0.out⟩⟩
  · gi_wp2
    refine bodyPost_ret (results_none rfl _ _ _) rfl ?_
    exact ⟨⟨_, rfl⟩, .inl ⟨[], rfl, hJ0.out⟩⟩

end Go.Proofs.YtlanodchnjojoaaGreatDoor
