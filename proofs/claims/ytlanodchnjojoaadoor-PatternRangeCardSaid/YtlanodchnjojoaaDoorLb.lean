/- The pattern's method branches. -/
import Derived.Test.YtlanodchnjojoaaDoorAo
import Derived.Deep.QuietTactic
import Derived.BigQuiet
namespace Go.Proofs.YtlanodchnjojoaaDoor
open Go.RowKit

/-- A part is laid as it must be. -/
def PartLay (w0 : World) (pb : Nat) (bv : Value) (ng z : Nat) (x : T) : Prop :=
  ∀ (w : World) (K : List (Nat × Obj)) (G : Gs) (cv iv : Value) (ls : List Value) (c : List Value), LI w0 w pb bv ng z K G cv iv ls → (∀ q o, (q, o) ∈ K → w0.heap.size ≤ q) → Rep w0 (fun b => b ≠ pb) 0 x c → c.length = 12 → (gen x G).code.length ≤ 5000 →
    Calls Tryd.prog 31 #[.pointer (some ⟨pb, 0, none⟩), .agg c.toArray] w fun e w' => e = .returned (.tuple #[]) ∧ ∃ cv' iv' ls', LI w0 w' pb bv ng z K (gen x G) cv' iv' ls'

theorem row_get {w : World} {F : Nat → Prop} {va : Option Addr} {n c : Nat} {cs : List Value} (h : RowIs w F (.slice va n c) n cs) (hn : 0 < n) (_ : Nat) : ∃ b, va = some ⟨b, 0, none⟩ ∧ b < w.heap.size ∧ F b ∧ ∀ j x, cs[j]? = some x → w.cell? ⟨b, j, none⟩ = some x := by
  rcases h with ⟨h1, h2⟩ | ⟨b, cap, h1, h2, h3, h4⟩
  · omega
  · cases h1; exact ⟨b, rfl, h3, h2, h4⟩

theorem part_form {w : World} {F : Nat → Prop} {x : T} {c : List Value} (hx : x.ok 3 = true) (h : Rep w F 0 x c) : ∃ (a : Atm) (l m : Int) (z : Nat) (va : Option Addr) (vn vc : Nat), x = a.part l m z ∧ c = [.int .i64 a.what, .int .i32 a.r, .bool false, .int .u8 0, .bool false, .slice none 0 0, .bool false, .int .i64 a.gn, .slice va vn vc, .int .i64 l, .int .i64 m, .int .i64 z] := by
  cases x with
  | nil => simp [T.ok] at hx
  | cons => simp [T.ok] at hx
  | lst => simp [T.ok] at hx
  | pl what r l m z => cases h; exact ⟨.leaf what r, l, m, z, none, 0, 0, rfl, rfl⟩
  | pg g bs l m z =>
    obtain ⟨v, co, h1, h2, _⟩ := h
    obtain ⟨va, vn, vc, rfl⟩ := h2.form
    exact ⟨.grp g bs, l, m, z, va, vn, vc, rfl, h1⟩

set_option maxRecDepth 100000 in
set_option maxHeartbeats 8000000 in
theorem brLay_step {w0 : World} {pb : Nat} {bv : Value} {ng z : Nat} {bs : T} (hok : bs.ok 0 = true) (hparts : ∀ ps x, T.lst ps ∈ bs.toL → x ∈ ps.toL → PartLay w0 pb bv ng z x) {w : World} {K : List (Nat × Obj)} {G : Gs} {cv iv : Value} {ls : List Value} {v : Value}
    (h : LI w0 w pb bv ng z K G cv iv ls) (hK : ∀ q o, (q, o) ∈ K → w0.heap.size ≤ q) (hv : RepV w0 (fun b => b ≠ pb) v bs) (hsm : (genBrs bs G).code.length ≤ 5000) (hbl : bs.len ≤ 5000) (hpl : ∀ ps, T.lst ps ∈ bs.toL → ps.len ≤ 5000) :
    Calls Tryd.prog 22 #[.pointer (some ⟨pb, 0, none⟩), v] w fun e w' => e = .returned (.tuple #[]) ∧ ∃ cv' iv' ls', LI w0 w' pb bv ng z K (genBrs bs G) cv' iv' ls' := by
  obtain ⟨co, hrow, hlen, hrep⟩ := hv
  obtain ⟨va, vn, vc, rfl⟩ := hrow.form
  have hvn : vn = bs.len := by
    rcases hrow with ⟨h1, h2⟩ | ⟨b, cap, h1, _⟩
    · cases h1; exact h2.symm
    · cases h1; rfl
  subst hvn
  have hn0 := hK
  have hw0 := h.turn.size
  have HR := Lib.hid hrow
  have HP := Lib.hid hrep
  have HN := Lib.hid hn0
  clear hrow hrep hn0
  obtain ⟨j0, hj0, hy0, hy1, hy2⟩ := info_parts Tryd.infoInt
  have hmx : Tryd.prog.follows .mixedOrders = true := by kernel_rfl
  go_enter Tryd.func22, Tryd.ntmps22
  go_wp2_with fail
  go_loopg [4, 14] bs.len (fun k s4 s14 wx => ∃ (rest : T) (i : Nat) (y : Gs × List Nat) (KE : List (Nat × Obj)) (cv iv : Value) (ls : List Value), s14 = .int .i64 i ∧ i + rest.len = bs.len ∧ k = rest.len ∧ bs.toL.drop i = rest.toL ∧ rest.ok 0 = true ∧ genB rest y = genB bs (G, []) ∧ LI w0 wx pb bv ng z (KE ++ K) y.1 cv iv ls ∧ Ends w0.heap.size wx K KE s4 y.2 ∧ (∀ x ∈ y.2, x < y.1.code.length) ∧ y.2.length ≤ i)
  case atStart => exact ⟨bs, 0, (G, []), [], cv, iv, ls, rfl, by omega, rfl, rfl, hok, rfl, h, Ends.nil _ _ _, (fun x hx => by cases hx), Nat.le_refl _⟩
  case round =>
    obtain ⟨rest, i, y, KE, cv, iv, ls, rfl, hi, rfl, hdr, hrk, hgen, hI, hE, hEl, hel⟩ := hrel
    obtain ⟨ea, en, ec, rfl⟩ := own_form hE.own
    cases rest with
    | nil =>
      simp only [T.len] at hi
      have hii : ¬ ((i : Int) < (bs.len : Int)) := by omega
      have hye : y = genB bs (G, []) := by rw [← hgen]; simp [genB]
      have hyl : y.1.code.length = (genBrs bs G).code.length := by rw [genBrs, setAs_len, hye]
      have hen : en = y.2.length := by
        rcases hE.own.2 with ⟨h1, h2⟩ | ⟨_, _, _, h1, _⟩
        · cases h1; exact h2.symm
        · cases h1; rfl
      subst hen
      have hyl5 : y.1.code.length ≤ 5000 := by omega
      have HY := Lib.hid hye
      clear hye hyl hgen hdr
      go_wp2_with fail
      go_loopg [72] y.2.length (fun k s72 wx => ∃ (i : Nat) (G2 : Gs) (cv : Value), s72 = .int .i64 i ∧ i + k = y.2.length ∧ setAs (y.2.drop i) G2 = setAs y.2 y.1 ∧ G2.code.length = y.1.code.length ∧ LI w0 wx pb bv ng z (KE ++ K) G2 cv iv ls ∧ Ends w0.heap.size wx K KE (.slice ea y.2.length ec) y.2)
      case atStart => exact ⟨0, y.1, cv, rfl, by omega, rfl, rfl, hI, hE⟩
      case round =>
        obtain ⟨j, G2, cv2, rfl, hjk, hset, hlen2, hI2, hE2⟩ := hrel
        have HS := Lib.hid hset
        have HL := Lib.hid hlen2
        have hg5 : G2.code.length ≤ 5000 := by omega
        cases gk with
        | zero =>
          clear hset hlen2
          have hjj : ¬ ((j : Int) < (y.2.length : Int)) := by omega
          go_wp2_with fail
          go_end0
          have : G2 = genBrs bs G := by
            have hset := HS.out
            rw [List.drop_of_length_le (by omega)] at hset
            rw [genBrs, ← HY.out]
            exact hset
          exact ⟨rfl, _, _, _, this ▸ hI2.sub fun x hx => List.mem_append_right _ hx⟩
        | succ k =>
          have hjj : (j : Int) < (y.2.length : Int) := by omega
          have hjl : j < y.2.length := by omega
          obtain ⟨xx, hxx⟩ : ∃ xx, y.2[j]? = some xx := ⟨_, List.getElem?_eq_getElem hjl⟩
          have hxl : xx < y.1.code.length := hEl _ (List.mem_of_getElem? hxx)
          obtain ⟨cb, cap, vv, rfl, hcell, hfrz⟩ := hI2.codeAt (i := xx) (by omega) 11 (by omega)
          have p3 := hI2.pat.cell (j := 3) (v := .slice (some ⟨cb, 0, none⟩) G2.code.length cap) rfl
          have hc := @World.ownsRow.cells _ _ _ _ _ _ _ hE2.own
          have hxI : (xx : Int) < ((G2.code.length : Nat) : Int) := by omega
          have hx0 : (0 : Int) ≤ (xx : Int) := Int.natCast_nonneg _
          obtain ⟨eb, rfl⟩ : ∃ eb, ea = some ⟨eb, 0, none⟩ := by
            rcases hE2.own.2 with ⟨h1, h2⟩ | ⟨g, cap, cur, h1, _⟩
            · omega
            · cases h1; exact ⟨g, rfl⟩
          have e0 := hc rfl j _ (natVals_at hxx)
          rw [add_addr] at e0
          have wj : IntKind.i64.wrap ((j : Int) + 1) = (j : Int) + 1 := by rw [IntKind.wrap_i64]; omega
          have HX := Lib.hid hxx
          clear hxx
          have H2 := Lib.hid hI2
          have HE2 := Lib.hid hE2
          clear hI2 hE2 hc hset hlen2
          go_wp2_with fail
          refine wp_region_still_tail 12 hmx (by kernel_rfl) ?_; simp only [List.take_succ_cons, List.take_zero, List.drop_succ_cons, List.drop_zero]; (repeat ((with_reducible refine wpStill_step (fun K hK => ?_)); go_simp; (with_reducible refine hK _ ?_); clear hK K)); (with_reducible refine wpStill_nil ?_)
          go_wp2_with fail
          go_roundg k
          case measure => omega
          case rel =>
            have H3 := (LI.putA H2.out.drew rfl xx (by omega) ((G2.code.length : Nat) : Int) rfl)
            refine ⟨j + 1, G2.setA xx G2.code.length, _, by push_cast; rfl, by omega, ?_, by rw [setA_len]; exact HL.out, H3, Ends.after HE2.out H2.out H3⟩
            have e : y.2[j] = xx := by have hxx := HX.out; rw [List.getElem?_eq_getElem hjl] at hxx; simpa using hxx
            rw [← HS.out, List.drop_eq_getElem_cons hjl, setAs, e]
    | cons x r =>
      simp only [T.ok, Bool.and_eq_true] at hrk
      obtain ⟨hxk, hrk⟩ := hrk
      cases x with
      | nil => simp [T.ok] at hxk
      | cons => simp [T.ok] at hxk
      | pl => simp [T.ok] at hxk
      | pg => simp [T.ok] at hxk
      | lst ps =>
        simp only [T.ok] at hxk
        simp only [T.len] at hi
        have hget : bs.toL[i]? = some (T.lst ps) := by
          have := congrArg (·[0]?) hdr
          simpa [T.toL] using this
        have hdr' : bs.toL.drop (i + 1) = r.toL := by
          have e : bs.toL.drop (i + 1) = (bs.toL.drop i).drop 1 := by rw [List.drop_drop]
          rw [e, hdr]; simp [T.toL]
        obtain ⟨c, d1, d2, d3⟩ := HP.out.get _ _ i _ hget
        obtain ⟨lv, co2, rfl, hrow2, hlen2, hrep2⟩ := d2
        have hco := d3 0 lv rfl
        obtain ⟨vb, hvb, hvc⟩ := row_get HR.out (by omega) i
        have hcell := (hI.turn.cell (b := vb) (j := i) hvc.1 hvc.2.1).trans (hvc.2.2 i _ (by simpa using hco))
        obtain ⟨la, ln, lc, rfl⟩ := hrow2.form
        have hln : ln = ps.len := by
          rcases hrow2 with ⟨h1, h2⟩ | ⟨b, cap, h1, _⟩
          · cases h1; exact h2.symm
          · cases h1; rfl
        subst hln
        subst hvb
        have HR2 := Lib.hid (fun hp => row_get hrow2 hp)
        have HP2 := Lib.hid hrep2
        have HG := Lib.hid hget
        have HDR := Lib.hid hdr'
        clear hrow2 hrep2 hget hdr' hdr d1 d3 hco hvc hlen2
        have hps5 := hpl ps (List.mem_of_getElem? HG.out)
        have hii : (i : Int) < (bs.len : Int) := by omega
        have hi0 : (0 : Int) ≤ (i : Int) := Int.natCast_nonneg _
        have wi : IntKind.i64.wrap ((i : Int) + 1) = (i : Int) + 1 := by rw [IntKind.wrap_i64]; omega
        have wl : IntKind.i64.wrap ((bs.len : Int) - 1) = (bs.len : Int) - 1 := by rw [IntKind.wrap_i64]; omega
        by_cases hr : r.len = 0
        · skip
          have hgl : genB (T.cons (T.lst ps) r) y = (gen ps y.1, y.2) := by rw [genB, if_pos hr, gen]
          have hrn : r = .nil := by
            cases r with
            | nil => rfl
            | cons a b => simp [T.len] at hr
            | pl => simp [T.ok] at hrk
            | pg => simp [T.ok] at hrk
            | lst => simp [T.ok] at hrk
          have hbound : (gen ps y.1).code.length ≤ 5000 := by
            have : (genBrs bs G).code.length = (gen ps y.1).code.length := by rw [genBrs, setAs_len, ← hgen, hgl]
            omega
          have hii2 : ¬ ((i : Int) < (bs.len : Int) - 1) := by omega
          have hle1 := gen_le ps y.1
          have HGEN := Lib.hid hgen
          have HGL := Lib.hid hgl
          have HEL := Lib.hid hEl
          clear hgen hgl hEl
          have HI := Lib.hid hI
          have HE := Lib.hid hE
          clear hI hE
          go_wp2_with fail
          go_loopg [41] ps.len (fun k s41 wx => ∃ (rp : T) (j : Nat) (G1 : Gs) (cv iv : Value) (ls : List Value), s41 = .int .i64 j ∧ j + rp.len = ps.len ∧ k = rp.len ∧ ps.toL.drop j = rp.toL ∧ rp.ok 1 = true ∧ gen rp G1 = gen ps y.1 ∧ LI w0 wx pb bv ng z (KE ++ K) G1 cv iv ls ∧ Ends w0.heap.size wx K KE (.slice ea en ec) y.2)
          case atStart => exact ⟨ps, 0, y.1, _, _, _, rfl, by omega, rfl, rfl, hxk, rfl, HI.out, HE.out⟩
          case round =>
            obtain ⟨rp, j, G1, cv1, iv1, ls1, rfl, hj, rfl, hdr1, hrk1, hgen1, hI1, hE1⟩ := hrel
            cases rp with
            | nil =>
              simp only [T.len] at hj
              have hG1 : G1 = gen ps y.1 := by rw [← hgen1]; simp [gen]
              clear hgen1 hdr1
              have hjj : ¬ ((j : Int) < (ps.len : Int)) := by omega
              have HI1 := Lib.hid hI1
              have HE1 := Lib.hid hE1
              have HG1 := Lib.hid hG1
              clear hI1 hE1 hG1
              go_wp2_with fail
              go_roundg 0
              case measure => simp [T.len]
              case rel =>
                refine ⟨.nil, i + 1, (gen ps y.1, y.2), KE, cv1, iv1, ls1, by push_cast; rfl, by rw [hrn] at hi; simp only [T.len] at hi ⊢; omega, by rfl, by rw [HDR.out, hrn], rfl, ?_, HG1.out ▸ HI1.out, HE1.out, fun x hx => ?_, by show y.2.length ≤ i + 1; omega⟩
                · rw [← HGEN.out, HGL.out]; simp [genB]
                · have := HEL.out x hx; show x < (gen ps y.1).code.length; omega
            | cons x r2 =>
              simp only [T.ok, Bool.and_eq_true] at hrk1
              obtain ⟨hx3, hrk2⟩ := hrk1
              simp only [T.len] at hj
              have hget1 : ps.toL[j]? = some x := by
                have := congrArg (·[0]?) hdr1
                simpa [T.toL] using this
              have hdr2 : ps.toL.drop (j + 1) = r2.toL := by
                have e : ps.toL.drop (j + 1) = (ps.toL.drop j).drop 1 := by rw [List.drop_drop]
                rw [e, hdr1]; simp [T.toL]
              obtain ⟨c, d1, d2, d3⟩ := HP2.out.get _ _ j x hget1
              obtain ⟨a, l, m, zz, ua, un, uc, hxa, rfl⟩ := part_form hx3 d2
              have hlay := hparts ps x (List.mem_of_getElem? HG.out) (List.mem_of_getElem? hget1)
              have hgx : gen r2 (gen x G1) = gen ps y.1 := by rw [← hgen1]; simp [gen]
              have hbx : (gen x G1).code.length ≤ 5000 := by
                have h1 := gen_le r2 (gen x G1)
                rw [hgx] at h1
                exact Nat.le_trans h1 hbound
              have hrc := Lib.hid d2
              obtain ⟨b2, hb2, hb3⟩ := HR2.out (by omega) j
              have hjj : (j : Int) < (ps.len : Int) := by omega
              have hj0 : (0 : Int) ≤ (j : Int) := Int.natCast_nonneg _
              have hps5 := hpl ps (List.mem_of_getElem? HG.out)
              have wj : IntKind.i64.wrap ((j : Int) + 1) = (j : Int) + 1 := by rw [IntKind.wrap_i64]; omega
              have hturn := hI1.turn
              have t0 : World.cell? _ ⟨b2, j * 12, none⟩ = some _ := (hturn.cell (b := b2) (j := j * 12) (hb3.1) hb3.2.1).trans (hb3.2.2 (j * 12) _ (d3 0 _ rfl))
              have t1 : World.cell? _ ⟨b2, j * 12 + 1, none⟩ = some _ := (hturn.cell (b := b2) (j := j * 12 + 1) (hb3.1) hb3.2.1).trans (hb3.2.2 (j * 12 + 1) _ (d3 1 _ rfl))
              have t2 : World.cell? _ ⟨b2, j * 12 + 2, none⟩ = some _ := (hturn.cell (b := b2) (j := j * 12 + 2) (hb3.1) hb3.2.1).trans (hb3.2.2 (j * 12 + 2) _ (d3 2 _ rfl))
              have t3 : World.cell? _ ⟨b2, j * 12 + 3, none⟩ = some _ := (hturn.cell (b := b2) (j := j * 12 + 3) (hb3.1) hb3.2.1).trans (hb3.2.2 (j * 12 + 3) _ (d3 3 _ rfl))
              have t4 : World.cell? _ ⟨b2, j * 12 + 4, none⟩ = some _ := (hturn.cell (b := b2) (j := j * 12 + 4) (hb3.1) hb3.2.1).trans (hb3.2.2 (j * 12 + 4) _ (d3 4 _ rfl))
              have t5 : World.cell? _ ⟨b2, j * 12 + 5, none⟩ = some _ := (hturn.cell (b := b2) (j := j * 12 + 5) (hb3.1) hb3.2.1).trans (hb3.2.2 (j * 12 + 5) _ (d3 5 _ rfl))
              have t6 : World.cell? _ ⟨b2, j * 12 + 6, none⟩ = some _ := (hturn.cell (b := b2) (j := j * 12 + 6) (hb3.1) hb3.2.1).trans (hb3.2.2 (j * 12 + 6) _ (d3 6 _ rfl))
              have t7 : World.cell? _ ⟨b2, j * 12 + 7, none⟩ = some _ := (hturn.cell (b := b2) (j := j * 12 + 7) (hb3.1) hb3.2.1).trans (hb3.2.2 (j * 12 + 7) _ (d3 7 _ rfl))
              have t8 : World.cell? _ ⟨b2, j * 12 + 8, none⟩ = some _ := (hturn.cell (b := b2) (j := j * 12 + 8) (hb3.1) hb3.2.1).trans (hb3.2.2 (j * 12 + 8) _ (d3 8 _ rfl))
              have t9 : World.cell? _ ⟨b2, j * 12 + 9, none⟩ = some _ := (hturn.cell (b := b2) (j := j * 12 + 9) (hb3.1) hb3.2.1).trans (hb3.2.2 (j * 12 + 9) _ (d3 9 _ rfl))
              have t10 : World.cell? _ ⟨b2, j * 12 + 10, none⟩ = some _ := (hturn.cell (b := b2) (j := j * 12 + 10) (hb3.1) hb3.2.1).trans (hb3.2.2 (j * 12 + 10) _ (d3 10 _ rfl))
              have t11 : World.cell? _ ⟨b2, j * 12 + 11, none⟩ = some _ := (hturn.cell (b := b2) (j := j * 12 + 11) (hb3.1) hb3.2.1).trans (hb3.2.2 (j * 12 + 11) _ (d3 11 _ rfl))
              have hKK : ∀ q o, (q, o) ∈ KE ++ K → w0.heap.size ≤ q := fun q o hq => by
                rcases List.mem_append.1 hq with hq | hq
                · have h1 := hE1.own.lt _ (hE1.ke q o hq); omega
                · exact HN.out q o hq
              subst hb2
              have H1 := Lib.hid hI1
              have HE1 := Lib.hid hE1
              have HGX := Lib.hid hgx
              have HD2 := Lib.hid hdr2
              have HLAY := Lib.hid hlay
              have HKK := Lib.hid hKK
              have HXA := Lib.hid hxa
              clear hI1 hE1 hgx hdr1 hdr2 hgen1 hget1 d1 d2 d3 hlay hKK hxa hturn
              go_wp2_with (go_at_call 31; refine (HLAY.out _ _ _ _ _ _ _ ((H1.out.alloc _)) HKK.out hrc.out rfl hbx).mono ?_; rintro e w5 ⟨rfl, cv5, iv5, ls5, h5⟩)
              go_roundg r2.len
              case measure => simp [T.len]
              case rel => exact ⟨r2, j + 1, gen x G1, _, _, _, by push_cast; rfl, by omega, rfl, HD2.out, hrk2, HGX.out, h5, Ends.after HE1.out H1.out h5⟩
            | pl => simp [T.ok] at hrk1
            | pg => simp [T.ok] at hrk1
            | lst => simp [T.ok] at hrk1
        · skip
          have hgl : genB (T.cons (T.lst ps) r) y = genB r (((gen ps ((y.1.add 2 0 0 0 0).setA y.1.code.length (y.1.add 2 0 0 0 0).code.length)).add 3 0 0 0 0).setB y.1.code.length ((gen ps ((y.1.add 2 0 0 0 0).setA y.1.code.length (y.1.add 2 0 0 0 0).code.length)).add 3 0 0 0 0).code.length, y.2 ++ [(gen ps ((y.1.add 2 0 0 0 0).setA y.1.code.length (y.1.add 2 0 0 0 0).code.length)).code.length]) := by rw [genB, if_neg hr]; simp only [gen]
          have hb1 : ((gen ps ((y.1.add 2 0 0 0 0).setA y.1.code.length (y.1.add 2 0 0 0 0).code.length)).add 3 0 0 0 0).code.length ≤ 5000 := by
            have h1 := genB_le r (((gen ps ((y.1.add 2 0 0 0 0).setA y.1.code.length (y.1.add 2 0 0 0 0).code.length)).add 3 0 0 0 0).setB y.1.code.length ((gen ps ((y.1.add 2 0 0 0 0).setA y.1.code.length (y.1.add 2 0 0 0 0).code.length)).add 3 0 0 0 0).code.length, y.2 ++ [(gen ps ((y.1.add 2 0 0 0 0).setA y.1.code.length (y.1.add 2 0 0 0 0).code.length)).code.length])
            rw [← hgl, hgen, setB_len] at h1
            have : (genBrs bs G).code.length = (genB bs (G, [])).1.code.length := by rw [genBrs, setAs_len]
            omega
          have hb2 : (gen ps ((y.1.add 2 0 0 0 0).setA y.1.code.length (y.1.add 2 0 0 0 0).code.length)).code.length + 1 ≤ 5000 := by rw [add_len] at hb1; exact hb1
          have hb3 : y.1.code.length + 1 ≤ (gen ps ((y.1.add 2 0 0 0 0).setA y.1.code.length (y.1.add 2 0 0 0 0).code.length)).code.length := by
            have h1 := gen_le ps ((y.1.add 2 0 0 0 0).setA y.1.code.length (y.1.add 2 0 0 0 0).code.length)
            have h2 : ((y.1.add 2 0 0 0 0).setA y.1.code.length (y.1.add 2 0 0 0 0).code.length).code.length = y.1.code.length + 1 := by rw [setA_len]; exact add_len _ _ _ _ _ _
            rw [h2] at h1
            exact h1
          have hbound : (gen ps ((y.1.add 2 0 0 0 0).setA y.1.code.length (y.1.add 2 0 0 0 0).code.length)).code.length ≤ 5000 := by omega
          have hii2 : (i : Int) < (bs.len : Int) - 1 := by omega
          have HGEN := Lib.hid hgen
          have HGL := Lib.hid hgl
          have HEL := Lib.hid hEl
          have HB1 := Lib.hid hb1
          clear hgen hgl hEl hb1
          have HI := Lib.hid hI
          have HE := Lib.hid hE
          clear hI hE
          go_wp2_with fail
          refine (add_lay HI.out (by omega) 2 0 0 0 0).mono ?_
          rintro e w5 ⟨rfl, g1, c1, ls1, h1⟩
          obtain ⟨cb, cap, vv, hcv, hcell, hfrz⟩ := h1.codeAt (i := y.1.code.length) (by rw [add_len]; omega) 11 (by omega)
          injection hcv with e1 e2 e3
          injection e1 with e1
          injection e1 with e1
          subst e1
          clear e2 e3
          have p3 := h1.pat.cell (j := 3) (v := .slice (some ⟨g1, 0, none⟩) (y.1.code.length + 1) c1) rfl
          have HE1 := Lib.hid (Ends.after HE.out HI.out h1)
          have H1 := Lib.hid h1
          clear h1
          go_wp2_with fail
          have hx0 : (0 : Int) ≤ (y.1.code.length : Int) := Int.natCast_nonneg _
          have hx1 : (y.1.code.length : Int) < (y.1.code.length : Int) + 1 := by omega
          refine wp_region_still_tail 12 hmx (by kernel_rfl) ?_; simp only [List.take_succ_cons, List.take_zero, List.drop_succ_cons, List.drop_zero]; (repeat ((with_reducible refine wpStill_step (fun K hK => ?_)); go_simp; (with_reducible refine hK _ ?_); clear hK K)); (with_reducible refine wpStill_nil ?_)
          go_wp2_with fail
          have H7 := Lib.hid (LI.putA H1.out.drew rfl y.1.code.length (by rw [add_len]; omega) ((y.1.code.length : Int) + 1) (v := (y.1.add 2 0 0 0 0).code.length) (by rw [add_len]; push_cast; rfl))
          have HE7 := Lib.hid (Ends.after HE1.out H1.out H7.out)
          go_loopg [41] ps.len (fun k s41 wx => ∃ (rp : T) (j : Nat) (G1 : Gs) (cv iv : Value) (ls : List Value), s41 = .int .i64 j ∧ j + rp.len = ps.len ∧ k = rp.len ∧ ps.toL.drop j = rp.toL ∧ rp.ok 1 = true ∧ gen rp G1 = gen ps ((y.1.add 2 0 0 0 0).setA y.1.code.length (y.1.add 2 0 0 0 0).code.length) ∧ LI w0 wx pb bv ng z (KE ++ K) G1 cv iv ls ∧ Ends w0.heap.size wx K KE (.slice ea en ec) y.2)
          case atStart => exact ⟨ps, 0, ((y.1.add 2 0 0 0 0).setA y.1.code.length (y.1.add 2 0 0 0 0).code.length), _, _, _, rfl, by omega, rfl, rfl, hxk, rfl, H7.out, HE7.out⟩
          case round =>
            obtain ⟨rp, j, G1, cv1, iv1, ls1, rfl, hj, rfl, hdr1, hrk1, hgen1, hI1, hE1⟩ := hrel
            cases rp with
            | nil =>
              simp only [T.len] at hj
              have hG1 : G1 = gen ps ((y.1.add 2 0 0 0 0).setA y.1.code.length (y.1.add 2 0 0 0 0).code.length) := by rw [← hgen1]; simp [gen]
              clear hgen1 hdr1
              have hjj : ¬ ((j : Int) < (ps.len : Int)) := by omega
              subst hG1
              have HI1 := Lib.hid hI1
              have HE2 := Lib.hid hE1
              clear hI1 hE1
              have hge : (0 : Int) ≤ (y.1.code.length : Int) := Int.natCast_nonneg _
              go_wp2_with fail
              refine (add_lay HI1.out (by omega) 3 0 0 0 0).mono ?_
              rintro e w6 ⟨rfl, g2, c2, ls2, h2⟩
              have HE3 := Lib.hid (Ends.after HE2.out HI1.out h2)
              have H3 := Lib.hid h2
              clear h2
              go_wp2_with (at_builtin; refine wpList_append_lies _ (by rfl) _ _ _ (by rfl) w0.heap.size 3 j0 _ 1 8 Tryd.underlying54 hj0 hy0 hy1 hy2 rfl (by omega) (.slice ea en ec) y.2.length (natVals y.2) (by rfl) (HE3.out.own.alloc _) ⟨w6.heap.size, 0, none⟩ 1 1 [.int .i64 ((gen ps ((y.1.add 2 0 0 0 0).setA y.1.code.length (y.1.add 2 0 0 0 0).code.length)).code.length : Int)] (by rfl) (by rfl) (World.news_of_block (cs := #[.int .i64 ((gen ps ((y.1.add 2 0 0 0 0).setA y.1.code.length (y.1.add 2 0 0 0 0).code.length)).code.length : Int)]) (t := 3) (fr := (0, 0)) (heap_alloc_new _ _)) (by simp [Value.oneCell']) (by omega) (by unfold maxLen; omega) (by omega) (by have := H3.out.turn.size; simp; omega) (w6.heap.size + 1) (by simp) ?_; intro gg cap w7 hown1 hgrow hat hlt; obtain ⟨KE', hE8, h8⟩ := Ends.push (Ends.after HE3.out H3.out (H3.out.alloc (.cells #[.int .i64 ((gen ps ((y.1.add 2 0 0 0 0).setA y.1.code.length (y.1.add 2 0 0 0 0).code.length)).code.length : Int)] 3))) (H3.out.alloc (.cells #[.int .i64 ((gen ps ((y.1.add 2 0 0 0 0).setA y.1.code.length (y.1.add 2 0 0 0 0).code.length)).code.length : Int)] 3)) HN.out (Nat.le_refl _) hown1 hgrow (hat.imp id fun e => by simp; omega); clear hown1 hgrow hat hlt; obtain ⟨cb, cap8, vv, hcv, hcell8, hfrz8⟩ := h8.codeAt (i := y.1.code.length) (by rw [add_len]; omega) 12 (by omega); injection hcv with e1 e2 e3; injection e1 with e1; injection e1 with e1; subst e1; clear e2 e3; have p38 := h8.pat.cell (j := 3) (v := .slice (some ⟨g2, 0, none⟩) ((gen ps ((y.1.add 2 0 0 0 0).setA y.1.code.length (y.1.add 2 0 0 0 0).code.length)).code.length + 1) c2) rfl; have H8 := Lib.hid h8; have HE8 := Lib.hid hE8; clear h8 hE8)
              have hx8 : (y.1.code.length : Int) < ((gen ps ((y.1.add 2 0 0 0 0).setA y.1.code.length (y.1.add 2 0 0 0 0).code.length)).code.length : Int) + 1 := by omega
              refine wp_region_still_tail 12 hmx (by kernel_rfl) ?_; simp only [List.take_succ_cons, List.take_zero, List.drop_succ_cons, List.drop_zero]; (repeat ((with_reducible refine wpStill_step (fun K hK => ?_)); go_simp; (with_reducible refine hK _ ?_); clear hK K)); (with_reducible refine wpStill_nil ?_)
              go_wp2_with fail
              have H9 := Lib.hid (LI.putB H8.out.drew rfl y.1.code.length (by have := add_len (gen ps ((y.1.add 2 0 0 0 0).setA y.1.code.length (y.1.add 2 0 0 0 0).code.length)) 3 0 0 0 0; omega) (((gen ps ((y.1.add 2 0 0 0 0).setA y.1.code.length (y.1.add 2 0 0 0 0).code.length)).code.length : Int) + 1) (v := ((gen ps ((y.1.add 2 0 0 0 0).setA y.1.code.length (y.1.add 2 0 0 0 0).code.length)).add 3 0 0 0 0).code.length) (by have := add_len (gen ps ((y.1.add 2 0 0 0 0).setA y.1.code.length (y.1.add 2 0 0 0 0).code.length)) 3 0 0 0 0; omega))
              have HE9 := Lib.hid (Ends.after HE8.out H8.out H9.out)
              go_roundg r.len
              case measure => simp [T.len]
              case rel =>
                refine ⟨r, i + 1, (((gen ps ((y.1.add 2 0 0 0 0).setA y.1.code.length (y.1.add 2 0 0 0 0).code.length)).add 3 0 0 0 0).setB y.1.code.length ((gen ps ((y.1.add 2 0 0 0 0).setA y.1.code.length (y.1.add 2 0 0 0 0).code.length)).add 3 0 0 0 0).code.length, y.2 ++ [(gen ps ((y.1.add 2 0 0 0 0).setA y.1.code.length (y.1.add 2 0 0 0 0).code.length)).code.length]), KE', _, _, _, by push_cast; rfl, by omega, rfl, HDR.out, hrk, ?_, H9.out, ?_, fun x hx => ?_, ?_⟩
                · rw [← HGEN.out, HGL.out]
                · have e : (y.2 ++ [(gen ps ((y.1.add 2 0 0 0 0).setA y.1.code.length (y.1.add 2 0 0 0 0).code.length)).code.length]).length = y.2.length + 1 := by simp
                  exact HE9.out
                · have hx3 := add_len (gen ps ((y.1.add 2 0 0 0 0).setA y.1.code.length (y.1.add 2 0 0 0 0).code.length)) 3 0 0 0 0
                  rw [setB_len]
                  rcases List.mem_append.1 hx with hx | hx
                  · have := HEL.out x hx; omega
                  · have : x = (gen ps ((y.1.add 2 0 0 0 0).setA y.1.code.length (y.1.add 2 0 0 0 0).code.length)).code.length := by simpa using hx
                    omega
                · have e : (y.2 ++ [(gen ps ((y.1.add 2 0 0 0 0).setA y.1.code.length (y.1.add 2 0 0 0 0).code.length)).code.length]).length = y.2.length + 1 := by simp
                  show (y.2 ++ [(gen ps ((y.1.add 2 0 0 0 0).setA y.1.code.length (y.1.add 2 0 0 0 0).code.length)).code.length]).length ≤ i + 1
                  omega
            | cons x r2 =>
              simp only [T.ok, Bool.and_eq_true] at hrk1
              obtain ⟨hx3, hrk2⟩ := hrk1
              simp only [T.len] at hj
              have hget1 : ps.toL[j]? = some x := by
                have := congrArg (·[0]?) hdr1
                simpa [T.toL] using this
              have hdr2 : ps.toL.drop (j + 1) = r2.toL := by
                have e : ps.toL.drop (j + 1) = (ps.toL.drop j).drop 1 := by rw [List.drop_drop]
                rw [e, hdr1]; simp [T.toL]
              obtain ⟨c, d1, d2, d3⟩ := HP2.out.get _ _ j x hget1
              obtain ⟨a, l, m, zz, ua, un, uc, hxa, rfl⟩ := part_form hx3 d2
              have hlay := hparts ps x (List.mem_of_getElem? HG.out) (List.mem_of_getElem? hget1)
              have hgx : gen r2 (gen x G1) = gen ps ((y.1.add 2 0 0 0 0).setA y.1.code.length (y.1.add 2 0 0 0 0).code.length) := by rw [← hgen1]; simp [gen]
              have hbx : (gen x G1).code.length ≤ 5000 := by
                have h1 := gen_le r2 (gen x G1)
                rw [hgx] at h1
                exact Nat.le_trans h1 hbound
              have hrc := Lib.hid d2
              obtain ⟨b2, hb2, hb3⟩ := HR2.out (by omega) j
              have hjj : (j : Int) < (ps.len : Int) := by omega
              have hj0 : (0 : Int) ≤ (j : Int) := Int.natCast_nonneg _
              have hps5 := hpl ps (List.mem_of_getElem? HG.out)
              have wj : IntKind.i64.wrap ((j : Int) + 1) = (j : Int) + 1 := by rw [IntKind.wrap_i64]; omega
              have hturn := hI1.turn
              have t0 : World.cell? _ ⟨b2, j * 12, none⟩ = some _ := (hturn.cell (b := b2) (j := j * 12) (hb3.1) hb3.2.1).trans (hb3.2.2 (j * 12) _ (d3 0 _ rfl))
              have t1 : World.cell? _ ⟨b2, j * 12 + 1, none⟩ = some _ := (hturn.cell (b := b2) (j := j * 12 + 1) (hb3.1) hb3.2.1).trans (hb3.2.2 (j * 12 + 1) _ (d3 1 _ rfl))
              have t2 : World.cell? _ ⟨b2, j * 12 + 2, none⟩ = some _ := (hturn.cell (b := b2) (j := j * 12 + 2) (hb3.1) hb3.2.1).trans (hb3.2.2 (j * 12 + 2) _ (d3 2 _ rfl))
              have t3 : World.cell? _ ⟨b2, j * 12 + 3, none⟩ = some _ := (hturn.cell (b := b2) (j := j * 12 + 3) (hb3.1) hb3.2.1).trans (hb3.2.2 (j * 12 + 3) _ (d3 3 _ rfl))
              have t4 : World.cell? _ ⟨b2, j * 12 + 4, none⟩ = some _ := (hturn.cell (b := b2) (j := j * 12 + 4) (hb3.1) hb3.2.1).trans (hb3.2.2 (j * 12 + 4) _ (d3 4 _ rfl))
              have t5 : World.cell? _ ⟨b2, j * 12 + 5, none⟩ = some _ := (hturn.cell (b := b2) (j := j * 12 + 5) (hb3.1) hb3.2.1).trans (hb3.2.2 (j * 12 + 5) _ (d3 5 _ rfl))
              have t6 : World.cell? _ ⟨b2, j * 12 + 6, none⟩ = some _ := (hturn.cell (b := b2) (j := j * 12 + 6) (hb3.1) hb3.2.1).trans (hb3.2.2 (j * 12 + 6) _ (d3 6 _ rfl))
              have t7 : World.cell? _ ⟨b2, j * 12 + 7, none⟩ = some _ := (hturn.cell (b := b2) (j := j * 12 + 7) (hb3.1) hb3.2.1).trans (hb3.2.2 (j * 12 + 7) _ (d3 7 _ rfl))
              have t8 : World.cell? _ ⟨b2, j * 12 + 8, none⟩ = some _ := (hturn.cell (b := b2) (j := j * 12 + 8) (hb3.1) hb3.2.1).trans (hb3.2.2 (j * 12 + 8) _ (d3 8 _ rfl))
              have t9 : World.cell? _ ⟨b2, j * 12 + 9, none⟩ = some _ := (hturn.cell (b := b2) (j := j * 12 + 9) (hb3.1) hb3.2.1).trans (hb3.2.2 (j * 12 + 9) _ (d3 9 _ rfl))
              have t10 : World.cell? _ ⟨b2, j * 12 + 10, none⟩ = some _ := (hturn.cell (b := b2) (j := j * 12 + 10) (hb3.1) hb3.2.1).trans (hb3.2.2 (j * 12 + 10) _ (d3 10 _ rfl))
              have t11 : World.cell? _ ⟨b2, j * 12 + 11, none⟩ = some _ := (hturn.cell (b := b2) (j := j * 12 + 11) (hb3.1) hb3.2.1).trans (hb3.2.2 (j * 12 + 11) _ (d3 11 _ rfl))
              have hKK : ∀ q o, (q, o) ∈ KE ++ K → w0.heap.size ≤ q := fun q o hq => by
                rcases List.mem_append.1 hq with hq | hq
                · have h1 := hE1.own.lt _ (hE1.ke q o hq); omega
                · exact HN.out q o hq
              subst hb2
              have H1 := Lib.hid hI1
              have HE1 := Lib.hid hE1
              have HGX := Lib.hid hgx
              have HD2 := Lib.hid hdr2
              have HLAY := Lib.hid hlay
              have HKK := Lib.hid hKK
              have HXA := Lib.hid hxa
              clear hI1 hE1 hgx hdr1 hdr2 hgen1 hget1 d1 d2 d3 hlay hKK hxa hturn
              go_wp2_with (go_at_call 31; refine (HLAY.out _ _ _ _ _ _ _ ((H1.out.alloc _)) HKK.out hrc.out rfl hbx).mono ?_; rintro e w5 ⟨rfl, cv5, iv5, ls5, h5⟩)
              go_roundg r2.len
              case measure => simp [T.len]
              case rel => exact ⟨r2, j + 1, gen x G1, _, _, _, by push_cast; rfl, by omega, rfl, HD2.out, hrk2, HGX.out, h5, Ends.after HE1.out H1.out h5⟩
            | pl => simp [T.ok] at hrk1
            | pg => simp [T.ok] at hrk1
            | lst => simp [T.ok] at hrk1
    | pl => simp [T.ok] at hrk
    | pg => simp [T.ok] at hrk
    | lst => simp [T.ok] at hrk

end Go.Proofs.YtlanodchnjojoaaDoor

