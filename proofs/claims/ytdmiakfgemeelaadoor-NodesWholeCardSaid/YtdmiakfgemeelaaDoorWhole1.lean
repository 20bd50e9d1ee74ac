/- winnowerlaw13.exprs and within: yes, where all parts are right. -/
import Derived.Test.YtdmiakfgemeelaaDoorHuge
import Derived.Test.YtdmiakfgemeelaaDoorDeep1
namespace Go.Proofs.YtdmiakfgemeelaaDoor
set_option linter.unusedSimpArgs false
set_option linter.unusedVariables false
open Go.RowKit

theorem exsL_at : ∀ (es : List Ex) (i : Nat) (h : i < es.length), exsL es = true → exprB es[i] = true ∧ exsL es[i].kids = true
  | .mk k s n kids :: es, 0, _, h => by
    simp only [exsL, exL, Bool.and_eq_true] at h
    exact h.1
  | e :: es, i + 1, h, ha => by
    simp only [exsL, Bool.and_eq_true] at ha
    exact exsL_at es i (by simpa using h) ha.2
theorem stsL_at : ∀ (es : List St) (i : Nat) (h : i < es.length), stsL es = true → rightB [endOf es[i]] = true ∧ exsL es[i].exprs = true ∧ stsL es[i].body = true ∧ stsL es[i].els = true
  | .mk k s n ex body els ln :: es, 0, _, h => by
    simp only [stsL, stL, Bool.and_eq_true] at h
    exact ⟨h.1.1.1.1, h.1.1.1.2, h.1.1.2, h.1.2⟩
  | e :: es, i + 1, h, ha => by
    simp only [stsL, Bool.and_eq_true] at ha
    exact stsL_at es i (by simpa using h) ha.2

set_option maxRecDepth 100000 in
set_option maxHeartbeats 1000000 in
theorem lawExprs_any : ∀ (N : Nat) (es : List Ex), szEs es < N → exsL es = true → ∀ (A : Option Addr) (c : Nat) (W : World), es.length ≤ 140737488351232 → ExsIn W W.heap.size A 0 es → Tab W.heap.size W →
    Calls Tryd.prog 12 #[.slice A es.length c] W fun r w' => r = .returned (.bool true) ∧ Below W.heap.size W w' := by
  intro N
  induction N with
  | zero => intro es h; omega
  | succ N IH =>
    intro es hN hall A c W hlen hin hT
    have HI := Lib.hid hin
    have HN := Lib.hid hN
    have HA := Lib.hid hall
    have HT := Lib.hid hT
    have IH' := Lib.hid IH
    clear hin hN hall hT IH
    obtain ⟨L, hL⟩ : ∃ L, L = es.length := ⟨_, rfl⟩
    rw [← hL] at hlen ⊢
    have HLn := Lib.hid hL
    clear hL
    go_enter Tryd.func12, Tryd.ntmps12
    go_wp2_with fail
    go_loopw [7] (fun x wr => ∃ i : Nat, x = .int .i64 i ∧ i ≤ L ∧ Below W.heap.size W wr) (fun x _ => L - (intOf x).toNat)
    case atStart => exact ⟨0, rfl, by omega, Below.refl _ _⟩
    case round =>
      obtain ⟨i, rfl, hi, hBr⟩ := hrel
      have HBr := Lib.hid hBr
      by_cases hlt : i < L
      · have hlt' : i < es.length := by have := HLn.out; omega
        obtain ⟨b, o, rfl, hbB, hx⟩ := (HI.out.below hBr).at_ i hlt'
        rw [Nat.zero_add] at hx
        obtain ⟨h1, h2⟩ := exsL_at es i hlt' HA.out
        have HZ := Lib.hid (szEs_at es i hlt')
        have HX := Lib.hid hx
        have HE := Lib.hid h1
        have HK := Lib.hid h2
        clear hx h1 h2 hBr
        generalize es[i] = e at *
        obtain ⟨A3, k3, q0, q1, q2, q3, hkids, hok⟩ := HX.out.parts
        have Hok := Lib.hid hok
        have Hkids := Lib.hid hkids
        clear hok hkids
        have hz := HBr.out.size
        have CE : Hid (∀ W2, Below wr.heap.size wr W2 → Calls Tryd.prog 8 #[.agg #[.int .u8 e.k, .string e.s, .int .u64 e.n, .slice A3 e.kids.length k3]] W2 fun r w' => r = .returned (.bool true) ∧ Below W2.heap.size W2 w') := fun W2 h2 =>
          (Expr_any A3 k3 e W2 Hok.out (((Hkids.out.more hz).below h2).more h2.size) (tab_up HT.out (HBr.out.trans (h2.mono hz)) (Nat.le_trans hz h2.size))).mono (by rintro r w' ⟨rfl, hb⟩; exact ⟨ret_bool HE.out, hb⟩)
        have CK : Hid (∀ W2, Below wr.heap.size wr W2 → Calls Tryd.prog 12 #[.slice A3 e.kids.length k3] W2 fun r w' => r = .returned (.bool true) ∧ Below W2.heap.size W2 w') := fun W2 h2 =>
          IH'.out e.kids (by have := HZ.out; have := HN.out; omega) HK.out A3 k3 W2 Hok.out.2.2.2.2.2 (((Hkids.out.more hz).below h2).more h2.size) (tab_up HT.out (HBr.out.trans (h2.mono hz)) (Nat.le_trans hz h2.size))
        have hA : ∀ ob, Below wr.heap.size wr (wr.alloc ob) := fun ob => (Below.refl _ _).alloc (Nat.le_refl _) _
        have HAl := Lib.hid hA
        have HC3 : Hid (∀ w2, Below (wr.alloc (.cells #[.int .u8 e.k, .string e.s, .int .u64 e.n, .slice A3 e.kids.length k3] 27)).heap.size (wr.alloc (.cells #[.int .u8 e.k, .string e.s, .int .u64 e.n, .slice A3 e.kids.length k3] 27)) w2 → w2.cell? ⟨wr.heap.size, 3, none⟩ = some (.slice A3 e.kids.length k3)) :=
          fun w2 h2 => ((Blk.new wr 27 _).below h2 (by simp)).cell 3
        have HUp : Hid (∀ ob w2, Below (wr.alloc ob).heap.size (wr.alloc ob) w2 → Below wr.heap.size wr w2) := fun ob w2 h2 => (HAl.out ob).trans (h2.mono (by simp))
        clear hA
        go_wp2_with fail
        (with_reducible refine (CE.out _ (HAl.out _)).mono ?_)
        rintro r w2 ⟨rfl, hB2⟩
        have q4 := HC3.out w2 hB2
        have HB2 := Lib.hid (HUp.out _ _ hB2)
        clear hB2
        go_wp2_with fail
        (with_reducible refine (CK.out _ HB2.out).mono ?_)
        rintro r w3 ⟨rfl, hB3⟩
        have HB3 := Lib.hid (HB2.out.trans (hB3.mono HB2.out.size))
        clear hB3
        go_wp2_with fail
        go_roundw
        case rel => exact ⟨i + 1, by go_num, by omega, HBr.out.trans (HB3.out.mono hz)⟩
        case measure => simp [intOf]; omega
      · have hie : i = L := by omega
        subst hie
        go_wp2_with fail
        go_ret
        exact ⟨rfl, HBr.out⟩

set_option maxRecDepth 100000 in
set_option maxHeartbeats 1000000 in
theorem lawWithin_any : ∀ (N : Nat) (es : List St), szSs es < N → stsL es = true → ∀ (A : Option Addr) (c : Nat) (W : World), es.length ≤ 140737488351232 → StsIn W W.heap.size A 0 es → Tab W.heap.size W →
    Calls Tryd.prog 13 #[.slice A es.length c] W fun r w' => r = .returned (.bool true) ∧ Below W.heap.size W w' := by
  intro N
  induction N with
  | zero => intro es h; omega
  | succ N IH =>
    intro es hN hall A c W hlen hin hT
    have HI := Lib.hid hin
    have HN := Lib.hid hN
    have HA := Lib.hid hall
    have HT := Lib.hid hT
    have IH' := Lib.hid IH
    clear hin hN hall hT IH
    obtain ⟨L, hL⟩ : ∃ L, L = es.length := ⟨_, rfl⟩
    rw [← hL] at hlen ⊢
    have HLn := Lib.hid hL
    clear hL
    go_enter Tryd.func13, Tryd.ntmps13
    go_wp2_with fail
    go_loopw [8] (fun x wr => ∃ i : Nat, x = .int .i64 i ∧ i ≤ L ∧ Below W.heap.size W wr) (fun x _ => L - (intOf x).toNat)
    case atStart => exact ⟨0, rfl, by omega, Below.refl _ _⟩
    case round =>
      obtain ⟨i, rfl, hi, hBr⟩ := hrel
      have HBr := Lib.hid hBr
      by_cases hlt : i < L
      · have hlt' : i < es.length := by have := HLn.out; omega
        obtain ⟨b, o, rfl, hbB, hx⟩ := (HI.out.below hBr).at_ i hlt'
        rw [Nat.zero_add] at hx
        have HAll := Lib.hid (stsL_at es i hlt' HA.out)
        have HZ := Lib.hid (szSs_at es i hlt')
        have HX := Lib.hid hx
        clear hx hBr
        generalize es[i] = x at *
        obtain ⟨A1, k1, A2, k2, A3, k3, q0, q1, q2, q3, q4, q5, q6, hex, hbd, hel, hok⟩ := HX.out.parts
        have Hok := Lib.hid hok
        have Hex := Lib.hid hex
        have Hbd := Lib.hid hbd
        have Hel := Lib.hid hel
        have hz := HBr.out.size
        clear hok hex hbd hel
        go_wp2_with fail
        generalize hW4 : World.alloc _ _ = W4
        obtain ⟨b0, b1, b2, b3, hB4, hsz⟩ := blk4 wr _ _ _ _ _ _ _ _ W4 hW4.symm
        clear hW4
        have HB4 := Lib.hid hB4
        have HS4 := Lib.hid hsz
        have hT4 : Tab W4.heap.size W4 := tab_up HT.out (HBr.out.trans (hB4.mono hz)) (by omega)
        have hits : ItsIn W4 W4.heap.size (some ⟨wr.heap.size + 1 + 1, 0, none⟩) 0 [endOf x] := by
          refine ⟨⟨_, 0, rfl, by omega, ?_⟩, trivial⟩
          refine ⟨⟨by show (0 : Int) ≤ 2; omega, by show (2 : Int) ≤ 255; omega, by show (0 : Nat) ≤ _; omega, by show (0 : Nat) ≤ _; omega, (fun s hs => nomatch hs), by show (0 : Nat) ≤ _; omega, by show (1 : Nat) ≤ _; omega⟩, none, 0, none, 0, some ⟨wr.heap.size + 1, 0, none⟩, 1, ⟨b2.cell 0, b2.cell 1, b2.cell 2, b2.cell 3, b2.cell 4, b2.cell 5, b2.cell 6⟩, trivial, by simp only [endOf, ExsIn], ?_⟩
          simp only [endOf, StsIn]
          refine ⟨⟨_, 0, rfl, by omega, ?_⟩, trivial⟩
          have ho := Hok.out
          have q1 := ((Hex.out.more hz).below HB4.out).more (show wr.heap.size ≤ W4.heap.size by omega)
          have q2 := ((Hbd.out.more hz).below HB4.out).more (show wr.heap.size ≤ W4.heap.size by omega)
          have q3 := ((Hel.out.more hz).below HB4.out).more (show wr.heap.size ≤ W4.heap.size by omega)
          clear b0 b2 b3 HAll HZ HX Hok Hex Hbd Hel
          obtain ⟨k, s, n, e1, e2, e3, ln⟩ := x
          simp only [StIn]
          exact ⟨ho, A1, k1, A2, k2, A3, k3, b1.cell 0, b1.cell 1, b1.cell 2, b1.cell 3, b1.cell 4, b1.cell 5, b1.cell 6, q1, q2, q3⟩
        have CR := Lib.hid (Right_any (some ⟨wr.heap.size + 1 + 1, 0, none⟩) 1 [endOf x] W4 hits (by simp) hT4)
        rw [HAll.out.1, show [endOf x].length = 1 from rfl] at CR
        have B0 : Hid (∀ w2, Below W4.heap.size W4 w2 → w2.cell? ⟨wr.heap.size, 3, none⟩ = some (.slice A1 x.exprs.length k1) ∧ w2.cell? ⟨wr.heap.size, 4, none⟩ = some (.slice A2 x.body.length k2) ∧ w2.cell? ⟨wr.heap.size, 5, none⟩ = some (.slice A3 x.els.length k3)) :=
          fun w2 h2 => ⟨(b0.below h2 (by omega)).cell 3, (b0.below h2 (by omega)).cell 4, (b0.below h2 (by omega)).cell 5⟩
        have HTr : Hid (∀ w2, Below wr.heap.size wr w2 → ExsIn w2 w2.heap.size A1 0 x.exprs ∧ StsIn w2 w2.heap.size A2 0 x.body ∧ StsIn w2 w2.heap.size A3 0 x.els ∧ Tab w2.heap.size w2) := fun w2 h2 =>
          ⟨((Hex.out.more hz).below h2).more h2.size, ((Hbd.out.more hz).below h2).more h2.size, ((Hel.out.more hz).below h2).more h2.size, tab_up HT.out (HBr.out.trans (h2.mono hz)) (Nat.le_trans hz h2.size)⟩
        clear b0 b1 b2 b3 hits hT4 hsz hB4 q0 q1 q2 q3 q4 q5 q6
        (with_reducible refine CR.out.mono ?_)
        rintro r w5 ⟨rfl, hB5⟩
        have H5 := Lib.hid hB5
        obtain ⟨p3, -, -⟩ := B0.out w5 hB5
        clear hB5
        have L5 : Hid (Below wr.heap.size wr w5) := HB4.out.trans (H5.out.mono (by have := HS4.out; omega))
        have C1 := Lib.hid (lawExprs_any _ x.exprs (Nat.lt_succ_self _) HAll.out.2.1 A1 k1 w5 Hok.out.2.2.2.2.2.1 (HTr.out _ L5.out).1 (HTr.out _ L5.out).2.2.2)
        go_wp2_with fail
        (with_reducible refine C1.out.mono ?_)
        rintro r w6 ⟨rfl, hB6⟩
        have H6 : Hid (Below W4.heap.size W4 w6) := H5.out.trans (hB6.mono H5.out.size)
        clear hB6 p3
        obtain ⟨-, p4, -⟩ := B0.out w6 H6.out
        have L6 : Hid (Below wr.heap.size wr w6) := HB4.out.trans (H6.out.mono (by have := HS4.out; omega))
        have C2 := Lib.hid (IH'.out x.body (by have := HZ.out.1; have := HN.out; omega) HAll.out.2.2.1 A2 k2 w6 Hok.out.2.2.2.2.2.2.1 (HTr.out _ L6.out).2.1 (HTr.out _ L6.out).2.2.2)
        go_wp2_with fail
        (with_reducible refine C2.out.mono ?_)
        rintro r w7 ⟨rfl, hB7⟩
        have H7 : Hid (Below W4.heap.size W4 w7) := H6.out.trans (hB7.mono H6.out.size)
        clear hB7 p4
        obtain ⟨-, -, p5⟩ := B0.out w7 H7.out
        have L7 : Hid (Below wr.heap.size wr w7) := HB4.out.trans (H7.out.mono (by have := HS4.out; omega))
        have C3 := Lib.hid (IH'.out x.els (by have := HZ.out.2; have := HN.out; omega) HAll.out.2.2.2 A3 k3 w7 Hok.out.2.2.2.2.2.2.2 (HTr.out _ L7.out).2.2.1 (HTr.out _ L7.out).2.2.2)
        go_wp2_with fail
        (with_reducible refine C3.out.mono ?_)
        rintro r w8 ⟨rfl, hB8⟩
        have L8 : Hid (Below wr.heap.size wr w8) := L7.out.trans (hB8.mono L7.out.size)
        clear hB8 p5
        go_wp2_with fail
        go_roundw
        case rel => exact ⟨i + 1, by go_num, by omega, HBr.out.trans (L8.out.mono hz)⟩
        case measure => simp [intOf]; omega
      · have hie : i = L := by omega
        subst hie
        go_wp2_with fail
        go_ret
        exact ⟨rfl, HBr.out⟩
end Go.Proofs.YtdmiakfgemeelaaDoor
