/- NodesWhole: the walk, whole. -/
import Derived.Test.YtdmiakfgemeelaaDoorWhole1
namespace Go.Proofs.YtdmiakfgemeelaaDoor
set_option linter.unusedSimpArgs false
set_option linter.unusedVariables false
open Go.RowKit

theorem ItsIn.take {w : World} {B : Nat} {A : Option Addr} : ∀ {l : List It} {i : Nat} (n : Nat), ItsIn w B A i l → ItsIn w B A i (l.take n)
  | [], _, n, h => by simp [ItsIn]
  | x :: l, _, 0, h => by simp [ItsIn]
  | x :: l, i, n + 1, h => ⟨h.1, ItsIn.take n h.2⟩

set_option maxRecDepth 100000 in
set_option maxHeartbeats 4000000 in
theorem whole_any (A : Option Addr) (c : Nat) (its : List It) (w : World) (hin : ItsIn w w.heap.size A 0 its) (hl : its.length ≤ 140737488351232) (hc : its.length ≤ c) (hc2 : c ≤ 9223372036854775807) (hT : Tab w.heap.size w) :
    Calls Tryd.prog 4 #[.agg #[.slice A its.length c]] w fun r w' => r = .returned (.bool true) ∧ Below w.heap.size w w' := by
  have HI := Lib.hid hin
  have HT := Lib.hid hT
  have CS := Lib.hid (fun W hW => Size_any A c its W hW hl)
  have CR := Lib.hid (fun W hW hT => Right_any A c its W hW hl hT)
  have CH := Lib.hid (fun W hW => Huge_any A c its W hW hl 100 400 (by omega) (by omega) (by omega) (by omega))
  clear hin hT
  obtain ⟨L, hL⟩ : ∃ L, L = its.length := ⟨_, rfl⟩
  rw [← hL] at hl hc CS CR CH ⊢
  have HLn := Lib.hid hL
  clear hL
  go_enter Tryd.func4, Tryd.ntmps4
  go_wp2_with fail
  have hI1 : ∀ W, Below w.heap.size w W → ItsIn W W.heap.size A 0 its ∧ Tab W.heap.size W := fun W hW => ⟨(HI.out.below hW).more hW.size, tab_up HT.out hW hW.size⟩
  have HI1 := Lib.hid hI1
  clear hI1
  have hAl : ∀ ob, Below w.heap.size w (w.alloc ob) := fun ob => (Below.refl _ _).alloc (Nat.le_refl _) _
  have HAl := Lib.hid hAl
  clear hAl
  (with_reducible refine (CH.out _ (HI1.out _ (HAl.out _)).1).mono ?_)
  rintro r w1 ⟨b, rfl, hb, hB1⟩
  have HBx := Lib.hid (Blk.new w 39 #[.slice A L c])
  have H1 : Hid (Below (w.alloc (.cells #[.slice A L c] 39)).heap.size (w.alloc (.cells #[.slice A L c] 39)) w1) := hB1
  have CAw : Hid (∀ W, Below w.heap.size w W → Calls Tryd.prog 9 #[] W fun r w' => r = .returned (.bool true) ∧ Below w.heap.size w w') := fun W hW =>
    (awake_any W (HI1.out W hW).2).mono (by rintro r w' ⟨rfl, hb⟩; exact ⟨rfl, hW.trans (hb.mono hW.size)⟩)
  obtain ⟨W0, hW0⟩ : ∃ W0, W0 = w.alloc (.cells #[.slice A L c] 39) := ⟨_, rfl⟩
  have hz0 : W0.heap.size = w.heap.size + 1 := by rw [hW0]; simp
  have hL0 : Below w.heap.size w W0 := hW0 ▸ HAl.out _
  have hx0 : Blk W0 w.heap.size 39 #[.slice A L c] := hW0 ▸ HBx.out
  have h1 : Below W0.heap.size W0 w1 := hW0 ▸ H1.out
  clear hW0 H1 HBx hB1
  obtain ⟨h0, e0⟩ : ∃ h0, h0 = w.heap.size := ⟨_, rfl⟩
  rw [← e0] at hz0 hL0 hx0 HI1 HI CAw HT ⊢
  have E0 := Lib.hid e0
  clear e0 HAl
  rw [hz0] at h1
  have HP : Hid (∀ W, Below (h0 + 1) W0 W → W.cell? ⟨h0, 0, none⟩ = some (.slice A L c) ∧ Below h0 w W) := fun W hW => ⟨(hx0.below hW (by omega)).cell 0, hL0.trans (hW.mono (by omega))⟩
  have HSz : Hid (∀ W, Below (h0 + 1) W0 W → h0 + 1 ≤ W.heap.size) := fun W hW => by have := hW.size; omega
  have Hb := Lib.hid hb
  have H1 := Lib.hid h1
  clear hx0 hL0 hz0 h1 hb
  have p1 := (HP.out w1 H1.out).1
  cases b with
  | true =>
    go_wp2_with (go_at_call 9; ((with_reducible refine (CAw.out _ (HP.out w1 H1.out).2).mono ?_); rintro e9 w9 ⟨rfl, hB9⟩))
    go_ret
    exact ⟨rfl, by rw [← E0.out]; exact hB9⟩
  | false =>
    have hcnt := Hb.out (by simp)
    have HCnt := Lib.hid (show cntIts its ≤ 400 by omega)
    clear hcnt
    go_wp2_with fail
    (with_reducible refine (CR.out w1 (HI1.out _ (HP.out w1 H1.out).2).1 (HI1.out _ (HP.out w1 H1.out).2).2).mono ?_)
    rintro r w2 ⟨rfl, hB2⟩
    have H2 : Hid (Below (h0 + 1) W0 w2) := H1.out.trans (hB2.mono (HSz.out _ H1.out))
    clear hB2 p1
    have p2 := (HP.out w2 H2.out).1
    obtain ⟨R, hR⟩ : ∃ R, R = rightB its := ⟨_, rfl⟩
    rw [← hR]
    have HR := Lib.hid hR
    clear hR
    cases R with
    | false =>
      go_wp2_with (go_at_call 9; ((with_reducible refine (CAw.out _ (HP.out w2 H2.out).2).mono ?_); rintro e9 w9 ⟨rfl, hB9⟩))
      go_ret
      exact ⟨rfl, by rw [← E0.out]; exact hB9⟩
    | true =>
      have hlaw := whole_law its HCnt.out HR.out.symm
      have hsz := sizeP_is its (by have := HCnt.out; omega)
      have HLaw := Lib.hid hlaw
      have hn1 : (nIts its : Int) ≤ 4000 := hlaw.1
      have hn2 : ((min 61 (depIts its) : Nat) : Int) ≤ 60 := by have := hlaw.2.1; omega
      rw [hsz] at CS
      simp only at CS
      clear hlaw hsz
      generalize (nIts its : Int) = n at *
      generalize ((min 61 (depIts its) : Nat) : Int) = d at *
      go_wp2_with fail
      (with_reducible refine (CS.out w2 (HI1.out _ (HP.out w2 H2.out).2).1).mono ?_)
      rintro r w3 ⟨rfl, hB3⟩
      have H3 : Hid (Below (h0 + 1) W0 w3) := H2.out.trans (hB3.mono (HSz.out _ H2.out))
      clear hB3 p2
      have p3 := (HP.out w3 H3.out).1
      go_wp2_with fail
      go_loopw [29] (fun x wr => ∃ i : Nat, x = .int .i64 i ∧ i ≤ L ∧ Below (h0 + 1) W0 wr) (fun x _ => L - (intOf x).toNat)
      case atStart => exact ⟨0, rfl, by omega, H3.out⟩
      case round =>
        obtain ⟨i, rfl, hi, hBr⟩ := hrel
        have HBr := Lib.hid hBr
        clear p3
        by_cases hlt : i < L
        · have hlt' : i < its.length := by have := HLn.out; omega
          obtain ⟨hIr, hTr⟩ := HI1.out _ (HP.out wr hBr).2
          obtain ⟨b, o, rfl, hbB, hx⟩ := hIr.at_ i hlt'
          rw [Nat.zero_add] at hx
          have HX := Lib.hid hx
          have HIt := Lib.hid (HLaw.out.2.2.1 its[i] (List.getElem_mem hlt'))
          clear hx hBr hIr hTr
          generalize its[i] = x at *
          obtain ⟨hok, A1, k1, A2, k2, A3, k3, hcl, hnm, hex, hbd⟩ := HX.out
          obtain ⟨q0, q1, q2, q3, q4, q5, q6⟩ := hcl
          have Hok := Lib.hid hok
          have Hnm := Lib.hid hnm
          have Hex := Lib.hid hex
          have Hbd := Lib.hid hbd
          clear hok hnm hex hbd
          have hitL := HIt.out
          simp only [itL, Bool.and_eq_true] at hitL
          have HI3 := Lib.hid hitL
          clear hitL
          have hzr := wr.heap.size
          have bX := Blk.new wr 35 #[.int .u8 x.k, .string x.name, .slice A1 x.params.length k1, .slice A2 x.exprs.length k2, .bool x.hasBody, .slice A3 x.body.length k3, .int .i64 x.line]
          have HU : Hid (Below wr.heap.size wr (wr.alloc (.cells #[.int .u8 x.k, .string x.name, .slice A1 x.params.length k1, .slice A2 x.exprs.length k2, .bool x.hasBody, .slice A3 x.body.length k3, .int .i64 x.line] 35))) := (Below.refl _ _).alloc (Nat.le_refl _) _
          have hzU : Hid (wr.heap.size + 1 = (wr.alloc (.cells #[.int .u8 x.k, .string x.name, .slice A1 x.params.length k1, .slice A2 x.exprs.length k2, .bool x.hasBody, .slice A3 x.body.length k3, .int .i64 x.line] 35)).heap.size) := by simp [Hid]
          go_wp2_with fail
          generalize hWx : wr.alloc _ = Wx at bX HU hzU ⊢
          clear hWx
          have hBU : Below (h0 + 1) W0 Wx := HBr.out.trans (HU.out.mono (HSz.out _ HBr.out))
          have HBU := Lib.hid hBU
          have BX : Hid (∀ w5, Below Wx.heap.size Wx w5 → w5.cell? ⟨wr.heap.size, 0, none⟩ = some (.int .u8 x.k) ∧ w5.cell? ⟨wr.heap.size, 1, none⟩ = some (.string x.name) ∧ w5.cell? ⟨wr.heap.size, 2, none⟩ = some (.slice A1 x.params.length k1) ∧ w5.cell? ⟨wr.heap.size, 3, none⟩ = some (.slice A2 x.exprs.length k2) ∧ w5.cell? ⟨wr.heap.size, 4, none⟩ = some (.bool x.hasBody) ∧ w5.cell? ⟨wr.heap.size, 5, none⟩ = some (.slice A3 x.body.length k3) ∧ w5.cell? ⟨wr.heap.size, 6, none⟩ = some (.int .i64 x.line)) := fun w5 h5 => by
            have b5 := bX.below h5 (by have := hzU.out; omega)
            exact ⟨b5.cell 0, b5.cell 1, b5.cell 2, b5.cell 3, b5.cell 4, b5.cell 5, b5.cell 6⟩
          have HTr : Hid (∀ w5, Below wr.heap.size wr w5 → NamesIn w5 w5.heap.size A1 0 x.params ∧ ExsIn w5 w5.heap.size A2 0 x.exprs ∧ StsIn w5 w5.heap.size A3 0 x.body ∧ Tab w5.heap.size w5) := fun w5 h5 =>
            ⟨(Hnm.out.below h5).keep (fun _ _ _ => rfl) h5.size, (Hex.out.below h5).more h5.size, (Hbd.out.below h5).more h5.size, (HI1.out _ (HP.out _ (HBr.out.trans (h5.mono (HSz.out _ HBr.out)))).2).2⟩
          clear bX q0 q1 q2 q3 q4 q5 q6 hBU hzr
          have C1 := Lib.hid (lawExprs_any _ x.exprs (Nat.lt_succ_self _) HI3.out.1.1 A2 k2 Wx Hok.out.2.2.2.2.2.1 (HTr.out _ HU.out).2.1 (HTr.out _ HU.out).2.2.2)
          (with_reducible refine C1.out.mono ?_)
          rintro r w5 ⟨rfl, hB5⟩
          have H5 := Lib.hid hB5
          obtain ⟨-, -, -, -, -, p5, -⟩ := BX.out w5 hB5
          have L5 : Hid (Below wr.heap.size wr w5) := HU.out.trans (hB5.mono (by have := hzU.out; omega))
          clear hB5
          have C2 := Lib.hid (lawWithin_any _ x.body (Nat.lt_succ_self _) HI3.out.1.2 A3 k3 w5 Hok.out.2.2.2.2.2.2 (HTr.out _ L5.out).2.2.1 (HTr.out _ L5.out).2.2.2)
          go_wp2_with fail
          (with_reducible refine C2.out.mono ?_)
          rintro r w6 ⟨rfl, hB6⟩
          have H6 : Hid (Below Wx.heap.size Wx w6) := H5.out.trans (hB6.mono H5.out.size)
          have L6 : Hid (Below wr.heap.size wr w6) := HU.out.trans (H6.out.mono (by have := hzU.out; omega))
          clear hB6 p5
          obtain ⟨p0, p1, p2, p3, p4, p5, p6⟩ := BX.out w6 H6.out
          have hone := oneItem (x := x) (W := w6.alloc (.cells #[.int .u8 x.k, .string x.name, .slice A1 x.params.length k1, .slice A2 x.exprs.length k2, .bool x.hasBody, .slice A3 x.body.length k3, .int .i64 x.line] 35)) Hok.out (Blk.new _ _ _)
            (HTr.out _ (L6.out.alloc L6.out.size _)).1 (HTr.out _ (L6.out.alloc L6.out.size _)).2.1 (HTr.out _ (L6.out.alloc L6.out.size _)).2.2.1
          have C3 := Lib.hid (Right_any (some ⟨w6.heap.size, 0, none⟩) 1 [x] _ hone (by simp) (HTr.out _ (L6.out.alloc L6.out.size _)).2.2.2)
          rw [HI3.out.2, show [x].length = 1 from rfl] at C3
          clear hone
          have L7 : Hid (∀ ob w8, Below (w6.alloc ob).heap.size (w6.alloc ob) w8 → Below wr.heap.size wr w8) := fun ob w8 h8 => (L6.out.alloc L6.out.size ob).trans (h8.mono (by have := L6.out.size; simp; omega))
          go_wp2_with fail
          (with_reducible refine C3.out.mono ?_)
          rintro r w8 ⟨rfl, hB8⟩
          have L8 := Lib.hid (L7.out _ _ hB8)
          clear hB8 p0 p1 p2 p3 p4 p5 p6
          go_wp2_with fail
          go_roundw
          case rel => exact ⟨i + 1, by go_num, by omega, HBr.out.trans (L8.out.mono (HSz.out _ HBr.out))⟩
          case measure => simp [intOf]; omega
        · have hie : i = L := by omega
          subst hie
          have p4 := (HP.out wr hBr).1
          by_cases hi0 : i = 0
          · subst hi0
            go_wp2_with (go_at_call 9; ((with_reducible refine (CAw.out _ (HP.out wr HBr.out).2).mono ?_); rintro e9 w9 ⟨rfl, hB9⟩))
            go_ret
            exact ⟨rfl, by rw [← E0.out]; exact hB9⟩
          · have hi1 : (1 : Int) ≤ (i : Int) := by omega
            have hi2 : (i : Int) - 1 ≤ (c : Int) := by omega
            obtain ⟨hIr, hTr⟩ := HI1.out _ (HP.out wr hBr).2
            have hlen : (its.take (i - 1)).length = i - 1 := by rw [List.length_take, ← HLn.out]; omega
            have C3 := Right_any A c (its.take (i - 1)) wr (hIr.take (i - 1)) (by rw [hlen]; omega) hTr
            rw [hlen, HLaw.out.2.2.2 (i - 1)] at C3
            have HC3 := Lib.hid C3
            clear C3 hIr hTr hlen hBr
            go_wp2_with fail
            (with_reducible refine HC3.out.mono ?_)
            rintro r w8 ⟨rfl, hB8⟩
            have L8 : Hid (Below (h0 + 1) W0 w8) := HBr.out.trans (hB8.mono (HSz.out _ HBr.out))
            clear hB8
            go_wp2_with (go_at_call 9; ((with_reducible refine (CAw.out _ (HP.out w8 L8.out).2).mono ?_); rintro e9 w9 ⟨rfl, hB9⟩))
            go_ret
            exact ⟨rfl, by rw [← E0.out]; exact hB9⟩
end Go.Proofs.YtdmiakfgemeelaaDoor
