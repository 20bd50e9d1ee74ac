/- nodes.Right. -/
import Derived.Test.YtdmiakfgemeelaaDoorRight1
namespace Go.Proofs.YtdmiakfgemeelaaDoor
set_option linter.unusedSimpArgs false
set_option linter.unusedVariables false
open Go.RowKit

def rightIt (st : Bool) (x : It) : Bool := wSs goodR goodS 60 1 (wEs goodR 60 1 (st && itemB x) x.exprs) x.body
def rightB (its : List It) : Bool := if 4000 < (sizeP its).1 ∨ 60 < (sizeP its).2 then false else its.foldl rightIt true

theorem InvG.head {L : List (Nat × Obj)} {g B wb gb ab mb : Nat} {t : TypeId} {cs : Array Value} {fe fs : Value} {most : Int} {st : Bool} {W : World} (h : InvG ((g, .cells cs t) :: L) B wb gb ab mb fe fs most st W) : Blk W g t cs :=
  h.ext (g, .cells cs t) List.mem_cons_self

theorem blkR (w1 w2 : World) (tg tA tB : TypeId) (cg cA cB : Array Value) (ob : Obj) (hm : w2.heap[(w1.alloc (.cells cg tg)).heap.size]? = some ob)
    (hB : Below (w1.alloc (.cells cg tg)).heap.size (w1.alloc (.cells cg tg)) w2) (W : World) (hW : W = (w2.alloc (.cells cA tA)).alloc (.cells cB tB)) :
    Blk W w1.heap.size tg cg ∧ W.heap[w1.heap.size + 1]? = some ob ∧ Blk W w2.heap.size tA cA ∧ Blk W (w2.heap.size + 1) tB cB ∧ Below w1.heap.size w1 W ∧ w1.heap.size + 1 < w2.heap.size := by
  subst hW
  have hz : (w1.alloc (.cells cg tg)).heap.size = w1.heap.size + 1 := by simp
  rw [hz] at hm hB
  have hlt : w1.heap.size + 1 < w2.heap.size := (Array.getElem?_eq_some_iff.1 hm).1
  refine ⟨(((Blk.new w1 tg cg).below hB (by omega)).alloc _).alloc _, ?_, (Blk.new w2 tA cA).alloc _, ?_, ?_, hlt⟩
  · rw [Below.heap_alloc _ _ _ (by simp; omega), Below.heap_alloc _ _ _ (by omega)]
    exact hm
  · have := Blk.new (w2.alloc (.cells cA tA)) tB cB
    rw [show (w2.alloc (.cells cA tA)).heap.size = w2.heap.size + 1 by simp] at this
    exact this
  · exact ((((Below.refl _ _).alloc (Nat.le_refl _) _).trans (hB.mono (by omega))).alloc (by omega) _).alloc (by simp; omega) _

set_option maxRecDepth 100000 in
set_option maxHeartbeats 1000000 in
theorem Right_any (A : Option Addr) (c : Nat) (its : List It) (w : World) (hin : ItsIn w w.heap.size A 0 its) (hl : its.length ≤ 140737488351232) (hT : Tab w.heap.size w) :
    Calls Tryd.prog 7 #[.agg #[.slice A its.length c]] w fun r w' => r = .returned (.bool (rightB its)) ∧ Below w.heap.size w w' := by
  have hmf : ∀ (fn : Fn) (first cap : Array Value) (w : World), (Instr.makeFunc fn first cap).run Tryd.prog w = .ok (.func fn first cap) w := fun _ _ _ _ => rfl
  have HI := Lib.hid hin
  have HT := Lib.hid hT
  have CS := Lib.hid (fun W hW => Size_any A c its W hW hl)
  obtain ⟨v, hv⟩ : ∃ v, v = rightB its := ⟨_, rfl⟩
  rw [← hv]
  have HV := Lib.hid hv
  clear hin hT hv
  obtain ⟨n, d, hnd⟩ : ∃ n d, sizeP its = (n, d) := ⟨_, _, rfl⟩
  rw [hnd] at CS
  have HND := Lib.hid hnd
  clear hnd
  simp only at CS
  by_cases hnd : 4000 < n ∨ 60 < d
  · have hv : v = false := by rw [HV.out, rightB, HND.out]; simp [hnd]
    subst hv
    go_enter Tryd.func7, Tryd.ntmps7
    have hz1 : ∀ o w1, Below (w.alloc o).heap.size (w.alloc o) w1 → Below w.heap.size w w1 := fun o w1 h => ((Below.refl _ _).alloc (Nat.le_refl _) _).trans (h.mono (by simp))
    have HZ1 := Lib.hid hz1
    clear hz1
    go_wp2_with (go_at_call 11; ((with_reducible refine (CS.out _ (HI.out.keep (fun b o h => World.cell?_alloc_lt w _ ⟨b, o, none⟩ h) (by simp))).mono ?_); rintro e1 w1 ⟨rfl, hB1⟩))
    all_goals first
    | (go_ret
       exact ⟨rfl, HZ1.out _ _ hB1⟩)
    | (exfalso; omega)
  · have hn : ¬ 4000 < n := fun h => hnd (.inl h)
    have hd : ¬ 60 < d := fun h => hnd (.inr h)
    go_enter Tryd.func7, Tryd.ntmps7
    go_upto_region 7 with (first
      | (go_at_call 11; ((with_reducible refine (CS.out _ (HI.out.keep (fun b o h => World.cell?_alloc_lt w _ ⟨b, o, none⟩ h) (by simp))).mono ?_); rintro e1 w1 ⟨rfl, hB1⟩))
      | (go_at_call 14; ((with_reducible refine (kinds_any _).mono ?_); rintro e2 w2 ⟨rfl, hm2, hB2⟩)))
    clear hmf
    generalize hW4 : World.alloc _ _ = W4
    obtain ⟨b1, hm, bA, bB, hB4, hz⟩ := blkR w1 w2 _ _ _ _ _ _ _ hm2 hB2 W4 hW4.symm
    have hb0 : Blk w1 w.heap.size 39 #[.slice A its.length c] := (Blk.new w 39 #[.slice A its.length c]).below hB1 (by simp)
    have hw1 : Below w.heap.size w w1 := ((Below.refl _ _).alloc (Nat.le_refl _) _).trans (hB1.mono (by simp))
    have b0 := hb0.below hB4 hb0.lt
    have hlt1 := hb0.lt
    have hB5 : Below w.heap.size w W4 := hw1.trans (hB4.mono (by omega))
    clear hW4 hm2 hB2 hB1 hb0 hw1 hB4
    have hv2 : v = its.foldl rightIt true := by rw [HV.out, rightB, HND.out]; simp [hnd]
    have HV2 := Lib.hid hv2
    clear hv2
    clear HV HND CS hnd hn hd
    generalize e0 : w.heap.size = h0 at *
    generalize e1 : w1.heap.size = h1 at *
    generalize e2 : h1 + 1 = h2 at *
    generalize e3 : w2.heap.size = h3 at *
    generalize e4 : h3 + 1 = h4 at *
    have D : Apart [(h0, .cells #[.slice A its.length c] 39)] h0 h4 h1 h3 h2 := ⟨fun p hp => by simp at hp; subst hp; simp; omega, by omega, by omega, by omega, by omega⟩
    have hI0 : InvG [(h0, .cells #[.slice A its.length c] 39)] h0 h4 h1 h3 h2 (.func (.func 15) #[] #[.pointer (some ⟨h1, 0, none⟩), .pointer (some ⟨h3, 0, none⟩)]) (.func (.func 17) #[] #[.pointer (some ⟨h1, 0, none⟩)]) 60 true W4 :=
      ⟨fun p hp => by simp at hp; subst hp; exact b0, bB, b1, bA, hm, HT.out.on hB5, by have := hB5.size; omega⟩
    have c0 : W4.cell? ⟨h0, 0, none⟩ = some (.slice A its.length c) := b0.cell 0
    clear b0 b1 bA bB hm e1 e3
    go_wp2_with fail
    go_loopw [28] (fun x wr => ∃ i : Nat, x = .int .i64 i ∧ i ≤ its.length ∧ InvG [(h0, .cells #[.slice A its.length c] 39)] h0 h4 h1 h3 h2 (.func (.func 15) #[] #[.pointer (some ⟨h1, 0, none⟩), .pointer (some ⟨h3, 0, none⟩)]) (.func (.func 17) #[] #[.pointer (some ⟨h1, 0, none⟩)]) 60 ((its.take i).foldl rightIt true) wr ∧ Below h0 w wr) (fun x _ => its.length - (intOf x).toNat)
    case atStart => exact ⟨0, rfl, by omega, hI0, hB5⟩
    case round =>
      obtain ⟨i, rfl, hi, hIr, hBr⟩ := hrel
      have HB := Lib.hid hBr
      clear hI0 c0
      by_cases hlt : i < its.length
      · obtain ⟨b, o, rfl, hb, hx⟩ := (HI.out.below hBr).at_ i hlt
        rw [Nat.zero_add] at hx
        obtain ⟨x, hxe⟩ : ∃ x, x = its[i]'hlt := ⟨_, rfl⟩
        rw [← hxe] at hx
        have HXE := Lib.hid hxe
        obtain ⟨s0, hs0⟩ : ∃ s0, s0 = (its.take i).foldl rightIt true := ⟨_, rfl⟩
        rw [← hs0] at hIr
        have HS0 := Lib.hid hs0
        have HX := Lib.hid hx
        have HIr := Lib.hid hIr
        have c0 : wr.cell? ⟨h0, 0, none⟩ = some (.slice (some ⟨b, o, none⟩) its.length c) := hIr.head.cell 0
        have g0 : wr.cell? ⟨h1, 0, none⟩ = some (.bool s0) := hIr.good.cell 0
        have gf : wr.frozen? ⟨h1, 0, none⟩ = false := hIr.good.frozen 0
        have CI := Lib.hid (item_any x h0 b (o + i * 7) wr hb hIr.size hx)
        clear hxe hs0 hx hIr hBr
        have CEX := Lib.hid (fun st W2 A2 c2 q1 q2 q3 => exprs_any (tellsE_right (fs := .func (.func 17) #[] #[.pointer (some ⟨h1, 0, none⟩)]) (S := (· < h0)) (show (60 : Int) ≤ 1000000 by omega) D (fun k hk => .inl hk) (Nat.not_lt.2 (by omega))) (by omega) _ x.exprs (Nat.lt_succ_self _) st W2 A2 c2 1 q1 q2 q3 (by omega) (by omega))
        have CSX := Lib.hid (fun st W2 A2 c2 q1 q2 q3 => stmts_any (tellsE_right (fs := .func (.func 17) #[] #[.pointer (some ⟨h1, 0, none⟩)]) (S := (· < h0)) (show (60 : Int) ≤ 1000000 by omega) D (fun k hk => .inl hk) (Nat.not_lt.2 (by omega))) (tellsS_right D (fun k hk => .inl hk) (Nat.not_lt.2 (by omega))) (by omega) _ x.body (Nat.lt_succ_self _) st W2 A2 c2 1 q1 q2 q3 (by omega) (by omega))
        have hfin : ∀ st wx, InvG [(h0, .cells #[.slice (some ⟨b, o, none⟩) its.length c] 39)] h0 h4 h1 h3 h2 (.func (.func 15) #[] #[.pointer (some ⟨h1, 0, none⟩), .pointer (some ⟨h3, 0, none⟩)]) (.func (.func 17) #[] #[.pointer (some ⟨h1, 0, none⟩)]) 60 st wx → Below h0 wr wx →
            wx.cell? ⟨h0, 0, none⟩ = some (.slice (some ⟨b, o, none⟩) its.length c) ∧ ItIn wx h0 b (o + i * 7) x :=
          fun st wx hI hB => ⟨hI.head.cell 0, HX.out.below hb hB⟩
        have HF := Lib.hid hfin
        clear hfin
        obtain ⟨sx, hsx⟩ : ∃ sx, sx = itemB x := ⟨_, rfl⟩
        rw [← hsx] at CI
        have HSX := Lib.hid hsx
        clear hsx
        cases s0 with
        | false =>
          go_upto_region 11 with (fail)
          have hIx : InvG [(h0, .cells #[.slice (some ⟨b, o, none⟩) its.length c] 39)] h0 h4 h1 h3 h2 (.func (.func 15) #[] #[.pointer (some ⟨h1, 0, none⟩), .pointer (some ⟨h3, 0, none⟩)]) (.func (.func 17) #[] #[.pointer (some ⟨h1, 0, none⟩)]) 60 (false && sx) (wr.setCell ⟨h1, 0, none⟩ (.bool false)) := by rw [Bool.false_and]; exact HIr.out.set D _
          have hBx : Below h0 wr (wr.setCell ⟨h1, 0, none⟩ (.bool false)) := (Below.refl _ _).setCell (Nat.le_of_lt hlt1) _
          have HIx := Lib.hid hIx
          have HBx := Lib.hid hBx
          clear g0 gf c0
          skip
          generalize wr.setCell _ _ = wx at HIx HBx ⊢
          clear hIx hBx
          obtain ⟨q0, qx⟩ := HF.out _ wx HIx.out HBx.out
          obtain ⟨ho, A1, c1, A2, c2, A3, c3, hc, -, he, -⟩ := qx
          have qe := hc.exprs
          have HE := Lib.hid he
          have hle := ho.2.2.2.2.2.1
          have hlb := ho.2.2.2.2.2.2
          clear hc he ho
          go_wp2_with (first
            | (go_at_call 20; ((with_reducible refine (CEX.out _ _ _ _ HIx.out (ExsIn.toS (fun _ h => h) HE.out) hle).mono ?_); rintro e5 w5 ⟨⟨u5, rfl⟩, hI5, hB5⟩; have hB6 := HBx.out.trans (hB5.below (fun b hb => hb)); obtain ⟨r0, rx⟩ := HF.out _ w5 hI5 hB6; obtain ⟨-, A4, c4, A5, c5, A6, c6, hc6, -, -, hs6⟩ := rx; have rb := hc6.body; have HS6 := Lib.hid hs6; have HI5 := Lib.hid hI5; have HB6 := Lib.hid hB6; clear hI5 hB5 hB6 hs6 hc6))
            | (go_at_call 21; ((with_reducible refine (CSX.out _ _ _ _ HI5.out (StsIn.toS (fun _ h => h) HS6.out) hlb).mono ?_); rintro e7 w7 ⟨⟨u7, rfl⟩, hI7, hB7⟩)))
          go_roundw
          case rel =>
            refine ⟨i + 1, by go_num, by omega, ?_, HB.out.trans (HB6.out.trans (hB7.below (fun b hb => hb)))⟩
            rw [foldl_take _ _ _ _ hlt, ← HS0.out, ← HXE.out]
            unfold rightIt
            rw [← HSX.out]
            exact hI7
          case measure => simp [intOf]; omega
        | true =>
          go_upto_region 11 with (go_at_call 19; ((with_reducible refine CI.out.mono ?_); rintro e9 w3 ⟨rfl, hB3⟩; have g1 : w3.frozen? ⟨h1, 0, none⟩ = false := (HIr.out.below hB3).good.frozen 0; have g2 : w3.cell? ⟨h1, 0, none⟩ = some (.bool true) := (HIr.out.below hB3).good.cell 0))
          have hIx : InvG [(h0, .cells #[.slice (some ⟨b, o, none⟩) its.length c] 39)] h0 h4 h1 h3 h2 (.func (.func 15) #[] #[.pointer (some ⟨h1, 0, none⟩), .pointer (some ⟨h3, 0, none⟩)]) (.func (.func 17) #[] #[.pointer (some ⟨h1, 0, none⟩)]) 60 (true && sx) (w3.setCell ⟨h1, 0, none⟩ (.bool sx)) := by rw [Bool.true_and]; exact (HIr.out.below hB3).set D _
          have hBx : Below h0 wr (w3.setCell ⟨h1, 0, none⟩ (.bool sx)) := (hB3.mono HIr.out.size).setCell (Nat.le_of_lt hlt1) _
          have HIx := Lib.hid hIx
          have HBx := Lib.hid hBx
          clear g0 gf c0
          clear g1 g2 hB3
          generalize w3.setCell _ _ = wx at HIx HBx ⊢
          clear hIx hBx
          obtain ⟨q0, qx⟩ := HF.out _ wx HIx.out HBx.out
          obtain ⟨ho, A1, c1, A2, c2, A3, c3, hc, -, he, -⟩ := qx
          have qe := hc.exprs
          have HE := Lib.hid he
          have hle := ho.2.2.2.2.2.1
          have hlb := ho.2.2.2.2.2.2
          clear hc he ho
          go_wp2_with (first
            | (go_at_call 20; ((with_reducible refine (CEX.out _ _ _ _ HIx.out (ExsIn.toS (fun _ h => h) HE.out) hle).mono ?_); rintro e5 w5 ⟨⟨u5, rfl⟩, hI5, hB5⟩; have hB6 := HBx.out.trans (hB5.below (fun b hb => hb)); obtain ⟨r0, rx⟩ := HF.out _ w5 hI5 hB6; obtain ⟨-, A4, c4, A5, c5, A6, c6, hc6, -, -, hs6⟩ := rx; have rb := hc6.body; have HS6 := Lib.hid hs6; have HI5 := Lib.hid hI5; have HB6 := Lib.hid hB6; clear hI5 hB5 hB6 hs6 hc6))
            | (go_at_call 21; ((with_reducible refine (CSX.out _ _ _ _ HI5.out (StsIn.toS (fun _ h => h) HS6.out) hlb).mono ?_); rintro e7 w7 ⟨⟨u7, rfl⟩, hI7, hB7⟩)))
          go_roundw
          case rel =>
            refine ⟨i + 1, by go_num, by omega, ?_, HB.out.trans (HB6.out.trans (hB7.below (fun b hb => hb)))⟩
            rw [foldl_take _ _ _ _ hlt, ← HS0.out, ← HXE.out]
            unfold rightIt
            rw [← HSX.out]
            exact hI7
          case measure => simp [intOf]; omega
      · have hie : i = its.length := by omega
        subst hie
        rw [List.take_length] at hIr
        have hg : wr.cell? ⟨h1, 0, none⟩ = some (.bool (its.foldl rightIt true)) := hIr.good.cell 0
        rw [← HV2.out] at hg
        clear hIr
        go_wp2_with fail
        go_ret
        exact ⟨rfl, by rw [e0]; exact HB.out⟩
end Go.Proofs.YtdmiakfgemeelaaDoor
