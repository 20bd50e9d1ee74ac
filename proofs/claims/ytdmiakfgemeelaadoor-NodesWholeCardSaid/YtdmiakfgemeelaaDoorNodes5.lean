/- The closures of nodes.Expr and nodes.Right that are told each expression. -/
import Derived.Test.YtdmiakfgemeelaaDoorNodes4
import Derived.Test.YtdmiakfgemeelaaDoorWalk
namespace Go.Proofs.YtdmiakfgemeelaaDoor
set_option linter.unusedSimpArgs false
set_option linter.unusedVariables false
open Go.RowKit

theorem ExIn.parts {w : World} {B b o : Nat} : ∀ {e : Ex}, ExIn w B b o e → ∃ A c, w.cell? ⟨b, o, none⟩ = some (.int .u8 e.k) ∧ w.cell? ⟨b, o + 1, none⟩ = some (.string e.s) ∧ w.cell? ⟨b, o + 2, none⟩ = some (.int .u64 e.n) ∧ w.cell? ⟨b, o + 3, none⟩ = some (.slice A e.kids.length c) ∧
    ExsIn w B A 0 e.kids ∧ exOk e.k e.s e.n e.kids.length
  | .mk k s n kids, h => by
    simp only [ExIn] at h
    obtain ⟨h0, A, c, h1, h2, h3, h4, h5⟩ := h
    exact ⟨A, c, h1, h2, h3, h4, h5, h0⟩

theorem tab_up {B B' : Nat} {w w' : World} (h : Tab B w) (hb : Below B w w') (hB : B ≤ B') : Tab B' w' := fun w2 h2 => h w2 (hb.trans (h2.mono hB))

/-- What the two variables, the map and the walker hold. -/
structure InvG (L : List (Nat × Obj)) (B wb gb ab mb : Nat) (fe fs : Value) (most : Int) (st : Bool) (W : World) : Prop where
  ext : ∀ p ∈ L, W.heap[p.1]? = some p.2
  own : Blk W wb 59 #[fe, fs, .int .i64 most]
  good : Blk W gb 4 #[.bool st]
  all : Blk W ab 49 #[.map (some mb)]
  map : W.heap[mb]? = some (.map kindEntries 19)
  tab : Tab B W
  size : B ≤ W.heap.size
structure Apart (L : List (Nat × Obj)) (B wb gb ab mb : Nat) : Prop where
  l : ∀ p ∈ L, p.1 ≠ gb
  low : B ≤ gb
  w : wb ≠ gb
  a : ab ≠ gb
  m : mb ≠ gb

section
variable {L : List (Nat × Obj)} {B wb gb ab mb : Nat} {fe fs : Value} {most : Int} {st : Bool} {W w' : World}
theorem InvG.below (h : InvG L B wb gb ab mb fe fs most st W) (hb : Below W.heap.size W w') : InvG L B wb gb ab mb fe fs most st w' where
  ext := fun p hp => (hb.block p.1 (Array.getElem?_eq_some_iff.1 (h.ext p hp)).1).trans (h.ext p hp)
  own := h.own.below hb h.own.lt
  good := h.good.below hb h.good.lt
  all := h.all.below hb h.all.lt
  map := (hb.block mb (Array.getElem?_eq_some_iff.1 h.map).1).trans h.map
  tab := h.tab.on (hb.mono h.size)
  size := by have := hb.size; have := h.size; omega
theorem InvG.set (h : InvG L B wb gb ab mb fe fs most st W) (D : Apart L B wb gb ab mb) (v : Bool) : InvG L B wb gb ab mb fe fs most v (W.setCell ⟨gb, 0, none⟩ (.bool v)) where
  ext := fun p hp => (Below.heap_setCell W _ _ p.1 (D.l p hp)).trans (h.ext p hp)
  own := h.own.far D.w _
  good := h.good.set_ 0 _
  all := h.all.far D.a _
  map := (Below.heap_setCell W _ _ mb D.m).trans h.map
  tab := h.tab.on ((Below.refl _ _).setCell D.low _)
  size := by have := h.size; simpa using this
theorem InvG.drew (h : InvG L B wb gb ab mb fe fs most st W) : InvG L B wb gb ab mb fe fs most st W.drew := h.below ((Below.refl _ _).drew)
end

set_option maxRecDepth 100000 in
set_option maxHeartbeats 1000000 in
theorem expr1_any {L : List (Nat × Obj)} {S : Nat → Prop} {B wb gb ab mb : Nat} {fe fs : Value} {most : Int} (D : Apart L B wb gb ab mb) (hm : most ≤ 1000000) (st : Bool) (W : World) (b o : Nat) (e : Ex) (deep : Int)
    (hI : InvG L B wb gb ab mb fe fs most st W) (hSB : ∀ k, S k → k < W.heap.size) (hSg : ¬ S gb) (hb : S b) (hx' : ExInS W S b o e) (hd1 : 1 ≤ deep) (hd2 : deep ≤ most) :
    Calls Tryd.prog 22 (#[.pointer (some ⟨b, o, none⟩), .int .i64 deep] ++ #[.pointer (some ⟨gb, 0, none⟩), .pointer (some ⟨ab, 0, none⟩)]) W fun r w' =>
      (∃ v, r = .returned v) ∧ InvG L B wb gb ab mb fe fs most (st && decide (deep ≤ 60) && aloneB e) w' ∧ KeptS S W w' := by
  have hx := hx'.toB hSB
  obtain ⟨A, c, c0, c1, c2, c3, hk, ho⟩ := hx.parts
  clear hx'
  have g0 : W.cell? ⟨gb, 0, none⟩ = some (.bool st) := hI.good.cell 0
  have gf : W.frozen? ⟨gb, 0, none⟩ = false := hI.good.frozen 0
  have a0 : W.cell? ⟨ab, 0, none⟩ = some (.map (some mb)) := hI.all.cell 0
  show Calls _ _ #[.pointer (some ⟨b, o, none⟩), .int .i64 deep, .pointer (some ⟨gb, 0, none⟩), .pointer (some ⟨ab, 0, none⟩)] _ _
  have HI := Lib.hid hI
  cases st with
  | false =>
      rw [Bool.false_and, Bool.false_and]
      clear hI hx hk ho
      go_enter Tryd.func22, Tryd.ntmps22
      go_wp2_with fail
      go_still_tail 12, (by kernel_rfl)
      change wpList _ _ _ _ _ W.drew
      have g1 : W.drew.frozen? ⟨gb, 0, none⟩ = false := gf
      have g2 : W.drew.cell? ⟨gb, 0, none⟩ = some (.bool _) := g0
      generalize hWd : W.drew = Wd at g1 g2 ⊢
      go_wp2_with fail
      subst hWd
      all_goals
        first | go_end0 | (simp only [Exit.inBlock, Exit.then]; refine bodyPost_ret (results_none rfl _ _ _) rfl ?_) | refine bodyPost_ret (results_none rfl _ _ _) rfl ?_
        exact ⟨⟨_, rfl⟩, HI.out.drew.set D _, (KeptS.refl.drew).setCell hSg _⟩
  | true =>
    by_cases h60 : deep ≤ 60
    · rw [decide_eq_true h60, Bool.true_and, Bool.true_and]
      have CA := Lib.hid (fun W2 (hW : Below W.heap.size W W2) => alone_any A c e mb W2 ((hW.block mb (Array.getElem?_eq_some_iff.1 hI.map).1).trans hI.map) ho.2.2.1 ho.2.2.2.1 ho.2.2.2.2.1 ho.2.2.2.2.2
        ((hk.below hW).more hW.size) (tab_up hI.tab (hW.mono hI.size) (by have := hI.size; have := hW.size; omega)))
      unfold exV at CA
      clear hI hx hk ho
      go_enter Tryd.func22, Tryd.ntmps22
      go_wp2_with fail
      go_still_tail 10, (by kernel_rfl)
      change wpList _ _ _ _ _ W.drew
      go_wp2_with (go_at_call 16; ((with_reducible refine (CA.out _ ((Below.refl _ _).drew)).mono ?_); rintro e w1 ⟨rfl, hB1⟩; have g1 : w1.frozen? ⟨gb, 0, none⟩ = false := (HI.out.drew.below hB1).good.frozen 0; have g2 : w1.cell? ⟨gb, 0, none⟩ = some (.bool true) := (HI.out.drew.below hB1).good.cell 0))
      all_goals
        first | go_end0 | (simp only [Exit.inBlock, Exit.then]; refine bodyPost_ret (results_none rfl _ _ _) rfl ?_) | refine bodyPost_ret (results_none rfl _ _ _) rfl ?_
        exact ⟨⟨_, rfl⟩, (HI.out.drew.below hB1).set D _, ((KeptS.refl.drew).trans (KeptS.of_below hB1 hSB)).setCell hSg _⟩
    · rw [decide_eq_false h60, Bool.true_and, Bool.false_and]
      have h60' : decide (deep ≤ 60) = false := decide_eq_false h60
      clear hI hx hk ho
      go_enter Tryd.func22, Tryd.ntmps22
      go_wp2_with fail
      go_still_tail 12, (by kernel_rfl)
      change wpList _ _ _ _ _ W.drew
      have g1 : W.drew.frozen? ⟨gb, 0, none⟩ = false := gf
      have g2 : W.drew.cell? ⟨gb, 0, none⟩ = some (.bool _) := g0
      generalize hWd : W.drew = Wd at g1 g2 ⊢
      go_wp2_with fail
      subst hWd
      all_goals
        first | go_end0 | (simp only [Exit.inBlock, Exit.then]; refine bodyPost_ret (results_none rfl _ _ _) rfl ?_) | refine bodyPost_ret (results_none rfl _ _ _) rfl ?_
        exact ⟨⟨_, rfl⟩, HI.out.drew.set D _, (KeptS.refl.drew).setCell hSg _⟩

set_option maxRecDepth 100000 in
set_option maxHeartbeats 1000000 in
theorem right1_any {L : List (Nat × Obj)} {S : Nat → Prop} {B wb gb ab mb : Nat} {fe fs : Value} {most : Int} (D : Apart L B wb gb ab mb) (hm : most ≤ 1000000) (st : Bool) (W : World) (b o : Nat) (e : Ex) (deep : Int)
    (hI : InvG L B wb gb ab mb fe fs most st W) (hSB : ∀ k, S k → k < W.heap.size) (hSg : ¬ S gb) (hb : S b) (hx' : ExInS W S b o e) (hd1 : 1 ≤ deep) (hd2 : deep ≤ most) :
    Calls Tryd.prog 15 (#[.pointer (some ⟨b, o, none⟩), .int .i64 deep] ++ #[.pointer (some ⟨gb, 0, none⟩), .pointer (some ⟨ab, 0, none⟩)]) W fun r w' =>
      (∃ v, r = .returned v) ∧ InvG L B wb gb ab mb fe fs most (st && aloneB e) w' ∧ KeptS S W w' := by
  have hx := hx'.toB hSB
  obtain ⟨A, c, c0, c1, c2, c3, hk, ho⟩ := hx.parts
  clear hx'
  have g0 : W.cell? ⟨gb, 0, none⟩ = some (.bool st) := hI.good.cell 0
  have gf : W.frozen? ⟨gb, 0, none⟩ = false := hI.good.frozen 0
  have a0 : W.cell? ⟨ab, 0, none⟩ = some (.map (some mb)) := hI.all.cell 0
  show Calls _ _ #[.pointer (some ⟨b, o, none⟩), .int .i64 deep, .pointer (some ⟨gb, 0, none⟩), .pointer (some ⟨ab, 0, none⟩)] _ _
  have HI := Lib.hid hI
  cases st with
  | false =>
      rw [Bool.false_and]
      clear hI hx hk ho
      go_enter Tryd.func15, Tryd.ntmps15
      go_wp2_with fail
      go_still_tail 8, (by kernel_rfl)
      change wpList _ _ _ _ _ W.drew
      have g1 : W.drew.frozen? ⟨gb, 0, none⟩ = false := gf
      have g2 : W.drew.cell? ⟨gb, 0, none⟩ = some (.bool _) := g0
      generalize hWd : W.drew = Wd at g1 g2 ⊢
      go_wp2_with fail
      subst hWd
      all_goals
        first | go_end0 | (simp only [Exit.inBlock, Exit.then]; refine bodyPost_ret (results_none rfl _ _ _) rfl ?_) | refine bodyPost_ret (results_none rfl _ _ _) rfl ?_
        exact ⟨⟨_, rfl⟩, HI.out.drew.set D _, (KeptS.refl.drew).setCell hSg _⟩
  | true =>
      rw [Bool.true_and]
      have CA := Lib.hid (fun W2 (hW : Below W.heap.size W W2) => alone_any A c e mb W2 ((hW.block mb (Array.getElem?_eq_some_iff.1 hI.map).1).trans hI.map) ho.2.2.1 ho.2.2.2.1 ho.2.2.2.2.1 ho.2.2.2.2.2
        ((hk.below hW).more hW.size) (tab_up hI.tab (hW.mono hI.size) (by have := hI.size; have := hW.size; omega)))
      unfold exV at CA
      clear hI hx hk ho
      go_enter Tryd.func15, Tryd.ntmps15
      go_wp2_with fail
      go_still_tail 6, (by kernel_rfl)
      change wpList _ _ _ _ _ W.drew
      go_wp2_with (go_at_call 16; ((with_reducible refine (CA.out _ ((Below.refl _ _).drew)).mono ?_); rintro e w1 ⟨rfl, hB1⟩; have g1 : w1.frozen? ⟨gb, 0, none⟩ = false := (HI.out.drew.below hB1).good.frozen 0; have g2 : w1.cell? ⟨gb, 0, none⟩ = some (.bool true) := (HI.out.drew.below hB1).good.cell 0))
      all_goals
        first | go_end0 | (simp only [Exit.inBlock, Exit.then]; refine bodyPost_ret (results_none rfl _ _ _) rfl ?_) | refine bodyPost_ret (results_none rfl _ _ _) rfl ?_
        exact ⟨⟨_, rfl⟩, (HI.out.drew.below hB1).set D _, ((KeptS.refl.drew).trans (KeptS.of_below hB1 hSB)).setCell hSg _⟩
end Go.Proofs.YtdmiakfgemeelaaDoor
