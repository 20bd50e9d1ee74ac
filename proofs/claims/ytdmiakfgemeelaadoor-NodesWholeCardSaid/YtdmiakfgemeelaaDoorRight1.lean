/- The closures of nodes.Right. -/
import Derived.Test.YtdmiakfgemeelaaDoorExpr
import Derived.Test.YtdmiakfgemeelaaDoorNodes9
import Derived.Test.YtdmiakfgemeelaaDoorSize2
namespace Go.Proofs.YtdmiakfgemeelaaDoor
set_option linter.unusedSimpArgs false
set_option linter.unusedVariables false
open Go.RowKit

def goodR (st : Bool) (e : Ex) (_ : Int) : Bool := st && aloneB e
def goodS (st : Bool) (e : St) (_ : Int) : Bool := st && shapeB e

set_option maxRecDepth 100000 in
set_option maxHeartbeats 1000000 in
theorem right2_any {L : List (Nat × Obj)} {S : Nat → Prop} {B wb gb ab mb : Nat} {fe fs : Value} {most : Int} (D : Apart L B wb gb ab mb) (st : Bool) (W : World) (b o : Nat) (e : St) (deep : Int)
    (hI : InvG L B wb gb ab mb fe fs most st W) (hSB : ∀ k, S k → k < W.heap.size) (hSg : ¬ S gb) (hb : S b) (hx : StInS W S b o e) :
    Calls Tryd.prog 17 (#[.pointer (some ⟨b, o, none⟩), .int .i64 deep] ++ #[.pointer (some ⟨gb, 0, none⟩)]) W fun r w' =>
      (∃ v, r = .returned v) ∧ InvG L B wb gb ab mb fe fs most (goodS st e deep) w' ∧ KeptS S W w' := by
  have g0 : W.cell? ⟨gb, 0, none⟩ = some (.bool st) := hI.good.cell 0
  have gf : W.frozen? ⟨gb, 0, none⟩ = false := hI.good.frozen 0
  have C := Lib.hid (shape_any e _ b o W (hSB b hb) (Nat.le_refl _) (hx.toB hSB))
  show Calls _ _ #[.pointer (some ⟨b, o, none⟩), .int .i64 deep, .pointer (some ⟨gb, 0, none⟩)] _ _
  have HI := Lib.hid hI
  clear hI hx
  unfold goodS
  cases st with
  | false =>
    rw [Bool.false_and]
    go_enter Tryd.func17, Tryd.ntmps17
    go_wp2_with fail
    first | go_end0 | (simp only [Exit.inBlock, Exit.then]; refine bodyPost_ret (results_none rfl _ _ _) rfl ?_) | refine bodyPost_ret (results_none rfl _ _ _) rfl ?_
    exact ⟨⟨_, rfl⟩, HI.out.set D _, KeptS.refl.setCell hSg _⟩
  | true =>
    rw [Bool.true_and]
    go_enter Tryd.func17, Tryd.ntmps17
    go_wp2_with (go_at_call 18; ((with_reducible refine C.out.mono ?_); rintro e9 w1 ⟨rfl, hB1⟩; have g1 : w1.frozen? ⟨gb, 0, none⟩ = false := (HI.out.below hB1).good.frozen 0; have g2 : w1.cell? ⟨gb, 0, none⟩ = some (.bool true) := (HI.out.below hB1).good.cell 0))
    first | go_end0 | (simp only [Exit.inBlock, Exit.then]; refine bodyPost_ret (results_none rfl _ _ _) rfl ?_) | refine bodyPost_ret (results_none rfl _ _ _) rfl ?_
    exact ⟨⟨_, rfl⟩, (HI.out.below hB1).set D _, (KeptS.of_below hB1 hSB).setCell hSg _⟩

theorem tellsE_right {L : List (Nat × Obj)} {S : Nat → Prop} {B wb gb ab mb : Nat} {fs : Value} {most : Int} (hm : most ≤ 1000000) (D : Apart L B wb gb ab mb) (hS : ∀ k, S k → k < B ∨ ∃ p ∈ L, p.1 = k) (hSg : ¬ S gb) :
    TellsE S wb (.func (.func 15) #[] #[.pointer (some ⟨gb, 0, none⟩), .pointer (some ⟨ab, 0, none⟩)]) fs most
      (InvG L B wb gb ab mb (.func (.func 15) #[] #[.pointer (some ⟨gb, 0, none⟩), .pointer (some ⟨ab, 0, none⟩)]) fs most) goodR 15 #[.pointer (some ⟨gb, 0, none⟩), .pointer (some ⟨ab, 0, none⟩)] where
  isFn := rfl
  eg := Tryd.call15
  own := fun _ _ h => h.own
  drew := fun _ _ h => h.drew
  call := fun st W b o e deep hI hb hx h1 h2 => right1_any D hm st W b o e deep hI (below_of_ext hS hI) hSg hb hx h1 h2
theorem tellsS_right {L : List (Nat × Obj)} {S : Nat → Prop} {B wb gb ab mb : Nat} {fe : Value} {most : Int} (D : Apart L B wb gb ab mb) (hS : ∀ k, S k → k < B ∨ ∃ p ∈ L, p.1 = k) (hSg : ¬ S gb) :
    TellsS S (.func (.func 17) #[] #[.pointer (some ⟨gb, 0, none⟩)]) most
      (InvG L B wb gb ab mb fe (.func (.func 17) #[] #[.pointer (some ⟨gb, 0, none⟩)]) most) goodS 17 #[.pointer (some ⟨gb, 0, none⟩)] where
  isFn := rfl
  eg := Tryd.call17
  call := fun st W b o e deep hI hb hx h1 h2 => right2_any D st W b o e deep hI (below_of_ext hS hI) hSg hb hx
end Go.Proofs.YtdmiakfgemeelaaDoor
