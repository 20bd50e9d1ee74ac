/- The law's awake. -/
import Derived.Test.YtdmiakfgemeelaaDoorAwake1
namespace Go.Proofs.YtdmiakfgemeelaaDoor
set_option linter.unusedSimpArgs false
set_option linter.unusedVariables false
open Go.RowKit

def twoCells : Array Value := #[.int .u8 1, .string ⟨#[]⟩, .int .u64 0, .slice none 0 0, .int .u8 1, .string ⟨#[]⟩, .int .u64 0, .slice none 0 0]
structure Two (h0 : Nat) (w W : World) : Prop where
  blk : Blk W h0 27 twoCells
  low : Below h0 w W
  size : h0 < W.heap.size
theorem Two.step {h0 : Nat} {w W w' : World} (h : Two h0 w W) (hb : Below W.heap.size W w') : Two h0 w w' := ⟨h.blk.below hb h.size, h.low.trans (hb.mono (Nat.le_of_lt h.size)), by have := hb.size; have := h.size; omega⟩
theorem numOk : exOk 1 ⟨#[]⟩ 0 0 := ⟨by omega, by omega, by show (0 : Nat) ≤ _; omega, by omega, by omega, by omega⟩
theorem Two.two {h0 : Nat} {w W : World} (h : Two h0 w W) : ExsIn W W.heap.size (some ⟨h0, 0, none⟩) 0 [numX, numX] := by
  simp only [ExsIn, numX, ExIn]
  exact ⟨⟨h0, 0, rfl, h.size, numOk, none, 0, h.blk.cell 0, h.blk.cell 1, h.blk.cell 2, h.blk.cell 3, trivial⟩, ⟨h0, 0, rfl, h.size, numOk, none, 0, h.blk.cell 4, h.blk.cell 5, h.blk.cell 6, h.blk.cell 7, trivial⟩, trivial⟩
theorem Two.one {h0 : Nat} {w W : World} (h : Two h0 w W) : ExsIn W W.heap.size (some ⟨h0, 0, none⟩) 0 [numX] := by
  simp only [ExsIn, numX, ExIn]
  exact ⟨⟨h0, 0, rfl, h.size, numOk, none, 0, h.blk.cell 0, h.blk.cell 1, h.blk.cell 2, h.blk.cell 3, trivial⟩, trivial⟩
def forS : St := .mk 7 ⟨#[]⟩ 2 [numX] [] [] 0

set_option maxRecDepth 100000 in
set_option maxHeartbeats 2000000 in
theorem awake_any (w : World) (hT : Tab w.heap.size w) :
    Calls Tryd.prog 9 #[] w fun r w' => r = .returned (.bool true) ∧ Below w.heap.size w w' := by
  obtain ⟨h0, e0⟩ : ∃ h0, h0 = w.heap.size := ⟨_, rfl⟩
  have tabs : ∀ W, Two h0 w W → Tab W.heap.size W := fun W h => tab_up (e0 ▸ hT) h.low (Nat.le_of_lt h.size)
  have small : ∀ n : Nat, n ≤ 10 → n ≤ 140737488351232 := fun n h => by omega
  have C1 : Hid (∀ W, Two h0 w W → Calls Tryd.prog 8 #[.agg #[.int .u8 16, .string ⟨#[43]⟩, .int .u64 0, .slice (some ⟨h0, 0, none⟩) 2 2]] W fun r w' => r = .returned (.bool true) ∧ Two h0 w w') := fun W h =>
    (Expr_any (some ⟨h0, 0, none⟩) 2 (binX ⟨#[43]⟩) W ⟨by show (0 : Int) ≤ 16; omega, by show (16 : Int) ≤ 255; omega, by show (1 : Nat) ≤ _; omega, by show (0 : Int) ≤ 0; omega, by show (0 : Int) ≤ _; omega, by show (2 : Nat) ≤ _; omega⟩ h.two (tabs W h)).mono (by rintro r w' ⟨rfl, hb⟩; exact ⟨ret_bool awake1, h.step hb⟩)
  have C2 : Hid (∀ W, Two h0 w W → Calls Tryd.prog 8 #[.agg #[.int .u8 16, .string ⟨#[43, 43]⟩, .int .u64 0, .slice (some ⟨h0, 0, none⟩) 2 2]] W fun r w' => r = .returned (.bool false) ∧ Two h0 w w') := fun W h =>
    (Expr_any (some ⟨h0, 0, none⟩) 2 (binX ⟨#[43, 43]⟩) W ⟨by show (0 : Int) ≤ 16; omega, by show (16 : Int) ≤ 255; omega, by show (2 : Nat) ≤ _; omega, by show (0 : Int) ≤ 0; omega, by show (0 : Int) ≤ _; omega, by show (2 : Nat) ≤ _; omega⟩ h.two (tabs W h)).mono (by rintro r w' ⟨rfl, hb⟩; exact ⟨ret_bool awake2, h.step hb⟩)
  have C3 : Hid (∀ W, Two h0 w W → Calls Tryd.prog 8 #[.agg #[.int .u8 4, .string ⟨#[105, 110]⟩, .int .u64 0, .slice none 0 0]] W fun r w' => r = .returned (.bool false) ∧ Two h0 w w') := fun W h =>
    (Expr_any none 0 (.mk 4 ⟨#[105, 110]⟩ 0 []) W ⟨by show (0 : Int) ≤ 4; omega, by show (4 : Int) ≤ 255; omega, by show (2 : Nat) ≤ _; omega, by show (0 : Int) ≤ 0; omega, by show (0 : Int) ≤ _; omega, by show (0 : Nat) ≤ _; omega⟩ (by simp only [Ex.kids, ExsIn]) (tabs W h)).mono (by rintro r w' ⟨rfl, hb⟩; exact ⟨ret_bool awake3, h.step hb⟩)
  have C4 : Hid (∀ W, Two h0 w W → Calls Tryd.prog 8 #[.agg #[.int .u8 3, .string ⟨#[97, 92]⟩, .int .u64 0, .slice none 0 0]] W fun r w' => r = .returned (.bool false) ∧ Two h0 w w') := fun W h =>
    (Expr_any none 0 (.mk 3 ⟨#[97, 92]⟩ 0 []) W ⟨by show (0 : Int) ≤ 3; omega, by show (3 : Int) ≤ 255; omega, by show (2 : Nat) ≤ _; omega, by show (0 : Int) ≤ 0; omega, by show (0 : Int) ≤ _; omega, by show (0 : Nat) ≤ _; omega⟩ (by simp only [Ex.kids, ExsIn]) (tabs W h)).mono (by rintro r w' ⟨rfl, hb⟩; exact ⟨ret_bool awake4, h.step hb⟩)
  have C5 : Hid (∀ W, Two h0 w W → Calls Tryd.prog 23 #[.agg #[.int .u8 7, .string ⟨#[]⟩, .int .i64 2, .slice (some ⟨h0, 0, none⟩) 1 2, .slice none 0 0, .slice none 0 0, .int .i64 0]] W fun r w' => ∃ g, r = .returned (.agg #[.slice (some ⟨g, 0, none⟩) 1 1]) ∧ ItsIn w' w'.heap.size (some ⟨g, 0, none⟩) 0 [ruleOf forS] ∧ Two h0 w w') := fun W h =>
    (rule_any (some ⟨h0, 0, none⟩) 2 none 0 none 0 forS W ⟨by show (0 : Int) ≤ 7; omega, by show (7 : Int) ≤ 255; omega, by show (0 : Nat) ≤ _; omega, by show (_ : Int) ≤ 2; omega, by show (2 : Int) ≤ _; omega, by show (1 : Nat) ≤ _; omega, by show (0 : Nat) ≤ _; omega, by show (0 : Nat) ≤ _; omega⟩ h.one (by simp only [forS, St.body, StsIn]) (by simp only [forS, St.els, StsIn])).mono (by rintro r w' ⟨g, rfl, hi, hb⟩; exact ⟨g, rfl, hi, h.step hb⟩)
  have C6 : Hid (∀ W g, Two h0 w W → ItsIn W W.heap.size (some ⟨g, 0, none⟩) 0 [ruleOf forS] → Calls Tryd.prog 7 #[.agg #[.slice (some ⟨g, 0, none⟩) 1 1]] W fun r w' => r = .returned (.bool true) ∧ Two h0 w w') := fun W g h hi =>
    (Right_any (some ⟨g, 0, none⟩) 1 [ruleOf forS] W hi (by show (1 : Nat) ≤ _; omega) (tabs W h)).mono (by rintro r w' ⟨rfl, hb⟩; exact ⟨ret_bool awake5, h.step hb⟩)
  have C7 : Hid (∀ W, Two h0 w W → Calls Tryd.prog 7 #[.agg #[.slice (some ⟨W.heap.size, 0, none⟩) 1 1]] (W.alloc (.cells #[.int .u8 3, .string ⟨#[]⟩, .slice none 0 0, .slice none 0 0, .bool false, .slice none 0 0, .int .i64 0] 35)) fun r w' => r = .returned (.bool false) ∧ Two h0 w w') := fun W h => by
    have b := Blk.new W 35 #[.int .u8 3, .string ⟨#[]⟩, .slice none 0 0, .slice none 0 0, .bool false, .slice none 0 0, .int .i64 0]
    have h2 := h.step ((Below.refl _ _).alloc (Nat.le_refl _) (.cells #[.int .u8 3, .string ⟨#[]⟩, .slice none 0 0, .slice none 0 0, .bool false, .slice none 0 0, .int .i64 0] 35))
    refine (Right_any (some ⟨W.heap.size, 0, none⟩) 1 [⟨3, ⟨#[]⟩, [], [], false, [], 0⟩] _ ⟨⟨_, 0, rfl, b.lt, ?_⟩, trivial⟩ (by show (1 : Nat) ≤ _; omega) (tabs _ h2)).mono (by rintro r w' ⟨rfl, hb⟩; exact ⟨ret_bool awake6, h2.step hb⟩)
    exact ⟨⟨by show (0 : Int) ≤ 3; omega, by show (3 : Int) ≤ 255; omega, by show (0 : Nat) ≤ _; omega, by show (0 : Nat) ≤ _; omega, (fun s hs => nomatch hs), by show (0 : Nat) ≤ _; omega, by show (0 : Nat) ≤ _; omega⟩, none, 0, none, 0, none, 0, ⟨b.cell 0, b.cell 1, b.cell 2, b.cell 3, b.cell 4, b.cell 5, b.cell 6⟩, trivial, by simp only [ExsIn], by simp only [StsIn]⟩
  have K0 : Hid (Two h0 w (w.alloc (.cells twoCells 27))) := ⟨by rw [e0]; exact Blk.new _ _ _, by rw [e0]; exact (Below.refl _ _).alloc (Nat.le_refl _) _, by rw [e0]; simp⟩
  unfold twoCells at K0
  clear tabs small hT
  have E0 := Lib.hid e0
  clear e0
  go_enter Tryd.func9, Tryd.ntmps9
  go_upto_region 3 with (fail)
  rw [← E0.out]
  generalize w.alloc _ = W0 at K0 ⊢
  go_wp2_with (first
    | (go_at_call 8; ((with_reducible refine (C1.out _ K0.out).mono ?_); rintro e1 w1 ⟨rfl, k1⟩; have K1 := Lib.hid k1; clear k1))
    | (go_at_call 8; ((with_reducible refine (C2.out _ K1.out).mono ?_); rintro e2 w2 ⟨rfl, k2⟩; have K2 := Lib.hid k2; clear k2))
    | (go_at_call 8; ((with_reducible refine (C3.out _ K2.out).mono ?_); rintro e3 w3 ⟨rfl, k3⟩; have K3 := Lib.hid k3; clear k3))
    | (go_at_call 8; ((with_reducible refine (C4.out _ K3.out).mono ?_); rintro e4 w4 ⟨rfl, k4⟩; have K4 := Lib.hid k4; clear k4))
    | (go_at_call 23; ((with_reducible refine (C5.out _ K4.out).mono ?_); rintro e5 w5 ⟨g, rfl, hi, k5⟩; have K5 := Lib.hid k5; have HI := Lib.hid hi; clear k5 hi))
    | (go_at_call 7; ((with_reducible refine (C6.out _ _ K5.out HI.out).mono ?_); rintro e6 w6 ⟨rfl, k6⟩; have K6 := Lib.hid k6; clear k6))
    | (go_at_call 7; ((with_reducible refine (C7.out _ K6.out).mono ?_); rintro e7 w7 ⟨rfl, k7⟩)))
  go_ret
  exact ⟨rfl, by rw [← E0.out]; exact k7.low⟩
end Go.Proofs.YtdmiakfgemeelaaDoor
