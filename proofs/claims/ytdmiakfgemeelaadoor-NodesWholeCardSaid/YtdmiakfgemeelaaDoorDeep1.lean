/- The law NodesDeep: Pick, its closure. -/
import Derived.Test.YtdmiakfgemeelaaDoorAwake2
namespace Go.Proofs.YtdmiakfgemeelaaDoor
set_option linter.unusedSimpArgs false
set_option linter.unusedVariables false
open Go.RowKit

theorem pick_any (x : Int) (w : World) (h1 : -9223372036854775808 ≤ x) (h2 : x ≤ 9223372036854775807) :
    Calls Tryd.prog 5 #[.int .i64 x, .int .i64 21] w fun r w' => ∃ n : Nat, n ≤ 20 ∧ r = .returned (.int .i64 n) ∧ w' = w := by
  have t1 : x.tmod 21 < 21 := Int.tmod_lt_of_pos x (by omega)
  have t2 : -21 < x.tmod 21 := Int.lt_tmod_of_pos x (by omega)
  go_enter Tryd.func5, Tryd.ntmps5
  go_wp2
  · go_ret
    exact ⟨(x.tmod 21 + 21).toNat, by omega, ret_int (show x.tmod 21 + 21 = ((x.tmod 21 + 21).toNat : Int) by omega), rfl⟩
  · go_ret
    exact ⟨(x.tmod 21).toNat, by omega, ret_int (show x.tmod 21 = ((x.tmod 21).toNat : Int) by omega), rfl⟩

def itV (A1 : Option Addr) (c1 : Nat) (A2 : Option Addr) (c2 : Nat) (A3 : Option Addr) (c3 : Nat) (x : It) : Value :=
  .agg #[.int .u8 x.k, .string x.name, .slice A1 x.params.length c1, .slice A2 x.exprs.length c2, .bool x.hasBody, .slice A3 x.body.length c3, .int .i64 x.line]

theorem oneItem {A1 : Option Addr} {c1 : Nat} {A2 : Option Addr} {c2 : Nat} {A3 : Option Addr} {c3 : Nat} {x : It} {W : World} {g : Nat} (ho : itOk x)
    (b : Blk W g 35 #[.int .u8 x.k, .string x.name, .slice A1 x.params.length c1, .slice A2 x.exprs.length c2, .bool x.hasBody, .slice A3 x.body.length c3, .int .i64 x.line])
    (h1 : NamesIn W W.heap.size A1 0 x.params) (h2 : ExsIn W W.heap.size A2 0 x.exprs) (h3 : StsIn W W.heap.size A3 0 x.body) : ItsIn W W.heap.size (some ⟨g, 0, none⟩) 0 [x] :=
  ⟨⟨g, 0, rfl, b.lt, ho, A1, c1, A2, c2, A3, c3, ⟨b.cell 0, b.cell 1, b.cell 2, b.cell 3, b.cell 4, b.cell 5, b.cell 6⟩, h1, h2, h3⟩, trivial⟩

set_option maxRecDepth 100000 in
theorem rightItem_any (A1 : Option Addr) (c1 : Nat) (A2 : Option Addr) (c2 : Nat) (A3 : Option Addr) (c3 : Nat) (x : It) (w : World) (ho : itOk x)
    (h1 : NamesIn w w.heap.size A1 0 x.params) (h2 : ExsIn w w.heap.size A2 0 x.exprs) (h3 : StsIn w w.heap.size A3 0 x.body) (hT : Tab w.heap.size w) :
    Calls Tryd.prog 6 #[itV A1 c1 A2 c2 A3 c3 x] w fun r w' => r = .returned (.bool (rightB [x])) ∧ Below w.heap.size w w' := by
  have H1 := Lib.hid h1
  have H2 := Lib.hid h2
  have H3 := Lib.hid h3
  have HO := Lib.hid ho
  have HT := Lib.hid hT
  clear h1 h2 h3 ho hT
  unfold itV
  go_enter Tryd.func6, Tryd.ntmps6
  have CR : Hid (∀ o, Calls Tryd.prog 7 #[.agg #[.slice (some ⟨w.heap.size + 1, 0, none⟩) 1 1]] ((w.alloc o).alloc (.cells #[.int .u8 x.k, .string x.name, .slice A1 x.params.length c1, .slice A2 x.exprs.length c2, .bool x.hasBody, .slice A3 x.body.length c3, .int .i64 x.line] 35))
      fun r w' => r = .returned (.bool (rightB [x])) ∧ Below w.heap.size w w') := fun o => by
    have b := Blk.new (w.alloc o) 35 #[.int .u8 x.k, .string x.name, .slice A1 x.params.length c1, .slice A2 x.exprs.length c2, .bool x.hasBody, .slice A3 x.body.length c3, .int .i64 x.line]
    rw [show (w.alloc o).heap.size = w.heap.size + 1 by simp] at b
    have hB : Below w.heap.size w ((w.alloc o).alloc (.cells #[.int .u8 x.k, .string x.name, .slice A1 x.params.length c1, .slice A2 x.exprs.length c2, .bool x.hasBody, .slice A3 x.body.length c3, .int .i64 x.line] 35)) := ((Below.refl _ _).alloc (Nat.le_refl _) _).alloc (by simp) _
    have hz := hB.size
    refine (Right_any (some ⟨w.heap.size + 1, 0, none⟩) 1 [x] _ (oneItem HO.out b ((H1.out.below hB).keep (fun _ _ _ => rfl) hz) ((H2.out.below hB).more hz) ((H3.out.below hB).more hz)) (by show (1 : Nat) ≤ _; omega) (tab_up HT.out hB hz)).mono ?_
    rintro r w' ⟨rfl, hb⟩
    exact ⟨rfl, hB.trans (hb.mono hz)⟩
  go_wp2_with (go_at_call 7; ((with_reducible refine (CR.out _).mono ?_); rintro e1 w1 ⟨rfl, hB1⟩))
  go_ret
  exact ⟨rfl, hB1⟩
end Go.Proofs.YtdmiakfgemeelaaDoor
