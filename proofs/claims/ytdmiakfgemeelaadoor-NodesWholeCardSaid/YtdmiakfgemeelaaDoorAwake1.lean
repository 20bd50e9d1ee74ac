/- The law's small functions: winnowerkit.Pick, awake's closure. -/
import Derived.Test.YtdmiakfgemeelaaDoorPlainB
namespace Go.Proofs.YtdmiakfgemeelaaDoor
set_option linter.unusedSimpArgs false
set_option linter.unusedVariables false
open Go.RowKit

def stV (A1 : Option Addr) (c1 : Nat) (A2 : Option Addr) (c2 : Nat) (A3 : Option Addr) (c3 : Nat) (e : St) : Value :=
  .agg #[.int .u8 e.k, .string e.s, .int .i64 e.n, .slice A1 e.exprs.length c1, .slice A2 e.body.length c2, .slice A3 e.els.length c3, .int .i64 e.line]
def ruleOf (e : St) : It := ⟨1, ⟨#[]⟩, [], [], false, [e], 0⟩

theorem results_row {P : Program} {fn : Func} {p : Tmp} {ty : TypeId} (h : fn.results = #[.cell p ty]) (tmps : Array Value) (w : World) (g : Nat) (t : TypeId) (cs : Array Value) (d : TypeDesc)
    (hp : tmps.getD p undef = .pointer (some ⟨g, 0, none⟩)) (hg : Blk w g t cs)
    (hu : P.underlying ty = some d) (hd : (match d with | .struct _ | .array _ _ => true | _ => false) = true) (hi : (P.info? ty).map (·.size) = some cs.size) :
    (results fn tmps).run P w = .ok (.agg cs) w := by
  have hp' : tmps[p]?.getD undef = .pointer (some ⟨g, 0, none⟩) := by simpa using hp
  simp [results, h, hp', asAddr, run_loadVar_row w g t ty cs (0, 0) d hg hu hd hi]
theorem blk4 (w : World) (t0 t1 t2 t3 : TypeId) (c0 c1 c2 c3 : Array Value) :
    ∀ W, W = (((w.alloc (.cells c0 t0)).alloc (.cells c1 t1)).alloc (.cells c2 t2)).alloc (.cells c3 t3) →
      Blk W w.heap.size t0 c0 ∧ Blk W (w.heap.size + 1) t1 c1 ∧ Blk W (w.heap.size + 1 + 1) t2 c2 ∧ Blk W (w.heap.size + 1 + 1 + 1) t3 c3 ∧ Below w.heap.size w W ∧ W.heap.size = w.heap.size + 1 + 1 + 1 + 1 := by
  rintro W rfl
  refine ⟨(((Blk.new w t0 c0).alloc _).alloc _).alloc _, ?_, ?_, ?_, ?_, by simp⟩
  · have := (((Blk.new (w.alloc (.cells c0 t0)) t1 c1).alloc (.cells c2 t2)).alloc (.cells c3 t3))
    simpa using this
  · have := ((Blk.new ((w.alloc (.cells c0 t0)).alloc (.cells c1 t1)) t2 c2).alloc (.cells c3 t3))
    simpa using this
  · have := (Blk.new (((w.alloc (.cells c0 t0)).alloc (.cells c1 t1)).alloc (.cells c2 t2)) t3 c3)
    simpa using this
  · repeat' first | exact Below.refl _ _ | refine Below.alloc ?_ (by simp <;> omega) _

set_option maxRecDepth 100000 in
theorem rule_any (A1 : Option Addr) (c1 : Nat) (A2 : Option Addr) (c2 : Nat) (A3 : Option Addr) (c3 : Nat) (e : St) (w : World) (ho : stOk e.k e.s e.n e.exprs.length e.body.length e.els.length)
    (h1 : ExsIn w w.heap.size A1 0 e.exprs) (h2 : StsIn w w.heap.size A2 0 e.body) (h3 : StsIn w w.heap.size A3 0 e.els) :
    Calls Tryd.prog 23 #[stV A1 c1 A2 c2 A3 c3 e] w fun r w' => ∃ g, r = .returned (.agg #[.slice (some ⟨g, 0, none⟩) 1 1]) ∧ ItsIn w' w'.heap.size (some ⟨g, 0, none⟩) 0 [ruleOf e] ∧ Below w.heap.size w w' := by
  have H1 := Lib.hid h1
  have H2 := Lib.hid h2
  have H3 := Lib.hid h3
  have HO := Lib.hid ho
  clear h1 h2 h3 ho
  unfold stV
  go_enter Tryd.func23, Tryd.ntmps23
  go_wp2_with fail
  generalize hW4 : World.alloc _ _ = W4
  obtain ⟨b0, b1, b2, b3, hB4, hsz⟩ := blk4 w _ _ _ _ _ _ _ _ W4 hW4.symm
  clear hW4
  refine bodyPost_ret (results_row rfl _ _ _ _ _ _ rfl b1 Tryd.underlying39 rfl (by as_aux_lemma => kernel_rfl)) rfl ?_
  refine ⟨_, rfl, ?_, hB4⟩
  have hlen : [e].length = 1 := rfl
  refine ⟨⟨_, 0, rfl, by omega, ?_⟩, trivial⟩
  refine ⟨⟨by show (0 : Int) ≤ 1; omega, by show (1 : Int) ≤ 255; omega, by show (0 : Nat) ≤ _; omega, by show (0 : Nat) ≤ _; omega, (fun s hs => nomatch hs), by show (0 : Nat) ≤ _; omega, by show (1 : Nat) ≤ _; omega⟩, none, 0, none, 0, some ⟨w.heap.size + 1 + 1, 0, none⟩, 1, ⟨b3.cell 0, b3.cell 1, b3.cell 2, b3.cell 3, b3.cell 4, b3.cell 5, b3.cell 6⟩, trivial, by simp only [ruleOf, ExsIn], ?_⟩
  simp only [ruleOf, StsIn]
  refine ⟨⟨_, 0, rfl, by omega, ?_⟩, trivial⟩
  have ho := HO.out
  have q1 := (H1.out.below hB4).more (show w.heap.size ≤ W4.heap.size by omega)
  have q2 := (H2.out.below hB4).more (show w.heap.size ≤ W4.heap.size by omega)
  have q3 := (H3.out.below hB4).more (show w.heap.size ≤ W4.heap.size by omega)
  clear HO H1 H2 H3 b0 b1 b3
  obtain ⟨k, s, n, e1, e2, e3, ln⟩ := e
  simp only [StIn]
  exact ⟨ho, A1, c1, A2, c2, A3, c3, b2.cell 0, b2.cell 1, b2.cell 2, b2.cell 3, b2.cell 4, b2.cell 5, b2.cell 6, q1, q2, q3⟩
end Go.Proofs.YtdmiakfgemeelaaDoor
