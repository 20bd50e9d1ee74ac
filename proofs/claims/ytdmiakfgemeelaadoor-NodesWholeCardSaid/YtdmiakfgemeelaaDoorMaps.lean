/- Maps with integer keys that the call itself makes: an insert of a new key, a lookup with ok. No program is in sight. -/
import Derived.Test.YtdmiakfgemeelaaDoorMem
import Derived.MapKept
namespace Go.Proofs.YtdmiakfgemeelaaDoor
set_option linter.unusedSimpArgs false
set_option linter.unusedVariables false
open Go.RowKit

section
variable {P : Program} {w : World}
theorem run_insert_new {t K E : TypeId} {kk : IntKind} {b : Nat} {es : Array MapEntry} {c : Nat} (n : Int) (v : Value) (hu : P.underlying t = some (.map K E)) (hK : P.underlying K = some (.int kk))
    (hw : w.heap[b]? = some (.map es c)) (hnew : Instr.findNow (.int kk) (.int kk n) es.toList 0 = some none) :
    (Instr.mapUpdate t (.map (some b)) (.int kk n) v).run P w = .ok () { w with heap := w.heap.setIfInBounds b (.map (es.push { key := .int kk n, val := v, born := c }) (c + 1)) } := by
  simp [Instr.mapUpdate, run_underlying hu, MapKept.run_getObj_map hw, MapKept.run_checkKey hK (show MapKept.IsKey (.int kk) (.int kk n) by simp [MapKept.IsKey]), MapKept.run_findKey hK hnew, MapKept.run_setObj_map _ hw, Result.andThen]
theorem run_lookup_ok {t K E : TypeId} {kk : IntKind} {b : Nat} {es : Array MapEntry} {c : Nat} (n : Int) (z : Value) (r : Option (Nat × Value)) (hu : P.underlying t = some (.map K E)) (hK : P.underlying K = some (.int kk))
    (hz : (zeroValue E).run P w = .ok z w) (hw : w.heap[b]? = some (.map es c)) (hr : Instr.findNow (.int kk) (.int kk n) es.toList 0 = some r) :
    (Instr.lookup t (.map (some b)) (.int kk n) true).run P w = .ok (.tuple #[(r.map (·.2)).getD z, .bool r.isSome]) w := by
  cases r with
  | none => simp [Instr.lookup, run_underlying hu, MapKept.run_getObj_map hw, MapKept.run_checkKey hK (show MapKept.IsKey (.int kk) (.int kk n) by simp [MapKept.IsKey]), MapKept.run_findKey hK hr, Result.andThen, hz]
  | some x => simp [Instr.lookup, run_underlying hu, MapKept.run_getObj_map hw, MapKept.run_checkKey hK (show MapKept.IsKey (.int kk) (.int kk n) by simp [MapKept.IsKey]), MapKept.run_findKey hK hr, Result.andThen]

theorem wpList_insert {ops : Array Oper} {rest : List Oper} {o : Oper} {a : Act} {Q : Exit → Act → World → Prop} (hg : o.guard = none) (t : TypeId) (m k x : Operand) (ho : o.op = .insert t m k x) (hd : o.dst = none)
    (b : Nat) (es : Array MapEntry) (c : Nat) (hm : a.eval m = .map (some b)) (hw : w.heap[b]? = some (.map es c)) (K E : TypeId) (kk : IntKind) (hu : P.underlying t = some (.map K E)) (hK : P.underlying K = some (.int kk))
    (n : Int) (v : Value) (hk : a.eval k = .int kk n) (hx : a.eval x = v) (hnew : Instr.findNow (.int kk) (.int kk n) es.toList 0 = some none) (B : Nat) (hB : B ≤ b)
    (h : ∀ w', w'.heap[b]? = some (.map (es.push { key := .int kk n, val := v, born := c }) (c + 1)) → Below B w w' → wpList P ops Q rest a w') : wpList P ops Q (o :: rest) a w := by
  refine wpList_plain hg fun _ hK' => ?_
  unfold Oper.wp execOp
  simp only [ho, hm, hk, hx, Sem.run_bind, run_insert_new n v hu hK hw hnew, Result.andThen_ok, Sem.run_pure]
  have hp : a.put o.dst undef = a := by rw [hd]; rfl
  simp only [Oper.upon, hp]
  have hlt : b < w.heap.size := (Array.getElem?_eq_some_iff.1 hw).1
  exact hK' _ _ (h _ (by simp [hlt]) ⟨rfl, rfl, rfl, by simp, fun i hi => by simp; rw [Array.getElem?_setIfInBounds_ne]; omega⟩)
theorem wpList_makeMap {ops : Array Oper} {rest : List Oper} {o : Oper} {a : Act} {Q : Exit → Act → World → Prop} (hg : o.guard = none) (t : TypeId) (ho : o.op = .makeMap t none) (d : Option Tmp) (hd : o.dst = d)
    (h : wpList P ops Q rest (a.put d (.map (some w.heap.size))) (w.alloc (.map #[] 0))) : wpList P ops Q (o :: rest) a w := by
  refine wpList_plain hg fun _ hK' => ?_
  unfold Oper.wp execOp
  simp only [ho, Option.map_none, Sem.run_bind, run_makeMap, Result.andThen_ok, Sem.run_pure]
  subst hd
  exact hK' _ _ h
end
end Go.Proofs.YtdmiakfgemeelaaDoor
