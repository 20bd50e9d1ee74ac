/- nodes.shape. -/
import Derived.Test.YtdmiakfgemeelaaDoorNodes6
namespace Go.Proofs.YtdmiakfgemeelaaDoor
set_option linter.unusedSimpArgs false
set_option linter.unusedVariables false
open Go.RowKit

def shapeP (k n l1 l2 l3 : Int) (em nm lp v0 : Bool) : Bool :=
  let plain := em && decide (n = 0)
  if k = 1 then plain && decide (l1 = 1) && decide (l2 + l3 = 0)
  else if k = 2 then em && decide (0 ≤ n) && decide (n ≤ 3) && decide ((if 0 < n then 1 else 0) ≤ l1) && decide (l2 + l3 = 0)
  else if k = 3 then em && decide (0 ≤ n) && decide (n ≤ 3) && decide ((if 0 < n then 1 else 0) < l1) && decide (l2 + l3 = 0)
  else if k = 4 then plain && decide (l1 = 1)
  else if k = 5 ∨ k = 6 then plain && decide (l1 = 1) && decide (l3 = 0)
  else if k = 7 then lp
  else if k = 8 then nm && decide (n = 0) && decide (l1 = 1) && v0 && decide (l3 = 0)
  else if k = 9 ∨ k = 10 ∨ k = 11 then plain && decide (l1 + l2 + l3 = 0)
  else if k = 12 ∨ k = 13 then plain && decide (l1 ≤ 1) && decide (l2 + l3 = 0)
  else if k = 14 then nm && decide (n = 0) && decide (l2 + l3 = 0)
  else decide (k = 15) && plain && decide (l1 + l3 = 0)
def firstVar (l : List Ex) : Bool := l.head?.any fun x => x.k == 4
def shapeB (s : St) : Bool := shapeP s.k s.n s.exprs.length s.body.length s.els.length s.s.toList.isEmpty (isName s.s.data.toList) (loopB s) (firstVar s.exprs)
def ShapeOk (e : St) : Prop := ∀ (B b o : Nat) (W : World), b < B → B ≤ W.heap.size → StIn W B b o e →
    Calls Tryd.prog 18 #[.pointer (some ⟨b, o, none⟩)] W fun r w' => r = .returned (.bool (shapeB e)) ∧ Below W.heap.size W w'


set_option maxRecDepth 100000 in
set_option maxHeartbeats 4000000 in
theorem shape_1 (e : St) (hk : e.k = 1) : ShapeOk e := by
  intro B b o W hb hB hx
  obtain ⟨A1, c1, A2, c2, A3, c3, h0, h1, h2, h3, h4, h5, -, hex, -, -, ho⟩ := hx.parts
  obtain ⟨v, hv⟩ : ∃ v, v = shapeB e := ⟨_, rfl⟩
  rw [← hv]
  have CN := Lib.hid (fun W2 => name_any e.s ho.2.2.1 W2)
  have CL := Lib.hid (fun W2 (h : Below W.heap.size W W2) => loop_any e W2 hb (Nat.le_trans hB h.size) (hx.below hb (h.mono hB)))
  have HC : Hid (∀ w1, Below W.heap.size W w1 → w1.cell? ⟨b, o + 2, none⟩ = some (.int .i64 e.n) ∧ w1.cell? ⟨b, o + 3, none⟩ = some (.slice A1 e.exprs.length c1)) :=
    fun w1 h => ⟨by rw [(below_cells h).1 _ _ (by omega)]; exact h2, by rw [(below_cells h).1 _ _ (by omega)]; exact h3⟩
  have HX : Hid (∀ w1, Below W.heap.size W w1 → ExsIn w1 B A1 0 e.exprs) := fun w1 h => hex.below (h.mono hB)
  unfold shapeB at hv
  have ho1 := ho.2.2.2.2.2.1
  have ho2 := ho.2.2.2.2.2.2.1
  have ho3 := ho.2.2.2.2.2.2.2
  generalize loopB e = lp at hv CL
  generalize isName e.s.data.toList = nm at hv CN
  have hk0 := ho.1
  have hk1 := ho.2.1
  clear hx hex ho
  generalize e.k = k at *
  generalize e.n = n at *
  generalize e.s = s at *
  generalize e.exprs = ex at *
  generalize e.body.length = l2 at *
  generalize e.els.length = l3 at *
  subst hk
  have HV := Lib.hid hv
  clear hv CN CL HC HX
  go_enter Tryd.func18, Tryd.ntmps18
  go_wp2_with fail
  go_quiet (fail)
  go_wp2_with fail
  all_goals
    go_ret
    refine ⟨ret_bool ?_, below_drewN (Below.refl _ _) _⟩
    rw [HV.out, Bool.eq_iff_iff]
    simp [shapeP, *] <;> (try intros) <;> (try omega)


set_option maxRecDepth 100000 in
set_option maxHeartbeats 4000000 in
theorem shape_2 (e : St) (hk : e.k = 2) : ShapeOk e := by
  intro B b o W hb hB hx
  obtain ⟨A1, c1, A2, c2, A3, c3, h0, h1, h2, h3, h4, h5, -, hex, -, -, ho⟩ := hx.parts
  obtain ⟨v, hv⟩ : ∃ v, v = shapeB e := ⟨_, rfl⟩
  rw [← hv]
  have CN := Lib.hid (fun W2 => name_any e.s ho.2.2.1 W2)
  have CL := Lib.hid (fun W2 (h : Below W.heap.size W W2) => loop_any e W2 hb (Nat.le_trans hB h.size) (hx.below hb (h.mono hB)))
  have HC : Hid (∀ w1, Below W.heap.size W w1 → w1.cell? ⟨b, o + 2, none⟩ = some (.int .i64 e.n) ∧ w1.cell? ⟨b, o + 3, none⟩ = some (.slice A1 e.exprs.length c1)) :=
    fun w1 h => ⟨by rw [(below_cells h).1 _ _ (by omega)]; exact h2, by rw [(below_cells h).1 _ _ (by omega)]; exact h3⟩
  have HX : Hid (∀ w1, Below W.heap.size W w1 → ExsIn w1 B A1 0 e.exprs) := fun w1 h => hex.below (h.mono hB)
  unfold shapeB at hv
  have ho1 := ho.2.2.2.2.2.1
  have ho2 := ho.2.2.2.2.2.2.1
  have ho3 := ho.2.2.2.2.2.2.2
  generalize loopB e = lp at hv CL
  generalize isName e.s.data.toList = nm at hv CN
  have hk0 := ho.1
  have hk1 := ho.2.1
  clear hx hex ho
  generalize e.k = k at *
  generalize e.n = n at *
  generalize e.s = s at *
  generalize e.exprs = ex at *
  generalize e.body.length = l2 at *
  generalize e.els.length = l3 at *
  subst hk
  have HV := Lib.hid hv
  clear hv CN CL HC HX
  go_enter Tryd.func18, Tryd.ntmps18
  go_wp2_with fail
  go_quiet (fail)
  go_wp2_with fail
  all_goals
    go_ret
    refine ⟨ret_bool ?_, below_drewN (Below.refl _ _) _⟩
    rw [HV.out, Bool.eq_iff_iff]
    simp [shapeP, *] <;> (try intros) <;> (try omega)


set_option maxRecDepth 100000 in
set_option maxHeartbeats 4000000 in
theorem shape_3 (e : St) (hk : e.k = 3) : ShapeOk e := by
  intro B b o W hb hB hx
  obtain ⟨A1, c1, A2, c2, A3, c3, h0, h1, h2, h3, h4, h5, -, hex, -, -, ho⟩ := hx.parts
  obtain ⟨v, hv⟩ : ∃ v, v = shapeB e := ⟨_, rfl⟩
  rw [← hv]
  have CN := Lib.hid (fun W2 => name_any e.s ho.2.2.1 W2)
  have CL := Lib.hid (fun W2 (h : Below W.heap.size W W2) => loop_any e W2 hb (Nat.le_trans hB h.size) (hx.below hb (h.mono hB)))
  have HC : Hid (∀ w1, Below W.heap.size W w1 → w1.cell? ⟨b, o + 2, none⟩ = some (.int .i64 e.n) ∧ w1.cell? ⟨b, o + 3, none⟩ = some (.slice A1 e.exprs.length c1)) :=
    fun w1 h => ⟨by rw [(below_cells h).1 _ _ (by omega)]; exact h2, by rw [(below_cells h).1 _ _ (by omega)]; exact h3⟩
  have HX : Hid (∀ w1, Below W.heap.size W w1 → ExsIn w1 B A1 0 e.exprs) := fun w1 h => hex.below (h.mono hB)
  unfold shapeB at hv
  have ho1 := ho.2.2.2.2.2.1
  have ho2 := ho.2.2.2.2.2.2.1
  have ho3 := ho.2.2.2.2.2.2.2
  generalize loopB e = lp at hv CL
  generalize isName e.s.data.toList = nm at hv CN
  have hk0 := ho.1
  have hk1 := ho.2.1
  clear hx hex ho
  generalize e.k = k at *
  generalize e.n = n at *
  generalize e.s = s at *
  generalize e.exprs = ex at *
  generalize e.body.length = l2 at *
  generalize e.els.length = l3 at *
  subst hk
  have HV := Lib.hid hv
  clear hv CN CL HC HX
  go_enter Tryd.func18, Tryd.ntmps18
  go_wp2_with fail
  go_quiet (fail)
  go_wp2_with fail
  all_goals
    go_ret
    refine ⟨ret_bool ?_, below_drewN (Below.refl _ _) _⟩
    rw [HV.out, Bool.eq_iff_iff]
    simp [shapeP, *] <;> (try intros) <;> (try omega)


set_option maxRecDepth 100000 in
set_option maxHeartbeats 4000000 in
theorem shape_4 (e : St) (hk : e.k = 4) : ShapeOk e := by
  intro B b o W hb hB hx
  obtain ⟨A1, c1, A2, c2, A3, c3, h0, h1, h2, h3, h4, h5, -, hex, -, -, ho⟩ := hx.parts
  obtain ⟨v, hv⟩ : ∃ v, v = shapeB e := ⟨_, rfl⟩
  rw [← hv]
  have CN := Lib.hid (fun W2 => name_any e.s ho.2.2.1 W2)
  have CL := Lib.hid (fun W2 (h : Below W.heap.size W W2) => loop_any e W2 hb (Nat.le_trans hB h.size) (hx.below hb (h.mono hB)))
  have HC : Hid (∀ w1, Below W.heap.size W w1 → w1.cell? ⟨b, o + 2, none⟩ = some (.int .i64 e.n) ∧ w1.cell? ⟨b, o + 3, none⟩ = some (.slice A1 e.exprs.length c1)) :=
    fun w1 h => ⟨by rw [(below_cells h).1 _ _ (by omega)]; exact h2, by rw [(below_cells h).1 _ _ (by omega)]; exact h3⟩
  have HX : Hid (∀ w1, Below W.heap.size W w1 → ExsIn w1 B A1 0 e.exprs) := fun w1 h => hex.below (h.mono hB)
  unfold shapeB at hv
  have ho1 := ho.2.2.2.2.2.1
  have ho2 := ho.2.2.2.2.2.2.1
  have ho3 := ho.2.2.2.2.2.2.2
  generalize loopB e = lp at hv CL
  generalize isName e.s.data.toList = nm at hv CN
  have hk0 := ho.1
  have hk1 := ho.2.1
  clear hx hex ho
  generalize e.k = k at *
  generalize e.n = n at *
  generalize e.s = s at *
  generalize e.exprs = ex at *
  generalize e.body.length = l2 at *
  generalize e.els.length = l3 at *
  subst hk
  have HV := Lib.hid hv
  clear hv CN CL HC HX
  go_enter Tryd.func18, Tryd.ntmps18
  go_wp2_with fail
  go_quiet (fail)
  go_wp2_with fail
  all_goals
    go_ret
    refine ⟨ret_bool ?_, below_drewN (Below.refl _ _) _⟩
    rw [HV.out, Bool.eq_iff_iff]
    simp [shapeP, *] <;> (try intros) <;> (try omega)


set_option maxRecDepth 100000 in
set_option maxHeartbeats 4000000 in
theorem shape_5 (e : St) (hk : e.k = 5) : ShapeOk e := by
  intro B b o W hb hB hx
  obtain ⟨A1, c1, A2, c2, A3, c3, h0, h1, h2, h3, h4, h5, -, hex, -, -, ho⟩ := hx.parts
  obtain ⟨v, hv⟩ : ∃ v, v = shapeB e := ⟨_, rfl⟩
  rw [← hv]
  have CN := Lib.hid (fun W2 => name_any e.s ho.2.2.1 W2)
  have CL := Lib.hid (fun W2 (h : Below W.heap.size W W2) => loop_any e W2 hb (Nat.le_trans hB h.size) (hx.below hb (h.mono hB)))
  have HC : Hid (∀ w1, Below W.heap.size W w1 → w1.cell? ⟨b, o + 2, none⟩ = some (.int .i64 e.n) ∧ w1.cell? ⟨b, o + 3, none⟩ = some (.slice A1 e.exprs.length c1)) :=
    fun w1 h => ⟨by rw [(below_cells h).1 _ _ (by omega)]; exact h2, by rw [(below_cells h).1 _ _ (by omega)]; exact h3⟩
  have HX : Hid (∀ w1, Below W.heap.size W w1 → ExsIn w1 B A1 0 e.exprs) := fun w1 h => hex.below (h.mono hB)
  unfold shapeB at hv
  have ho1 := ho.2.2.2.2.2.1
  have ho2 := ho.2.2.2.2.2.2.1
  have ho3 := ho.2.2.2.2.2.2.2
  generalize loopB e = lp at hv CL
  generalize isName e.s.data.toList = nm at hv CN
  have hk0 := ho.1
  have hk1 := ho.2.1
  clear hx hex ho
  generalize e.k = k at *
  generalize e.n = n at *
  generalize e.s = s at *
  generalize e.exprs = ex at *
  generalize e.body.length = l2 at *
  generalize e.els.length = l3 at *
  subst hk
  have HV := Lib.hid hv
  clear hv CN CL HC HX
  go_enter Tryd.func18, Tryd.ntmps18
  go_wp2_with fail
  go_quiet (fail)
  go_wp2_with fail
  all_goals
    go_ret
    refine ⟨ret_bool ?_, below_drewN (Below.refl _ _) _⟩
    rw [HV.out, Bool.eq_iff_iff]
    simp [shapeP, *] <;> (try intros) <;> (try omega)


set_option maxRecDepth 100000 in
set_option maxHeartbeats 4000000 in
theorem shape_6 (e : St) (hk : e.k = 6) : ShapeOk e := by
  intro B b o W hb hB hx
  obtain ⟨A1, c1, A2, c2, A3, c3, h0, h1, h2, h3, h4, h5, -, hex, -, -, ho⟩ := hx.parts
  obtain ⟨v, hv⟩ : ∃ v, v = shapeB e := ⟨_, rfl⟩
  rw [← hv]
  have CN := Lib.hid (fun W2 => name_any e.s ho.2.2.1 W2)
  have CL := Lib.hid (fun W2 (h : Below W.heap.size W W2) => loop_any e W2 hb (Nat.le_trans hB h.size) (hx.below hb (h.mono hB)))
  have HC : Hid (∀ w1, Below W.heap.size W w1 → w1.cell? ⟨b, o + 2, none⟩ = some (.int .i64 e.n) ∧ w1.cell? ⟨b, o + 3, none⟩ = some (.slice A1 e.exprs.length c1)) :=
    fun w1 h => ⟨by rw [(below_cells h).1 _ _ (by omega)]; exact h2, by rw [(below_cells h).1 _ _ (by omega)]; exact h3⟩
  have HX : Hid (∀ w1, Below W.heap.size W w1 → ExsIn w1 B A1 0 e.exprs) := fun w1 h => hex.below (h.mono hB)
  unfold shapeB at hv
  have ho1 := ho.2.2.2.2.2.1
  have ho2 := ho.2.2.2.2.2.2.1
  have ho3 := ho.2.2.2.2.2.2.2
  generalize loopB e = lp at hv CL
  generalize isName e.s.data.toList = nm at hv CN
  have hk0 := ho.1
  have hk1 := ho.2.1
  clear hx hex ho
  generalize e.k = k at *
  generalize e.n = n at *
  generalize e.s = s at *
  generalize e.exprs = ex at *
  generalize e.body.length = l2 at *
  generalize e.els.length = l3 at *
  subst hk
  have HV := Lib.hid hv
  clear hv CN CL HC HX
  go_enter Tryd.func18, Tryd.ntmps18
  go_wp2_with fail
  go_quiet (fail)
  go_wp2_with fail
  all_goals
    go_ret
    refine ⟨ret_bool ?_, below_drewN (Below.refl _ _) _⟩
    rw [HV.out, Bool.eq_iff_iff]
    simp [shapeP, *] <;> (try intros) <;> (try omega)

end Go.Proofs.YtdmiakfgemeelaaDoor
