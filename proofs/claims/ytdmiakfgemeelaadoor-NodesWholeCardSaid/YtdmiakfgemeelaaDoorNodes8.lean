/- nodes.shape, more kinds. -/
import Derived.Test.YtdmiakfgemeelaaDoorNodes7
namespace Go.Proofs.YtdmiakfgemeelaaDoor
set_option linter.unusedSimpArgs false
set_option linter.unusedVariables false
open Go.RowKit


set_option maxRecDepth 100000 in
set_option maxHeartbeats 4000000 in
theorem shape_9 (e : St) (hk : e.k = 9) : ShapeOk e := by
  intro B b o W hb hB hx
  obtain ⟨A1, c1, A2, c2, A3, c3, h0, h1, h2, h3, h4, h5, -, hex, -, -, ho⟩ := hx.parts
  obtain ⟨v, hv⟩ : ∃ v, v = shapeB e := ⟨_, rfl⟩
  rw [← hv]
  have CN := Lib.hid (fun W2 => name_any e.s ho.2.2.1 W2)
  have CL := Lib.hid (fun W2 (h : Below W.heap.size W W2) => loop_any e W2 hb (Nat.le_trans hB h.size) (hx.below hb (h.mono hB)))
  have HC : Hid (∀ w1, Below W.heap.size W w1 → w1.cell? ⟨b, o + 2, none⟩ = some (.int .i64 e.n) ∧ w1.cell? ⟨b, o + 3, none⟩ = some (.slice A1 e.exprs.length c1)) :=
    fun w1 h => ⟨by rw [(below_cells h).1 _ _ (by omega)]; exact h2, by rw [(below_cells h).1 _ _ (by omega)]; exact h3⟩
  have HX : Hid (∀ w1, Below W.heap.size W w1 → ExsIn w1 B A1 0 e.exprs) := fun w1 h => hex.below (h.mono hB)
  unfold shapeB at hv
  have ho1 := ho.2.2.2.2.2.1
  have ho2 := ho.2.2.2.2.2.2.1
  have ho3 := ho.2.2.2.2.2.2.2
  generalize loopB e = lp at hv CL
  generalize isName e.s.data.toList = nm at hv CN
  have hk0 := ho.1
  have hk1 := ho.2.1
  clear hx hex ho
  generalize e.k = k at *
  generalize e.n = n at *
  generalize e.s = s at *
  generalize e.exprs = ex at *
  generalize e.body.length = l2 at *
  generalize e.els.length = l3 at *
  subst hk
  have HV := Lib.hid hv
  clear hv CN CL HC HX
  go_enter Tryd.func18, Tryd.ntmps18
  go_wp2_with fail
  go_quiet (fail)
  go_wp2_with fail
  all_goals
    go_ret
    refine ⟨ret_bool ?_, below_drewN (Below.refl _ _) _⟩
    rw [HV.out, Bool.eq_iff_iff]
    simp [shapeP, *] <;> (try intros) <;> (try omega)


set_option maxRecDepth 100000 in
set_option maxHeartbeats 4000000 in
theorem shape_10 (e : St) (hk : e.k = 10) : ShapeOk e := by
  intro B b o W hb hB hx
  obtain ⟨A1, c1, A2, c2, A3, c3, h0, h1, h2, h3, h4, h5, -, hex, -, -, ho⟩ := hx.parts
  obtain ⟨v, hv⟩ : ∃ v, v = shapeB e := ⟨_, rfl⟩
  rw [← hv]
  have CN := Lib.hid (fun W2 => name_any e.s ho.2.2.1 W2)
  have CL := Lib.hid (fun W2 (h : Below W.heap.size W W2) => loop_any e W2 hb (Nat.le_trans hB h.size) (hx.below hb (h.mono hB)))
  have HC : Hid (∀ w1, Below W.heap.size W w1 → w1.cell? ⟨b, o + 2, none⟩ = some (.int .i64 e.n) ∧ w1.cell? ⟨b, o + 3, none⟩ = some (.slice A1 e.exprs.length c1)) :=
    fun w1 h => ⟨by rw [(below_cells h).1 _ _ (by omega)]; exact h2, by rw [(below_cells h).1 _ _ (by omega)]; exact h3⟩
  have HX : Hid (∀ w1, Below W.heap.size W w1 → ExsIn w1 B A1 0 e.exprs) := fun w1 h => hex.below (h.mono hB)
  unfold shapeB at hv
  have ho1 := ho.2.2.2.2.2.1
  have ho2 := ho.2.2.2.2.2.2.1
  have ho3 := ho.2.2.2.2.2.2.2
  generalize loopB e = lp at hv CL
  generalize isName e.s.data.toList = nm at hv CN
  have hk0 := ho.1
  have hk1 := ho.2.1
  clear hx hex ho
  generalize e.k = k at *
  generalize e.n = n at *
  generalize e.s = s at *
  generalize e.exprs = ex at *
  generalize e.body.length = l2 at *
  generalize e.els.length = l3 at *
  subst hk
  have HV := Lib.hid hv
  clear hv CN CL HC HX
  go_enter Tryd.func18, Tryd.ntmps18
  go_wp2_with fail
  go_quiet (fail)
  go_wp2_with fail
  all_goals
    go_ret
    refine ⟨ret_bool ?_, below_drewN (Below.refl _ _) _⟩
    rw [HV.out, Bool.eq_iff_iff]
    simp [shapeP, *] <;> (try intros) <;> (try omega)


set_option maxRecDepth 100000 in
set_option maxHeartbeats 4000000 in
theorem shape_11 (e : St) (hk : e.k = 11) : ShapeOk e := by
  intro B b o W hb hB hx
  obtain ⟨A1, c1, A2, c2, A3, c3, h0, h1, h2, h3, h4, h5, -, hex, -, -, ho⟩ := hx.parts
  obtain ⟨v, hv⟩ : ∃ v, v = shapeB e := ⟨_, rfl⟩
  rw [← hv]
  have CN := Lib.hid (fun W2 => name_any e.s ho.2.2.1 W2)
  have CL := Lib.hid (fun W2 (h : Below W.heap.size W W2) => loop_any e W2 hb (Nat.le_trans hB h.size) (hx.below hb (h.mono hB)))
  have HC : Hid (∀ w1, Below W.heap.size W w1 → w1.cell? ⟨b, o + 2, none⟩ = some (.int .i64 e.n) ∧ w1.cell? ⟨b, o + 3, none⟩ = some (.slice A1 e.exprs.length c1)) :=
    fun w1 h => ⟨by rw [(below_cells h).1 _ _ (by omega)]; exact h2, by rw [(below_cells h).1 _ _ (by omega)]; exact h3⟩
  have HX : Hid (∀ w1, Below W.heap.size W w1 → ExsIn w1 B A1 0 e.exprs) := fun w1 h => hex.below (h.mono hB)
  unfold shapeB at hv
  have ho1 := ho.2.2.2.2.2.1
  have ho2 := ho.2.2.2.2.2.2.1
  have ho3 := ho.2.2.2.2.2.2.2
  generalize loopB e = lp at hv CL
  generalize isName e.s.data.toList = nm at hv CN
  have hk0 := ho.1
  have hk1 := ho.2.1
  clear hx hex ho
  generalize e.k = k at *
  generalize e.n = n at *
  generalize e.s = s at *
  generalize e.exprs = ex at *
  generalize e.body.length = l2 at *
  generalize e.els.length = l3 at *
  subst hk
  have HV := Lib.hid hv
  clear hv CN CL HC HX
  go_enter Tryd.func18, Tryd.ntmps18
  go_wp2_with fail
  go_quiet (fail)
  go_wp2_with fail
  all_goals
    go_ret
    refine ⟨ret_bool ?_, below_drewN (Below.refl _ _) _⟩
    rw [HV.out, Bool.eq_iff_iff]
    simp [shapeP, *] <;> (try intros) <;> (try omega)


set_option maxRecDepth 100000 in
set_option maxHeartbeats 4000000 in
theorem shape_12 (e : St) (hk : e.k = 12) : ShapeOk e := by
  intro B b o W hb hB hx
  obtain ⟨A1, c1, A2, c2, A3, c3, h0, h1, h2, h3, h4, h5, -, hex, -, -, ho⟩ := hx.parts
  obtain ⟨v, hv⟩ : ∃ v, v = shapeB e := ⟨_, rfl⟩
  rw [← hv]
  have CN := Lib.hid (fun W2 => name_any e.s ho.2.2.1 W2)
  have CL := Lib.hid (fun W2 (h : Below W.heap.size W W2) => loop_any e W2 hb (Nat.le_trans hB h.size) (hx.below hb (h.mono hB)))
  have HC : Hid (∀ w1, Below W.heap.size W w1 → w1.cell? ⟨b, o + 2, none⟩ = some (.int .i64 e.n) ∧ w1.cell? ⟨b, o + 3, none⟩ = some (.slice A1 e.exprs.length c1)) :=
    fun w1 h => ⟨by rw [(below_cells h).1 _ _ (by omega)]; exact h2, by rw [(below_cells h).1 _ _ (by omega)]; exact h3⟩
  have HX : Hid (∀ w1, Below W.heap.size W w1 → ExsIn w1 B A1 0 e.exprs) := fun w1 h => hex.below (h.mono hB)
  unfold shapeB at hv
  have ho1 := ho.2.2.2.2.2.1
  have ho2 := ho.2.2.2.2.2.2.1
  have ho3 := ho.2.2.2.2.2.2.2
  generalize loopB e = lp at hv CL
  generalize isName e.s.data.toList = nm at hv CN
  have hk0 := ho.1
  have hk1 := ho.2.1
  clear hx hex ho
  generalize e.k = k at *
  generalize e.n = n at *
  generalize e.s = s at *
  generalize e.exprs = ex at *
  generalize e.body.length = l2 at *
  generalize e.els.length = l3 at *
  subst hk
  have HV := Lib.hid hv
  clear hv CN CL HC HX
  go_enter Tryd.func18, Tryd.ntmps18
  go_wp2_with fail
  go_quiet (fail)
  go_wp2_with fail
  all_goals
    go_ret
    refine ⟨ret_bool ?_, below_drewN (Below.refl _ _) _⟩
    rw [HV.out, Bool.eq_iff_iff]
    simp [shapeP, *] <;> (try intros) <;> (try omega)


set_option maxRecDepth 100000 in
set_option maxHeartbeats 4000000 in
theorem shape_13 (e : St) (hk : e.k = 13) : ShapeOk e := by
  intro B b o W hb hB hx
  obtain ⟨A1, c1, A2, c2, A3, c3, h0, h1, h2, h3, h4, h5, -, hex, -, -, ho⟩ := hx.parts
  obtain ⟨v, hv⟩ : ∃ v, v = shapeB e := ⟨_, rfl⟩
  rw [← hv]
  have CN := Lib.hid (fun W2 => name_any e.s ho.2.2.1 W2)
  have CL := Lib.hid (fun W2 (h : Below W.heap.size W W2) => loop_any e W2 hb (Nat.le_trans hB h.size) (hx.below hb (h.mono hB)))
  have HC : Hid (∀ w1, Below W.heap.size W w1 → w1.cell? ⟨b, o + 2, none⟩ = some (.int .i64 e.n) ∧ w1.cell? ⟨b, o + 3, none⟩ = some (.slice A1 e.exprs.length c1)) :=
    fun w1 h => ⟨by rw [(below_cells h).1 _ _ (by omega)]; exact h2, by rw [(below_cells h).1 _ _ (by omega)]; exact h3⟩
  have HX : Hid (∀ w1, Below W.heap.size W w1 → ExsIn w1 B A1 0 e.exprs) := fun w1 h => hex.below (h.mono hB)
  unfold shapeB at hv
  have ho1 := ho.2.2.2.2.2.1
  have ho2 := ho.2.2.2.2.2.2.1
  have ho3 := ho.2.2.2.2.2.2.2
  generalize loopB e = lp at hv CL
  generalize isName e.s.data.toList = nm at hv CN
  have hk0 := ho.1
  have hk1 := ho.2.1
  clear hx hex ho
  generalize e.k = k at *
  generalize e.n = n at *
  generalize e.s = s at *
  generalize e.exprs = ex at *
  generalize e.body.length = l2 at *
  generalize e.els.length = l3 at *
  subst hk
  have HV := Lib.hid hv
  clear hv CN CL HC HX
  go_enter Tryd.func18, Tryd.ntmps18
  go_wp2_with fail
  go_quiet (fail)
  go_wp2_with fail
  all_goals
    go_ret
    refine ⟨ret_bool ?_, below_drewN (Below.refl _ _) _⟩
    rw [HV.out, Bool.eq_iff_iff]
    simp [shapeP, *] <;> (try intros) <;> (try omega)


set_option maxRecDepth 100000 in
set_option maxHeartbeats 4000000 in
theorem shape_15 (e : St) (hk : e.k = 15) : ShapeOk e := by
  intro B b o W hb hB hx
  obtain ⟨A1, c1, A2, c2, A3, c3, h0, h1, h2, h3, h4, h5, -, hex, -, -, ho⟩ := hx.parts
  obtain ⟨v, hv⟩ : ∃ v, v = shapeB e := ⟨_, rfl⟩
  rw [← hv]
  have CN := Lib.hid (fun W2 => name_any e.s ho.2.2.1 W2)
  have CL := Lib.hid (fun W2 (h : Below W.heap.size W W2) => loop_any e W2 hb (Nat.le_trans hB h.size) (hx.below hb (h.mono hB)))
  have HC : Hid (∀ w1, Below W.heap.size W w1 → w1.cell? ⟨b, o + 2, none⟩ = some (.int .i64 e.n) ∧ w1.cell? ⟨b, o + 3, none⟩ = some (.slice A1 e.exprs.length c1)) :=
    fun w1 h => ⟨by rw [(below_cells h).1 _ _ (by omega)]; exact h2, by rw [(below_cells h).1 _ _ (by omega)]; exact h3⟩
  have HX : Hid (∀ w1, Below W.heap.size W w1 → ExsIn w1 B A1 0 e.exprs) := fun w1 h => hex.below (h.mono hB)
  unfold shapeB at hv
  have ho1 := ho.2.2.2.2.2.1
  have ho2 := ho.2.2.2.2.2.2.1
  have ho3 := ho.2.2.2.2.2.2.2
  generalize loopB e = lp at hv CL
  generalize isName e.s.data.toList = nm at hv CN
  have hk0 := ho.1
  have hk1 := ho.2.1
  clear hx hex ho
  generalize e.k = k at *
  generalize e.n = n at *
  generalize e.s = s at *
  generalize e.exprs = ex at *
  generalize e.body.length = l2 at *
  generalize e.els.length = l3 at *
  subst hk
  have HV := Lib.hid hv
  clear hv CN CL HC HX
  go_enter Tryd.func18, Tryd.ntmps18
  go_wp2_with fail
  go_quiet (fail)
  go_wp2_with fail
  all_goals
    go_ret
    refine ⟨ret_bool ?_, below_drewN (Below.refl _ _) _⟩
    rw [HV.out, Bool.eq_iff_iff]
    simp [shapeP, *] <;> (try intros) <;> (try omega)


set_option maxRecDepth 100000 in
set_option maxHeartbeats 4000000 in
theorem shape_no (e : St) (g1 : e.k ≠ 1) (g2 : e.k ≠ 2) (g3 : e.k ≠ 3) (g4 : e.k ≠ 4) (g5 : e.k ≠ 5) (g6 : e.k ≠ 6) (g7 : e.k ≠ 7) (g8 : e.k ≠ 8) (g9 : e.k ≠ 9) (g10 : e.k ≠ 10) (g11 : e.k ≠ 11) (g12 : e.k ≠ 12) (g13 : e.k ≠ 13) (g14 : e.k ≠ 14) (g15 : e.k ≠ 15) : ShapeOk e := by
  intro B b o W hb hB hx
  obtain ⟨A1, c1, A2, c2, A3, c3, h0, h1, h2, h3, h4, h5, -, hex, -, -, ho⟩ := hx.parts
  obtain ⟨v, hv⟩ : ∃ v, v = shapeB e := ⟨_, rfl⟩
  rw [← hv]
  have CN := Lib.hid (fun W2 => name_any e.s ho.2.2.1 W2)
  have CL := Lib.hid (fun W2 (h : Below W.heap.size W W2) => loop_any e W2 hb (Nat.le_trans hB h.size) (hx.below hb (h.mono hB)))
  have HC : Hid (∀ w1, Below W.heap.size W w1 → w1.cell? ⟨b, o + 2, none⟩ = some (.int .i64 e.n) ∧ w1.cell? ⟨b, o + 3, none⟩ = some (.slice A1 e.exprs.length c1)) :=
    fun w1 h => ⟨by rw [(below_cells h).1 _ _ (by omega)]; exact h2, by rw [(below_cells h).1 _ _ (by omega)]; exact h3⟩
  have HX : Hid (∀ w1, Below W.heap.size W w1 → ExsIn w1 B A1 0 e.exprs) := fun w1 h => hex.below (h.mono hB)
  unfold shapeB at hv
  have ho1 := ho.2.2.2.2.2.1
  have ho2 := ho.2.2.2.2.2.2.1
  have ho3 := ho.2.2.2.2.2.2.2
  generalize loopB e = lp at hv CL
  generalize isName e.s.data.toList = nm at hv CN
  have hk0 := ho.1
  have hk1 := ho.2.1
  clear hx hex ho
  generalize e.k = k at *
  generalize e.n = n at *
  generalize e.s = s at *
  generalize e.exprs = ex at *
  generalize e.body.length = l2 at *
  generalize e.els.length = l3 at *
  have HV := Lib.hid hv
  clear hv CN CL HC HX
  go_enter Tryd.func18, Tryd.ntmps18
  go_wp2_with fail
  go_quiet (fail)
  go_wp2_with fail
  all_goals
    go_ret
    refine ⟨ret_bool ?_, below_drewN (Below.refl _ _) _⟩
    rw [HV.out, Bool.eq_iff_iff]
    simp [shapeP, *] <;> (try intros) <;> (try omega)

end Go.Proofs.YtdmiakfgemeelaaDoor
