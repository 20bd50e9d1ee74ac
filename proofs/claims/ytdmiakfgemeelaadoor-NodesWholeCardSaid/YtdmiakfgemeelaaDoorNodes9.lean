/- nodes.shape, more kinds, and whole. -/
import Derived.Test.YtdmiakfgemeelaaDoorNodes8
namespace Go.Proofs.YtdmiakfgemeelaaDoor
set_option linter.unusedSimpArgs false
set_option linter.unusedVariables false
open Go.RowKit


set_option maxRecDepth 100000 in
set_option maxHeartbeats 4000000 in
theorem shape_7 (e : St) (hk : e.k = 7) : ShapeOk e := by
  intro B b o W hb hB hx
  obtain ⟨A1, c1, A2, c2, A3, c3, h0, h1, h2, h3, h4, h5, -, hex, -, -, ho⟩ := hx.parts
  obtain ⟨v, hv⟩ : ∃ v, v = shapeB e := ⟨_, rfl⟩
  rw [← hv]
  have CN := Lib.hid (fun W2 => name_any e.s ho.2.2.1 W2)
  have CL := Lib.hid (fun W2 (h : Below W.heap.size W W2) => loop_any e W2 hb (Nat.le_trans hB h.size) (hx.below hb (h.mono hB)))
  have HC : Hid (∀ w1, Below W.heap.size W w1 → w1.cell? ⟨b, o + 2, none⟩ = some (.int .i64 e.n) ∧ w1.cell? ⟨b, o + 3, none⟩ = some (.slice A1 e.exprs.length c1)) :=
    fun w1 h => ⟨by rw [(below_cells h).1 _ _ (by omega)]; exact h2, by rw [(below_cells h).1 _ _ (by omega)]; exact h3⟩
  have HX : Hid (∀ w1, Below W.heap.size W w1 → ExsIn w1 B A1 0 e.exprs) := fun w1 h => hex.below (h.mono hB)
  unfold shapeB at hv
  have ho1 := ho.2.2.2.2.2.1
  have ho2 := ho.2.2.2.2.2.2.1
  have ho3 := ho.2.2.2.2.2.2.2
  generalize loopB e = lp at hv CL
  generalize isName e.s.data.toList = nm at hv CN
  have hk0 := ho.1
  have hk1 := ho.2.1
  clear hx hex ho
  generalize e.k = k at *
  generalize e.n = n at *
  generalize e.s = s at *
  generalize e.exprs = ex at *
  generalize e.body.length = l2 at *
  generalize e.els.length = l3 at *
  subst hk
  have HV := Lib.hid hv
  clear hv CN HC HX
  go_enter Tryd.func18, Tryd.ntmps18
  go_wp2_with fail
  go_quiet (fail)
  go_wp2_with (go_at_call 35; ((with_reducible refine (CL.out _ (below_drewN (Below.refl _ _) _)).mono ?_); rintro e w1 ⟨rfl, hB1⟩))
  all_goals
    go_ret
    refine ⟨ret_bool ?_, (below_drewN (Below.refl _ _) _).trans hB1⟩
    rw [HV.out, Bool.eq_iff_iff]
    simp [shapeP, *] <;> (try intros) <;> (try omega)


set_option maxRecDepth 100000 in
set_option maxHeartbeats 4000000 in
theorem shape_14 (e : St) (hk : e.k = 14) : ShapeOk e := by
  intro B b o W hb hB hx
  obtain ⟨A1, c1, A2, c2, A3, c3, h0, h1, h2, h3, h4, h5, -, hex, -, -, ho⟩ := hx.parts
  obtain ⟨v, hv⟩ : ∃ v, v = shapeB e := ⟨_, rfl⟩
  rw [← hv]
  have CN := Lib.hid (fun W2 => name_any e.s ho.2.2.1 W2)
  have CL := Lib.hid (fun W2 (h : Below W.heap.size W W2) => loop_any e W2 hb (Nat.le_trans hB h.size) (hx.below hb (h.mono hB)))
  have HC : Hid (∀ w1, Below W.heap.size W w1 → w1.cell? ⟨b, o + 2, none⟩ = some (.int .i64 e.n) ∧ w1.cell? ⟨b, o + 3, none⟩ = some (.slice A1 e.exprs.length c1)) :=
    fun w1 h => ⟨by rw [(below_cells h).1 _ _ (by omega)]; exact h2, by rw [(below_cells h).1 _ _ (by omega)]; exact h3⟩
  have HX : Hid (∀ w1, Below W.heap.size W w1 → ExsIn w1 B A1 0 e.exprs) := fun w1 h => hex.below (h.mono hB)
  unfold shapeB at hv
  have ho1 := ho.2.2.2.2.2.1
  have ho2 := ho.2.2.2.2.2.2.1
  have ho3 := ho.2.2.2.2.2.2.2
  generalize loopB e = lp at hv CL
  generalize isName e.s.data.toList = nm at hv CN
  have hk0 := ho.1
  have hk1 := ho.2.1
  clear hx hex ho
  generalize e.k = k at *
  generalize e.n = n at *
  generalize e.s = s at *
  generalize e.exprs = ex at *
  generalize e.body.length = l2 at *
  generalize e.els.length = l3 at *
  subst hk
  have HV := Lib.hid hv
  clear hv CL HX
  go_enter Tryd.func18, Tryd.ntmps18
  go_wp2_with fail
  go_quiet (fail)
  go_wp2_with (go_at_call 32; ((with_reducible refine (CN.out _).mono ?_); rintro e w1 ⟨rfl, hB1⟩; have hBW : Below W.heap.size W w1 := (below_drewN (Below.refl _ _) _).trans hB1; obtain ⟨z2, z3⟩ := HC.out _ hBW; have HBW := Lib.hid hBW; clear hBW hB1))
  all_goals
    go_ret
    refine ⟨ret_bool ?_, HBW.out⟩
    rw [HV.out, Bool.eq_iff_iff]
    simp [shapeP, firstVar, *] <;> (try intros) <;> (try omega)


set_option maxRecDepth 100000 in
set_option maxHeartbeats 4000000 in
theorem shape_8n (e : St) (hk : e.k = 8) (hn : e.exprs = []) : ShapeOk e := by
  intro B b o W hb hB hx
  obtain ⟨A1, c1, A2, c2, A3, c3, h0, h1, h2, h3, h4, h5, -, hex, -, -, ho⟩ := hx.parts
  obtain ⟨v, hv⟩ : ∃ v, v = shapeB e := ⟨_, rfl⟩
  rw [← hv]
  have CN := Lib.hid (fun W2 => name_any e.s ho.2.2.1 W2)
  have CL := Lib.hid (fun W2 (h : Below W.heap.size W W2) => loop_any e W2 hb (Nat.le_trans hB h.size) (hx.below hb (h.mono hB)))
  have HC : Hid (∀ w1, Below W.heap.size W w1 → w1.cell? ⟨b, o + 2, none⟩ = some (.int .i64 e.n) ∧ w1.cell? ⟨b, o + 3, none⟩ = some (.slice A1 e.exprs.length c1)) :=
    fun w1 h => ⟨by rw [(below_cells h).1 _ _ (by omega)]; exact h2, by rw [(below_cells h).1 _ _ (by omega)]; exact h3⟩
  have HX : Hid (∀ w1, Below W.heap.size W w1 → ExsIn w1 B A1 0 e.exprs) := fun w1 h => hex.below (h.mono hB)
  unfold shapeB at hv
  have ho1 := ho.2.2.2.2.2.1
  have ho2 := ho.2.2.2.2.2.2.1
  have ho3 := ho.2.2.2.2.2.2.2
  generalize loopB e = lp at hv CL
  generalize isName e.s.data.toList = nm at hv CN
  have hk0 := ho.1
  have hk1 := ho.2.1
  clear hx hex ho
  generalize e.k = k at *
  generalize e.n = n at *
  generalize e.s = s at *
  generalize e.exprs = ex at *
  generalize e.body.length = l2 at *
  generalize e.els.length = l3 at *
  subst hk
  subst hn
  have HV := Lib.hid hv
  clear hv CL HX
  go_enter Tryd.func18, Tryd.ntmps18
  go_wp2_with fail
  go_quiet (fail)
  go_wp2_with (go_at_call 32; ((with_reducible refine (CN.out _).mono ?_); rintro e w1 ⟨rfl, hB1⟩; have hBW : Below W.heap.size W w1 := (below_drewN (Below.refl _ _) _).trans hB1; obtain ⟨z2, z3⟩ := HC.out _ hBW; have HBW := Lib.hid hBW; clear hBW hB1))
  all_goals
    go_ret
    refine ⟨ret_bool ?_, HBW.out⟩
    rw [HV.out, Bool.eq_iff_iff]
    simp [shapeP, firstVar, *] <;> (try intros) <;> (try omega)


set_option maxRecDepth 100000 in
set_option maxHeartbeats 4000000 in
theorem shape_8c (e : St) (hk : e.k = 8) (x : Ex) (xs : List Ex) (hn : e.exprs = x :: xs) : ShapeOk e := by
  intro B b o W hb hB hx
  obtain ⟨A1, c1, A2, c2, A3, c3, h0, h1, h2, h3, h4, h5, -, hex, -, -, ho⟩ := hx.parts
  obtain ⟨v, hv⟩ : ∃ v, v = shapeB e := ⟨_, rfl⟩
  rw [← hv]
  have CN := Lib.hid (fun W2 => name_any e.s ho.2.2.1 W2)
  have CL := Lib.hid (fun W2 (h : Below W.heap.size W W2) => loop_any e W2 hb (Nat.le_trans hB h.size) (hx.below hb (h.mono hB)))
  have HC : Hid (∀ w1, Below W.heap.size W w1 → w1.cell? ⟨b, o + 2, none⟩ = some (.int .i64 e.n) ∧ w1.cell? ⟨b, o + 3, none⟩ = some (.slice A1 e.exprs.length c1)) :=
    fun w1 h => ⟨by rw [(below_cells h).1 _ _ (by omega)]; exact h2, by rw [(below_cells h).1 _ _ (by omega)]; exact h3⟩
  have HX : Hid (∀ w1, Below W.heap.size W w1 → ExsIn w1 B A1 0 e.exprs) := fun w1 h => hex.below (h.mono hB)
  unfold shapeB at hv
  have ho1 := ho.2.2.2.2.2.1
  have ho2 := ho.2.2.2.2.2.2.1
  have ho3 := ho.2.2.2.2.2.2.2
  generalize loopB e = lp at hv CL
  generalize isName e.s.data.toList = nm at hv CN
  have hk0 := ho.1
  have hk1 := ho.2.1
  clear hx hex ho
  generalize e.k = k at *
  generalize e.n = n at *
  generalize e.s = s at *
  generalize e.exprs = ex at *
  generalize e.body.length = l2 at *
  generalize e.els.length = l3 at *
  subst hk
  subst hn
  simp only [List.length_cons] at *
  have HV := Lib.hid hv
  clear hv CL
  go_enter Tryd.func18, Tryd.ntmps18
  go_wp2_with fail
  go_quiet (fail)
  go_wp2_with (go_at_call 32; ((with_reducible refine (CN.out _).mono ?_); rintro e w1 ⟨rfl, hB1⟩; have hBW : Below W.heap.size W w1 := (below_drewN (Below.refl _ _) _).trans hB1; obtain ⟨z2, z3⟩ := HC.out _ hBW; obtain ⟨b', o', rfl, hb', hx'⟩ := (HX.out _ hBW).at_ 0 (by simp); obtain ⟨_, _, q0, -, -, -, -, -⟩ := hx'.parts; simp only [List.getElem_cons_zero, Nat.zero_add, Nat.zero_mul, Nat.add_zero] at q0; clear hx'; have HBW := Lib.hid hBW; clear hBW hB1))
  all_goals
    go_ret
    refine ⟨ret_bool ?_, HBW.out⟩
    rw [HV.out, Bool.eq_iff_iff]
    simp [shapeP, firstVar, *] <;> (try intros) <;> (try omega)


theorem shape_any (e : St) : ShapeOk e := by
  by_cases g1 : e.k = 1
  · exact shape_1 e g1
  by_cases g2 : e.k = 2
  · exact shape_2 e g2
  by_cases g3 : e.k = 3
  · exact shape_3 e g3
  by_cases g4 : e.k = 4
  · exact shape_4 e g4
  by_cases g5 : e.k = 5
  · exact shape_5 e g5
  by_cases g6 : e.k = 6
  · exact shape_6 e g6
  by_cases g7 : e.k = 7
  · exact shape_7 e g7
  by_cases g8 : e.k = 8
  · exact (by cases hn : e.exprs with | nil => exact shape_8n e g8 hn | cons x xs => exact shape_8c e g8 x xs hn)
  by_cases g9 : e.k = 9
  · exact shape_9 e g9
  by_cases g10 : e.k = 10
  · exact shape_10 e g10
  by_cases g11 : e.k = 11
  · exact shape_11 e g11
  by_cases g12 : e.k = 12
  · exact shape_12 e g12
  by_cases g13 : e.k = 13
  · exact shape_13 e g13
  by_cases g14 : e.k = 14
  · exact shape_14 e g14
  by_cases g15 : e.k = 15
  · exact shape_15 e g15
  exact shape_no e g1 g2 g3 g4 g5 g6 g7 g8 g9 g10 g11 g12 g13 g14 g15

end Go.Proofs.YtdmiakfgemeelaaDoor
