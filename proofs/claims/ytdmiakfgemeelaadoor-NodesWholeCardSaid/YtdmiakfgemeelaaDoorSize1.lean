/- The closures of nodes.Size. -/
import Derived.Test.YtdmiakfgemeelaaDoorItems
namespace Go.Proofs.YtdmiakfgemeelaaDoor
set_option linter.unusedSimpArgs false
set_option linter.unusedVariables false
open Go.RowKit

def sizeStep (st : Int × Int) (deep : Int) : Int × Int := (wrap64 (st.1 + 1), max st.2 deep)

/-- What the variables of Size hold. -/
structure InvC (L : List (Nat × Obj)) (wb nb db cb : Nat) (fe fs : Value) (most : Int) (st : Int × Int) (W : World) : Prop where
  ext : ∀ p ∈ L, W.heap[p.1]? = some p.2
  own : Blk W wb 59 #[fe, fs, .int .i64 most]
  n : Blk W nb 3 #[.int .i64 st.1]
  d : Blk W db 3 #[.int .i64 st.2]
  c : Blk W cb 68 #[.func (.func 26) #[] #[.pointer (some ⟨nb, 0, none⟩), .pointer (some ⟨db, 0, none⟩)]]
structure ApartC (L : List (Nat × Obj)) (S : Nat → Prop) (wb nb db cb : Nat) : Prop where
  l : ∀ p ∈ L, p.1 ≠ nb ∧ p.1 ≠ db
  low1 : ¬ S nb
  low2 : ¬ S db
  wn : wb ≠ nb
  wd : wb ≠ db
  nd : nb ≠ db
  cn : cb ≠ nb
  cd : cb ≠ db

section
variable {L : List (Nat × Obj)} {S : Nat → Prop} {wb nb db cb : Nat} {fe fs : Value} {most : Int} {st : Int × Int} {W w' : World}
theorem InvC.drew (h : InvC L wb nb db cb fe fs most st W) : InvC L wb nb db cb fe fs most st W.drew := ⟨h.ext, h.own, h.n, h.d, h.c⟩
theorem InvC.step (h : InvC L wb nb db cb fe fs most st W) (D : ApartC L S wb nb db cb) (deep : Int) :
    InvC L wb nb db cb fe fs most (sizeStep st deep) ((W.setCell ⟨nb, 0, none⟩ (.int .i64 (wrap64 (st.1 + 1)))).setCell ⟨db, 0, none⟩ (.int .i64 (max st.2 deep))) where
  ext := fun p hp => (Below.heap_setCell _ _ _ p.1 (D.l p hp).2).trans ((Below.heap_setCell W _ _ p.1 (D.l p hp).1).trans (h.ext p hp))
  own := (h.own.far D.wn _).far D.wd _
  n := (h.n.set_ 0 _).far D.nd _
  d := (h.d.far (fun e => D.nd e.symm) _).set_ 0 _
  c := (h.c.far D.cn _).far D.cd _
end

theorem count_any {L : List (Nat × Obj)} {S : Nat → Prop} {wb nb db cb : Nat} {fe fs : Value} {most : Int} (D : ApartC L S wb nb db cb) (st : Int × Int) (W : World) (deep : Int) (h1 : 1 ≤ deep) (h2 : deep ≤ 1000000)
    (hI : InvC L wb nb db cb fe fs most st W) :
    Calls Tryd.prog 26 #[.int .i64 deep, .pointer (some ⟨nb, 0, none⟩), .pointer (some ⟨db, 0, none⟩)] W fun r w' =>
      (∃ v, r = .returned v) ∧ InvC L wb nb db cb fe fs most (sizeStep st deep) w' ∧ KeptS S W w' := by
  have n0 : W.cell? ⟨nb, 0, none⟩ = some (.int .i64 st.1) := hI.n.cell 0
  have nf : W.frozen? ⟨nb, 0, none⟩ = false := hI.n.frozen 0
  have HS := Lib.hid (hI.step D deep)
  obtain ⟨x, hx⟩ : ∃ x, x = wrap64 (st.1 + 1) := ⟨_, rfl⟩
  obtain ⟨W1, hW1⟩ : ∃ W1, W1 = W.setCell ⟨nb, 0, none⟩ (.int .i64 x) := ⟨_, rfl⟩
  have d0 : W1.cell? ⟨db, 0, none⟩ = some (.int .i64 st.2) := by rw [hW1]; exact (hI.d.far (fun e => D.nd e.symm) _).cell 0
  have df : W1.frozen? ⟨db, 0, none⟩ = false := by rw [hW1]; exact (hI.d.far (fun e => D.nd e.symm) _).frozen 0
  rw [hW1, hx] at d0 df
  go_enter Tryd.func26, Tryd.ntmps26
  go_wp2_with fail
  first | go_end0 | (simp only [Exit.inBlock, Exit.then]; refine bodyPost_ret (results_none rfl _ _ _) rfl ?_) | refine bodyPost_ret (results_none rfl _ _ _) rfl ?_
  exact ⟨⟨_, rfl⟩, HS.out, ((KeptS.refl).setCell D.low1 _).setCell D.low2 _⟩

theorem told2_any {L : List (Nat × Obj)} {S : Nat → Prop} {wb nb db cb : Nat} {fe fs : Value} {most : Int} (D : ApartC L S wb nb db cb) (st : Int × Int) (W : World) (a : Value) (deep : Int) (h1 : 1 ≤ deep) (h2 : deep ≤ 1000000)
    (hI : InvC L wb nb db cb fe fs most st W) :
    Calls Tryd.prog 27 #[a, .int .i64 deep, .pointer (some ⟨cb, 0, none⟩)] W fun r w' =>
      (∃ v, r = .returned v) ∧ InvC L wb nb db cb fe fs most (sizeStep st deep) w' ∧ KeptS S W w' := by
  have c0 := hI.c.cell 0
  have cf : W.frozen? ⟨cb, 0, none⟩ = false := hI.c.frozen 0
  have C := Lib.hid (count_any D st W deep h1 h2 hI)
  simp only [List.size_toArray, List.length_cons, List.length_nil, Nat.lt_add_one, getElem?_pos, List.getElem_toArray, List.getElem_cons_zero, Nat.reduceAdd, Nat.lt_add_left_iff_pos, Nat.zero_add] at c0
  clear hI
  go_enter Tryd.func27, Tryd.ntmps27
  go_wp2_with (go_at_call 26; ((with_reducible refine C.out.mono ?_); rintro e w1 ⟨⟨u, rfl⟩, hI1, hB1⟩))
  first | go_end0 | (simp only [Exit.inBlock, Exit.then]; refine bodyPost_ret (results_none rfl _ _ _) rfl ?_) | refine bodyPost_ret (results_none rfl _ _ _) rfl ?_
  exact ⟨⟨_, rfl⟩, hI1, hB1⟩

theorem told3_any {L : List (Nat × Obj)} {S : Nat → Prop} {wb nb db cb : Nat} {fe fs : Value} {most : Int} (D : ApartC L S wb nb db cb) (st : Int × Int) (W : World) (a : Value) (deep : Int) (h1 : 1 ≤ deep) (h2 : deep ≤ 1000000)
    (hI : InvC L wb nb db cb fe fs most st W) :
    Calls Tryd.prog 28 #[a, .int .i64 deep, .pointer (some ⟨cb, 0, none⟩)] W fun r w' =>
      (∃ v, r = .returned v) ∧ InvC L wb nb db cb fe fs most (sizeStep st deep) w' ∧ KeptS S W w' := by
  have c0 := hI.c.cell 0
  have cf : W.frozen? ⟨cb, 0, none⟩ = false := hI.c.frozen 0
  have C := Lib.hid (count_any D st W deep h1 h2 hI)
  simp only [List.size_toArray, List.length_cons, List.length_nil, Nat.lt_add_one, getElem?_pos, List.getElem_toArray, List.getElem_cons_zero, Nat.reduceAdd, Nat.lt_add_left_iff_pos, Nat.zero_add] at c0
  clear hI
  go_enter Tryd.func28, Tryd.ntmps28
  go_wp2_with (go_at_call 26; ((with_reducible refine C.out.mono ?_); rintro e w1 ⟨⟨u, rfl⟩, hI1, hB1⟩))
  first | go_end0 | (simp only [Exit.inBlock, Exit.then]; refine bodyPost_ret (results_none rfl _ _ _) rfl ?_) | refine bodyPost_ret (results_none rfl _ _ _) rfl ?_
  exact ⟨⟨_, rfl⟩, hI1, hB1⟩
end Go.Proofs.YtdmiakfgemeelaaDoor
