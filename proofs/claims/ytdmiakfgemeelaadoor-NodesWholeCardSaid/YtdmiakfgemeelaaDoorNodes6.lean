/- nodes.loop. -/
import Derived.Test.YtdmiakfgemeelaaDoorNodes5
namespace Go.Proofs.YtdmiakfgemeelaaDoor
set_option linter.unusedSimpArgs false
set_option linter.unusedVariables false
open Go.RowKit

theorem StIn.parts {w : World} {B b o : Nat} : ∀ {e : St}, StIn w B b o e → ∃ A1 c1 A2 c2 A3 c3, w.cell? ⟨b, o, none⟩ = some (.int .u8 e.k) ∧ w.cell? ⟨b, o + 1, none⟩ = some (.string e.s) ∧ w.cell? ⟨b, o + 2, none⟩ = some (.int .i64 e.n) ∧
    w.cell? ⟨b, o + 3, none⟩ = some (.slice A1 e.exprs.length c1) ∧ w.cell? ⟨b, o + 4, none⟩ = some (.slice A2 e.body.length c2) ∧ w.cell? ⟨b, o + 5, none⟩ = some (.slice A3 e.els.length c3) ∧ w.cell? ⟨b, o + 6, none⟩ = some (.int .i64 e.line) ∧
    ExsIn w B A1 0 e.exprs ∧ StsIn w B A2 0 e.body ∧ StsIn w B A3 0 e.els ∧ stOk e.k e.s e.n e.exprs.length e.body.length e.els.length
  | .mk k s n e1 e2 e3 ln, h => by
    simp only [StIn] at h
    obtain ⟨h0, A1, c1, A2, c2, A3, c3, h1, h2, h3, h4, h5, h6, h7, h8, h9, h10⟩ := h
    exact ⟨A1, c1, A2, c2, A3, c3, h1, h2, h3, h4, h5, h6, h7, h8, h9, h10, h0⟩

def loopP (empty : Bool) (n : Int) (l1 l3 : Int) : Bool := empty && decide (0 ≤ n) && decide (n ≤ 7) && decide (l1 = n / 2 % 2) && decide (l3 = n % 2 + n / 4)
def loopB (s : St) : Bool := s.els.all (fun x => x.k == 1) && loopP s.s.toList.isEmpty s.n s.exprs.length s.els.length

set_option maxRecDepth 100000 in
set_option maxHeartbeats 4000000 in
theorem loop_any {B b o : Nat} (e : St) (W : World) (hb : b < B) (hB : B ≤ W.heap.size) (hx : StIn W B b o e) :
    Calls Tryd.prog 35 #[.pointer (some ⟨b, o, none⟩)] W fun r w' => r = .returned (.bool (loopB e)) ∧ Below W.heap.size W w' := by
  obtain ⟨A1, c1, A2, c2, A3, c3, h0, h1, h2, h3, h4, h5, h6, -, -, hels, ho⟩ := hx.parts
  obtain ⟨v, hv⟩ : ∃ v, v = loopB e := ⟨_, rfl⟩
  rw [← hv]
  have HV := Lib.hid hv
  have HX := Lib.hid hx
  have HE := Lib.hid hels
  have hl := ho.2.2.2.2.2.2.2
  clear hv hx hels h0 h1 h2 h3 h4 h6 ho
  go_enter Tryd.func35, Tryd.ntmps35
  go_wp2_with fail
  go_loopw [10] (fun x wr => ∃ i : Nat, x = .int .i64 i ∧ i ≤ e.els.length ∧ (e.els.take i).all (fun x => x.k == 1) = true ∧ Below W.heap.size W wr) (fun x _ => e.els.length - (intOf x).toNat)
  case atStart => exact ⟨0, rfl, by omega, rfl, Below.refl _ _⟩
  case round =>
    obtain ⟨i, rfl, hi, hall, hBr⟩ := hrel
    have HB := Lib.hid hBr
    have HA := Lib.hid hall
    clear hBr hall
    by_cases hlt : i < e.els.length
    · obtain ⟨b', o', rfl, hb', hx'⟩ := (HE.out.below (HB.out.mono hB)).at_ i hlt
      rw [Nat.zero_add] at hx'
      obtain ⟨B1, d1, B2, d2, B3, d3, k0, k1, k2, k3, k4, k5, k6, -, -, -, -⟩ := hx'.parts
      obtain ⟨x, hxe⟩ : ∃ x, x = e.els[i]'hlt := ⟨_, rfl⟩
      rw [← hxe] at k0 k1 k2 k3 k4 k5 k6
      have HXE := Lib.hid hxe
      clear hx' hxe
      have hs := hB
      go_wp2_with fail
      · go_ret
        refine ⟨ret_bool ?_, (HB.out.alloc HB.out.size _)⟩
        rw [HV.out]
        have hk : (e.els.all fun x => x.k == 1) = false := by
          rw [Bool.eq_false_iff]
          intro h
          have h2 := List.all_eq_true.1 h (e.els[i]'hlt) (List.getElem_mem hlt)
          rw [← HXE.out] at h2
          have h3 := beq_iff_eq.1 h2
          have h4 := bne_iff_ne.1 ‹(x.k != 1) = true›
          exact h4 h3
        simp [loopB, hk]
      · go_roundw
        case rel =>
          refine ⟨i + 1, by go_num, by omega, ?_, HB.out.alloc HB.out.size _⟩
          rw [List.take_succ_eq_append_getElem hlt, List.all_append, HA.out, ← HXE.out]
          have h4 := ‹(x.k != 1) = false›
          have h5 : x.k = 1 := by simpa using h4
          simp [h5]
        case measure => simp [intOf]; omega
    · have hie : i = e.els.length := by omega
      subst hie
      rw [List.take_length] at HA
      obtain ⟨A1, c1, A2, c2, A3', c3', h0, h1, h2, h3, h4, h5', h6, -, -, -, ho⟩ := (HX.out.below hb (HB.out.mono hB)).parts
      obtain ⟨-, -, -, hn0, hn1, hl1, -, -⟩ := ho
      have HV2 : Hid (v = loopP e.s.toList.isEmpty e.n e.exprs.length e.els.length) := by
        have := HV.out
        rw [loopB, HA.out, Bool.true_and] at this
        exact this
      have HB' := HB
      clear HX HE HV HA hi HB
      generalize e.exprs.length = l1 at *
      generalize e.els.length = l3 at *
      generalize e.n = n at *
      generalize e.s = s at *
      have hem : s.toList.isEmpty = true ∨ s.toList.isEmpty = false := by cases s.toList.isEmpty <;> simp
      rcases hem with hem | hem
      · by_cases h07 : 0 ≤ n ∧ n ≤ 7
        · obtain ⟨g0, g7⟩ := h07
          have h10 : ((l1 : Int) == 0) = true ∧ (l1 : Int) = 0 ∨ ((l1 : Int) == 0) = false ∧ ¬ (l1 : Int) = 0 := by
            by_cases h : (l1 : Int) = 0
            · exact .inl ⟨beq_iff_eq.2 h, h⟩
            · exact .inr ⟨beq_eq_false_iff_ne.2 h, h⟩
          have h11 : ((l1 : Int) == 1) = true ∧ (l1 : Int) = 1 ∨ ((l1 : Int) == 1) = false ∧ ¬ (l1 : Int) = 1 := by
            by_cases h : (l1 : Int) = 1
            · exact .inl ⟨beq_iff_eq.2 h, h⟩
            · exact .inr ⟨beq_eq_false_iff_ne.2 h, h⟩
          have : n = 0 ∨ n = 1 ∨ n = 2 ∨ n = 3 ∨ n = 4 ∨ n = 5 ∨ n = 6 ∨ n = 7 := by omega
          have hb0 : bits .and .i64 0 1 = 0 := by as_aux_lemma => kernel_rfl
          have hb1 : bits .and .i64 1 1 = 1 := by as_aux_lemma => kernel_rfl
          have hb2 : bits .and .i64 2 1 = 0 := by as_aux_lemma => kernel_rfl
          have hb3 : bits .and .i64 3 1 = 1 := by as_aux_lemma => kernel_rfl
          have hb4 : bits .and .i64 4 1 = 0 := by as_aux_lemma => kernel_rfl
          have hb5 : bits .and .i64 5 1 = 1 := by as_aux_lemma => kernel_rfl
          have hb6 : bits .and .i64 6 1 = 0 := by as_aux_lemma => kernel_rfl
          have hb7 : bits .and .i64 7 1 = 1 := by as_aux_lemma => kernel_rfl
          rcases this with rfl | rfl | rfl | rfl | rfl | rfl | rfl | rfl
          · clear h11
            rcases h10 with ⟨h10, e10⟩ | ⟨h10, e10⟩ <;> (
            go_wp2_with fail
            go_quiet (fail)
            go_wp2_with fail
            go_ret
            refine ⟨ret_bool ?_, below_drewN HB'.out _⟩
            rw [HV2.out, Bool.eq_iff_iff]
            simp [loopP, *] <;> (try intros) <;> (try omega)
            )
          · clear h11
            rcases h10 with ⟨h10, e10⟩ | ⟨h10, e10⟩ <;> (
            go_wp2_with fail
            go_quiet (fail)
            go_wp2_with fail
            go_ret
            refine ⟨ret_bool ?_, below_drewN HB'.out _⟩
            rw [HV2.out, Bool.eq_iff_iff]
            simp [loopP, *] <;> (try intros) <;> (try omega)
            )
          · clear h10
            rcases h11 with ⟨h10, e10⟩ | ⟨h10, e10⟩ <;> (
            go_wp2_with fail
            go_quiet (fail)
            go_wp2_with fail
            go_ret
            refine ⟨ret_bool ?_, below_drewN HB'.out _⟩
            rw [HV2.out, Bool.eq_iff_iff]
            simp [loopP, *] <;> (try intros) <;> (try omega)
            )
          · clear h10
            rcases h11 with ⟨h10, e10⟩ | ⟨h10, e10⟩ <;> (
            go_wp2_with fail
            go_quiet (fail)
            go_wp2_with fail
            go_ret
            refine ⟨ret_bool ?_, below_drewN HB'.out _⟩
            rw [HV2.out, Bool.eq_iff_iff]
            simp [loopP, *] <;> (try intros) <;> (try omega)
            )
          · clear h11
            rcases h10 with ⟨h10, e10⟩ | ⟨h10, e10⟩ <;> (
            go_wp2_with fail
            go_quiet (fail)
            go_wp2_with fail
            go_ret
            refine ⟨ret_bool ?_, below_drewN HB'.out _⟩
            rw [HV2.out, Bool.eq_iff_iff]
            simp [loopP, *] <;> (try intros) <;> (try omega)
            )
          · clear h11
            rcases h10 with ⟨h10, e10⟩ | ⟨h10, e10⟩ <;> (
            go_wp2_with fail
            go_quiet (fail)
            go_wp2_with fail
            go_ret
            refine ⟨ret_bool ?_, below_drewN HB'.out _⟩
            rw [HV2.out, Bool.eq_iff_iff]
            simp [loopP, *] <;> (try intros) <;> (try omega)
            )
          · clear h10
            rcases h11 with ⟨h10, e10⟩ | ⟨h10, e10⟩ <;> (
            go_wp2_with fail
            go_quiet (fail)
            go_wp2_with fail
            go_ret
            refine ⟨ret_bool ?_, below_drewN HB'.out _⟩
            rw [HV2.out, Bool.eq_iff_iff]
            simp [loopP, *] <;> (try intros) <;> (try omega)
            )
          · clear h10
            rcases h11 with ⟨h10, e10⟩ | ⟨h10, e10⟩ <;> (
            go_wp2_with fail
            go_quiet (fail)
            go_wp2_with fail
            go_ret
            refine ⟨ret_bool ?_, below_drewN HB'.out _⟩
            rw [HV2.out, Bool.eq_iff_iff]
            simp [loopP, *] <;> (try intros) <;> (try omega)
            )
        · by_cases g0 : 0 ≤ n
          · have g7 : decide (n ≤ 7) = false := decide_eq_false (by omega)
            go_wp2_with fail
            go_quiet (fail)
            go_wp2_with fail
            go_ret
            refine ⟨ret_bool ?_, below_drewN HB'.out _⟩
            rw [HV2.out]
            simp [loopP, *] <;> (try intros) <;> (try omega)
          · have g0' : decide (0 ≤ n) = false := decide_eq_false g0
            go_wp2_with fail
            go_quiet (fail)
            go_wp2_with fail
            go_ret
            refine ⟨ret_bool ?_, below_drewN HB'.out _⟩
            rw [HV2.out]
            simp [loopP, *] <;> (try intros) <;> (try omega)
      · skip
        go_wp2_with fail
        go_quiet (fail)
        go_wp2_with fail
        go_ret
        refine ⟨ret_bool ?_, below_drewN HB'.out _⟩
        rw [HV2.out]
        simp [loopP, *] <;> (try intros) <;> (try omega)
end Go.Proofs.YtdmiakfgemeelaaDoor
