/- nodes.alone at a kind that is in the map; nodes.alone whole. -/
import Derived.Test.YtdmiakfgemeelaaDoorNodes3
namespace Go.Proofs.YtdmiakfgemeelaaDoor
set_option linter.unusedSimpArgs false
set_option linter.unusedVariables false
open Go.RowKit

theorem kind_none {k : Int} (h : kindOf k = none) : Instr.findNow (.int .u8) (.int .u8 k) kindEntries.toList 0 = some none := by
  obtain ⟨r, h1, h2⟩ := find_from kindRows 0 0 k
  rw [show (kindRows.find? fun r => r.1 == k).map (·.2) = none from h] at h2
  cases r with
  | none => exact h1
  | some x => cases h2
theorem kind_some {k : Int} {h0 : Has} (h : kindOf k = some h0) : ∃ i, Instr.findNow (.int .u8) (.int .u8 k) kindEntries.toList 0 = some (some (i, .agg h0.cells)) := by
  obtain ⟨r, h1, h2⟩ := find_from kindRows 0 0 k
  rw [show (kindRows.find? fun r => r.1 == k).map (·.2) = some h0 from h] at h2
  cases r with
  | none => cases h2
  | some x =>
    obtain ⟨i, y⟩ := x
    cases h2
    exact ⟨i, h1⟩

theorem kinds_map : Tryd.prog.underlying 49 = some (.map 23 70) ∧ Tryd.prog.underlying 23 = some (.int .u8) ∧
    ∀ w, (zeroValue 70).run Tryd.prog w = .ok (.agg #[.int .i64 0, .int .i64 0, .string ⟨#[]⟩, .bool false]) w :=
  ⟨by as_aux_lemma => kernel_rfl, by as_aux_lemma => kernel_rfl, by as_aux_lemma => (intro W; kernel_rfl)⟩

set_option maxRecDepth 100000 in
theorem alone_none (A : Option Addr) (c : Nat) (e : Ex) (mb : Nat) (w : World) (hm : w.heap[mb]? = some (.map kindEntries 19))
    (h1 : e.k ≠ 1) (h2 : e.k ≠ 2) (h3 : e.k ≠ 3) (h23 : e.k ≠ 23) (h0 : kindOf e.k = none) :
    Calls Tryd.prog 16 #[exV A c e, .map (some mb)] w fun r w' => r = .returned (.bool (aloneB e)) ∧ Below w.heap.size w w' := by
  have hv : aloneB e = false := by simp [aloneB, h1, h2, h3, h23, h0]
  rw [hv]
  have HR := Lib.hid (kind_none h0)
  have hlt : mb < w.heap.size := (Array.getElem?_eq_some_iff.1 hm).1
  have HM : Hid (∀ o, (w.alloc o).heap[mb]? = some (.map kindEntries 19)) := fun o => (Below.heap_alloc w o mb hlt).trans hm
  obtain ⟨k, s, n, kids⟩ := e
  simp only [Ex.k] at h1 h2 h3 h23 HR
  have HL : Hid (∀ o, (Instr.lookup 49 (.map (some mb)) (.int .u8 k) true).run Tryd.prog (w.alloc o) = .ok (.tuple #[.agg #[.int .i64 0, .int .i64 0, .string ⟨#[]⟩, .bool false], .bool false]) (w.alloc o)) :=
    fun o => run_lookup_ok k _ none (kinds_map).1 (kinds_map).2.1 ((kinds_map).2.2 _) (HM.out o) HR.out
  simp only [exV, Ex.k, Ex.s, Ex.n, Ex.kids]
  clear h0 hv hm
  go_enter Tryd.func16, Tryd.ntmps16
  go_wp2_with (rw [HL.out]; simp only [Result.andThen_ok])
  all_goals
    go_ret
    refine ⟨rfl, ?_⟩
    repeat' first | exact Below.refl _ _ | refine Below.setCell ?_ (by simp) _ | refine Below.alloc ?_ (by simp) _ | refine below_setRow ?_ (by simp) _ | refine Below.drew ?_

theorem new3 (w : World) (o1 o2 : Obj) (t : TypeId) (cs : Array Value) : Blk (((w.alloc o1).alloc o2).alloc (.cells cs t)).drew (w.heap.size + 1 + 1) t cs := by
  have h := Blk.new ((w.alloc o1).alloc o2) t cs
  rw [show ((w.alloc o1).alloc o2).heap.size = w.heap.size + 1 + 1 by simp] at h
  exact h.drew

theorem new4 (w : World) (o1 o2 o3 : Obj) (t : TypeId) (cs : Array Value) : Blk ((((w.alloc o1).alloc o2).alloc o3).alloc (.cells cs t)).drew (w.heap.size + 1 + 1 + 1) t cs := by
  have h := Blk.new (((w.alloc o1).alloc o2).alloc o3) t cs
  rw [show (((w.alloc o1).alloc o2).alloc o3).heap.size = w.heap.size + 1 + 1 + 1 by simp] at h
  exact h.drew
theorem lvalue_al (k : Int) (s : ByteArray) (n : Int) (kids : Value) (w : World) :
    Calls Tryd.prog 31 #[.agg #[.int .u8 k, .string s, .int .u64 n, kids]] w fun e w' =>
      e = .returned (.bool (lvalK k)) ∧ ∃ o, w' = w.alloc o := by
  go_enter Tryd.func31, Tryd.ntmps31
  go_wp2
  all_goals
    go_ret
    exact ⟨ret_bool (by simp [lvalK, *]), _, rfl⟩

/-- The row of an expression that is handed over, and the row of what its kind has. -/
abbrev exCells (A : Option Addr) (c : Nat) (k : Int) (s : ByteArray) (n : Int) (len : Nat) : Array Value := #[.int .u8 k, .string s, .int .u64 n, .slice A len c]

set_option maxRecDepth 100000 in
set_option maxHeartbeats 4000000 in
theorem alone_some (A : Option Addr) (c : Nat) (e : Ex) (mb : Nat) (hh : Has) (w : World) (hm : w.heap[mb]? = some (.map kindEntries 19)) (hs : e.s.size ≤ 140737488351232) (hn0 : 0 ≤ e.n) (hn1 : e.n ≤ 18446744073709551615) (hl : e.kids.length ≤ 140737488351232)
    (hk : ExsIn w w.heap.size A 0 e.kids) (hT : Tab w.heap.size w)
    (h1 : e.k ≠ 1) (h2 : e.k ≠ 2) (h3 : e.k ≠ 3) (h23 : e.k ≠ 23) (h0 : kindOf e.k = some hh) :
    Calls Tryd.prog 16 #[exV A c e, .map (some mb)] w fun r w' => r = .returned (.bool (aloneB e)) ∧ Below w.heap.size w w' := by
  obtain ⟨v, hv⟩ : ∃ v, v = aloneB e := ⟨_, rfl⟩
  have hv2 : v = hasB hh e.s e.n e.kids.length (firstLv e) := by rw [hv]; simp [aloneB, h1, h2, h3, h23, h0]
  rw [← hv]
  have hok := kindOf_ok h0
  obtain ⟨i, hri⟩ := kind_some h0
  have HR := Lib.hid hri
  have hlt : mb < w.heap.size := (Array.getElem?_eq_some_iff.1 hm).1
  have HM : Hid (∀ o, (w.alloc o).heap[mb]? = some (.map kindEntries 19)) := fun o => (Below.heap_alloc w o mb hlt).trans hm
  obtain ⟨k, s, n, kids⟩ := e
  obtain ⟨least, most, says, first⟩ := hh
  simp only [Ex.k, Ex.s, Ex.n, Ex.kids] at *
  have HL : Hid (∀ o, (Instr.lookup 49 (.map (some mb)) (.int .u8 k) true).run Tryd.prog (w.alloc o) = .ok (.tuple #[.agg #[.int .i64 least, .int .i64 most, .string says, .bool first], .bool true]) (w.alloc o)) :=
    fun o => run_lookup_ok k _ _ (kinds_map).1 (kinds_map).2.1 ((kinds_map).2.2 _) (HM.out o) HR.out
  have HV := Lib.hid hv2
  have HK := Lib.hid hk
  have hok1 : says.size < 4294967281 := by
    simp only [hasOk, sayOk, Bool.and_eq_true, decide_eq_true_eq, data_len] at hok
    exact hok.1.1.1.1.2.1.2
  have CF : Hid (∀ W, Below w.heap.size w W → Calls Tryd.prog 34 #[.string says] W fun e w' => e = .returned (.slice (some ⟨W.heap.size, 0, none⟩) (fieldsOf says).length (fieldsOf says).length) ∧ w' = W.alloc (.cells ((fieldsOf says).map Value.string).toArray 9)) := by
    intro W hW
    refine (Tryd.strings_Fields says W hok1 ?_ (hT W hW)).mono ?_
    · simp only [hasOk, sayOk, Bool.and_eq_true, List.all_eq_true, decide_eq_true_eq] at hok
      intro j b hj
      exact hok.1.1.1.1.2.1.1 b (List.mem_of_getElem? hj)
    · rintro e w' ⟨rfl, rfl⟩
      unfold fieldsOf
      rw [List.length_map, List.map_map]
      exact ⟨rfl, rfl⟩
  have hfl : (fieldsOf says).length ≤ 20 := by
    simp only [hasOk, sayOk, Bool.and_eq_true, decide_eq_true_eq] at hok
    exact hok.1.1.1.1.2.2
  have CC : Hid (∀ W b, Blk W b 9 ((fieldsOf says).map Value.string).toArray → Calls Tryd.prog 33 #[.slice (some ⟨b, 0, none⟩) (fieldsOf says).length (fieldsOf says).length, .string s] W fun e w' => e = .returned (.bool (Lib.containsS (fieldsOf says) s)) ∧ w' = W) := by
    intro W b hb
    refine (Tryd.slices_Contains_string b 0 _ _ (fieldsOf says) s W (Nat.le_refl _) (by omega) (fun j hj => ?_)).mono ?_
    · rw [Nat.zero_add, hb.cell]
      simp [hj, List.getD]
    · rintro e w' ⟨rfl, rfl⟩
      simp
  have CN := Lib.hid (fun W => name_any s hs W)
  have hfirst : first = true → 1 ≤ least := by
    intro h
    subst h
    simp only [hasOk, Bool.not_true, Bool.false_or, Bool.and_eq_true, decide_eq_true_eq] at hok
    exact hok.1.1.1.1.1
  have hrange : -1 ≤ least ∧ least ≤ 3 ∧ -1 ≤ most ∧ most ≤ 3 := by
    simp only [hasOk, Bool.and_eq_true, decide_eq_true_eq] at hok
    omega
  clear hv hm HM HR hri hv2 h0 hT hok hok1 hfl hk
  simp only [exV, Ex.k, Ex.s, Ex.n, Ex.kids]
  cases first with
  | false =>
    clear hfirst
    go_enter Tryd.func16, Tryd.ntmps16
    go_wp2_with (first | (rw [HL.out]; simp only [Result.andThen_ok]) | (go_at_call 32; ((with_reducible refine (CN.out _).mono ?_); rintro e w1 ⟨rfl, hB⟩)))
    all_goals first
    | (go_ret
       refine ⟨ret_bool ?_, ?_⟩
       · rw [HV.out]
         simp [hasB, saysB, *] <;> (try intros) <;> (try omega)
       · repeat' first | exact Below.refl _ _ | refine Below.trans ?_ (hB.mono (by simp <;> omega)) | refine Below.setCell ?_ (by simp <;> omega) _ | refine Below.alloc ?_ (by simp <;> omega) _ | refine below_setRow ?_ (by simp <;> omega) _ | refine Below.drew ?_ | refine below_drewN ?_ _)
    | skip
    all_goals go_region_with (first
          | (go_at_call 34; ((with_reducible refine (CF.out _ ((((Below.refl _ _).alloc (Nat.le_refl _) _).alloc (by simp) _).drew)).mono ?_); rintro e w1 ⟨rfl, rfl⟩))
          | (go_at_call 33; ((with_reducible refine (CC.out _ _ (new3 _ _ _ _ _)).mono ?_); rintro e w1 ⟨rfl, rfl⟩)))
    all_goals
      go_wp2_with fail
      go_ret
      refine ⟨ret_bool ?_, ?_⟩
      · rw [HV.out]
        simp [hasB, saysB, *] <;> (try intros) <;> (try omega)
      · repeat' first | exact Below.refl _ _ | refine Below.trans ?_ (hB.mono (by simp <;> omega)) | refine Below.setCell ?_ (by simp <;> omega) _ | refine Below.alloc ?_ (by simp <;> omega) _ | refine below_setRow ?_ (by simp <;> omega) _ | refine Below.drew ?_ | refine below_drewN ?_ _
  | true =>
    have hleast := hfirst rfl
    clear hfirst
    cases kids with
    | nil =>
      clear CN CF CC HK
      have hl0 : (decide ((0 : Int) < least)) = true := decide_eq_true (by omega)
      simp only [List.length_nil, Int.ofNat_zero] at HV ⊢
      go_enter Tryd.func16, Tryd.ntmps16
      go_wp2_with (rw [HL.out]; simp only [Result.andThen_ok])
      all_goals
        go_ret
        refine ⟨ret_bool ?_, ?_⟩
        · rw [HV.out]
          simp [hasB, saysB, *] <;> (try intros) <;> (try omega)
        · repeat' first | exact Below.refl _ _ | refine Below.trans ?_ (hB.mono (by simp <;> omega)) | refine Below.setCell ?_ (by simp <;> omega) _ | refine Below.alloc ?_ (by simp <;> omega) _ | refine below_setRow ?_ (by simp <;> omega) _ | refine Below.drew ?_ | refine below_drewN ?_ _
    | cons e0 ks =>
      obtain ⟨b, o, rfl, hb, h0⟩ := HK.out.at_ 0 (by simp)
      obtain ⟨k0, s0, n0, l0⟩ := e0
      simp only [List.getElem_cons_zero, ExIn, Nat.zero_add, Nat.zero_mul, Nat.add_zero] at h0
      obtain ⟨_, A0, c0, c1, c2, c3, c4, _⟩ := h0
      have d0 : ∀ o1 o2 i, ((w.alloc o1).alloc o2).cell? ⟨b, i, none⟩ = w.cell? ⟨b, i, none⟩ := fun o1 o2 i => (alloc_cells (w := w.alloc o1) o2 b i (by simp; omega)).trans (alloc_cells (w := w) o1 b i hb)
      have d1 := fun o1 o2 => (d0 o1 o2 _).trans c1
      have d2 := fun o1 o2 => (d0 o1 o2 _).trans c2
      have d3 := fun o1 o2 => (d0 o1 o2 _).trans c3
      have d4 := fun o1 o2 => (d0 o1 o2 _).trans c4
      clear HK hb c1 c2 c3 c4 d0
      have CL := Lib.hid (fun kids W => lvalue_al k0 s0 n0 kids W)
      simp only [List.length_cons] at hl HV ⊢
      cases hlv : lvalK k0
      all_goals rw [hlv] at CL
      all_goals have hfl : firstLv (.mk k s n (.mk k0 s0 n0 l0 :: ks)) = lvalK k0 := by simp [firstLv, Ex.kids, Ex.k]
      all_goals rw [hlv] at hfl
      all_goals rw [hfl] at HV
      all_goals clear hfl hlv
      all_goals go_enter Tryd.func16, Tryd.ntmps16
      all_goals go_wp2_with (first
        | (rw [HL.out]; simp only [Result.andThen_ok])
        | (go_at_call 31; ((with_reducible refine (CL.out _ _).mono ?_); rintro e w1 ⟨rfl, o3, rfl⟩))
        | (go_at_call 32; ((with_reducible refine (CN.out _).mono ?_); rintro e w1 ⟨rfl, hB⟩)))
      all_goals first
      | (go_ret
         refine ⟨ret_bool ?_, ?_⟩
         · rw [HV.out]
           simp [hasB, saysB, *] <;> (try intros) <;> (try omega)
         · repeat' first | exact Below.refl _ _ | refine Below.trans ?_ (hB.mono (by simp <;> omega)) | refine Below.setCell ?_ (by simp <;> omega) _ | refine Below.alloc ?_ (by simp <;> omega) _ | refine below_setRow ?_ (by simp <;> omega) _ | refine Below.drew ?_ | refine below_drewN ?_ _)
      | skip
      all_goals go_region_with (first
            | (go_at_call 34; ((with_reducible refine (CF.out _ (((((Below.refl _ _).alloc (Nat.le_refl _) _).alloc (by simp) _).alloc (by simp; omega) _).drew)).mono ?_); rintro e w1 ⟨rfl, rfl⟩))
            | (go_at_call 33; ((with_reducible refine (CC.out _ _ (new4 _ _ _ _ _ _)).mono ?_); rintro e w1 ⟨rfl, rfl⟩)))
      all_goals
        go_wp2_with fail
        go_ret
        refine ⟨ret_bool ?_, ?_⟩
        · rw [HV.out]
          simp [hasB, saysB, *] <;> (try intros) <;> (try omega)
        · repeat' first | exact Below.refl _ _ | refine Below.trans ?_ (hB.mono (by simp <;> omega)) | refine Below.setCell ?_ (by simp <;> omega) _ | refine Below.alloc ?_ (by simp <;> omega) _ | refine below_setRow ?_ (by simp <;> omega) _ | refine Below.drew ?_ | refine below_drewN ?_ _

theorem alone_any (A : Option Addr) (c : Nat) (e : Ex) (mb : Nat) (w : World) (hm : w.heap[mb]? = some (.map kindEntries 19)) (hs : e.s.size ≤ 140737488351232) (hn0 : 0 ≤ e.n) (hn1 : e.n ≤ 18446744073709551615) (hl : e.kids.length ≤ 140737488351232)
    (hk : ExsIn w w.heap.size A 0 e.kids) (hT : Tab w.heap.size w) :
    Calls Tryd.prog 16 #[exV A c e, .map (some mb)] w fun r w' => r = .returned (.bool (aloneB e)) ∧ Below w.heap.size w w' := by
  by_cases h4 : e.k = 1 ∨ e.k = 2 ∨ e.k = 3 ∨ e.k = 23
  · exact alone_plain A c e _ w hs hn0 hn1 hl hk h4
  · have h1 : e.k ≠ 1 := fun h => h4 (.inl h)
    have h2 : e.k ≠ 2 := fun h => h4 (.inr (.inl h))
    have h3 : e.k ≠ 3 := fun h => h4 (.inr (.inr (.inl h)))
    have h23 : e.k ≠ 23 := fun h => h4 (.inr (.inr (.inr h)))
    cases h0 : kindOf e.k with
    | none => exact alone_none A c e mb w hm h1 h2 h3 h23 h0
    | some hh => exact alone_some A c e mb hh w hm hs hn0 hn1 hl hk hT h1 h2 h3 h23 h0
end Go.Proofs.YtdmiakfgemeelaaDoor
