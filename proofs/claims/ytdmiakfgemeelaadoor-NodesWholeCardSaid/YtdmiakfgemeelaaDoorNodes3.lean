/- nodes.alone. -/
import Derived.Test.YtdmiakfgemeelaaDoorNodes2
import Derived.Test.YtdmiakfgemeelaaDoorShelf
import Derived.Lib.AppendIntMem
namespace Go.Proofs.YtdmiakfgemeelaaDoor
set_option linter.unusedSimpArgs false
set_option linter.unusedVariables false
open Go.RowKit

def kindOf (k : Int) : Option Has := (kindRows.find? fun r => r.1 == k).map (·.2)
theorem find_from : ∀ (l : List (Int × Has)) (n i : Nat) (k : Int), ∃ r, Instr.findNow (.int .u8) (.int .u8 k) (entriesFrom n l) i = some r ∧ r.map (·.2) = ((l.find? fun r => r.1 == k).map (·.2)).map fun h => .agg h.cells
  | [], _, _, _ => ⟨none, rfl, rfl⟩
  | r :: l, n, i, k => by
    simp only [entriesFrom, Instr.findNow, Instr.sameNow, if_true]
    by_cases h : r.1 = k
    · subst h; exact ⟨some (i, .agg r.2.cells), by simp, by simp⟩
    · have h1 : (k == r.1) = false := by simp; omega
      have h2 : (r.1 == k) = false := by simp; omega
      rw [h1, List.find?_cons, h2]
      exact find_from l (n + 1) (i + 1) k
def fieldsOf (says : ByteArray) : List ByteArray := (Lib.fields says.data.toList).map fun l => ⟨l.toArray⟩
def sayOk (s : ByteArray) : Bool := s.data.toList.all (fun b => decide (b.toNat < 128)) && decide (s.data.toList.length < 4294967281) && decide ((fieldsOf s).length ≤ 20)
def hasOk (h : Has) : Bool := (!h.first || decide (1 ≤ h.least)) && sayOk h.says && decide (h.least ≤ 3) && decide (0 ≤ h.least) && decide (h.most ≤ 3) && decide (-1 ≤ h.most)
theorem rows_ok : kindRows.all (fun r => hasOk r.2) = true := by decide +kernel
theorem kindOf_ok {k : Int} {h : Has} (hk : kindOf k = some h) : hasOk h = true := by
  unfold kindOf at hk
  cases hf : kindRows.find? (fun r => r.1 == k) with
  | none => rw [hf] at hk; cases hk
  | some r =>
    rw [hf] at hk
    cases hk
    exact List.all_eq_true.1 rows_ok r (List.mem_of_find?_eq_some hf)

def saysB (says s : ByteArray) : Bool := if says.toList == [110, 97, 109, 101] then isName s.data.toList else if says.toList.isEmpty then s.toList.isEmpty else Lib.containsS (fieldsOf says) s
def hasB (h : Has) (s : ByteArray) (n : Int) (len : Int) (lv : Bool) : Bool :=
  decide (n = 0) && decide (h.least ≤ len) && (decide (h.most < 0) || decide (len ≤ h.most)) && (!h.first || lv) && saysB h.says s
def firstLv (e : Ex) : Bool := e.kids.head?.any fun x => lvalK x.k
def aloneB (e : Ex) : Bool :=
  if e.k = 1 then e.s.toList.isEmpty && decide (e.kids.length = 0) && decide (e.n < 9218868437227405312)
  else if e.k = 2 then decide (e.n = 0) && decide (e.kids.length = 0)
  else if e.k = 3 then decide (e.n = 0) && decide (e.kids.length = 0) && patternB e.s.data.toList
  else if e.k = 23 then getlineB e
  else match kindOf e.k with
    | none => false
    | some h => hasB h e.s e.n e.kids.length (firstLv e)

abbrev Tab (B : Nat) (w : World) : Prop := Lib.TabBelow Tryd.prog B w "strings.asciiSpace" .u8 Lib.asciiSpaceTab

theorem wpList_lookupOk {P : Program} {ops : Array Oper} {rest : List Oper} {o : Oper} {a : Act} {w : World} {Q : Exit → Act → World → Prop} (hg : o.guard = none) (t : TypeId) (m k : Operand) (ho : o.op = .lookup t m k true) (d : Option Tmp) (hd : o.dst = d)
    (b : Nat) (es : Array MapEntry) (c : Nat) (hm : a.eval m = .map (some b)) (hw : w.heap[b]? = some (.map es c)) (K E : TypeId) (kk : IntKind) (hu : P.underlying t = some (.map K E)) (hK : P.underlying K = some (.int kk))
    (n : Int) (hk : a.eval k = .int kk n) (z : Value) (hz : ∀ w, (zeroValue E).run P w = .ok z w) (r : Option (Nat × Value)) (hr : Instr.findNow (.int kk) (.int kk n) es.toList 0 = some r)
    (h : wpList P ops Q rest (a.put d (.tuple #[(r.map (·.2)).getD z, .bool r.isSome])) w) : wpList P ops Q (o :: rest) a w := by
  refine wpList_plain hg fun _ hK' => ?_
  unfold Oper.wp execOp
  simp only [ho, hm, hk, Sem.run_bind, run_lookup_ok n z r hu hK (hz w) hw hr, Result.andThen_ok, Sem.run_pure]
  subst hd
  exact hK' _ _ h

theorem alone_plain (A : Option Addr) (c : Nat) (e : Ex) (m : Value) (w : World) (hs : e.s.size ≤ 140737488351232) (hn0 : 0 ≤ e.n) (hn1 : e.n ≤ 18446744073709551615) (hl : e.kids.length ≤ 140737488351232)
    (hk : ExsIn w w.heap.size A 0 e.kids) (h4 : e.k = 1 ∨ e.k = 2 ∨ e.k = 3 ∨ e.k = 23) :
    Calls Tryd.prog 16 #[exV A c e, m] w fun r w' => r = .returned (.bool (aloneB e)) ∧ Below w.heap.size w w' := by
  obtain ⟨k, s, n, kids⟩ := e
  simp only [Ex.k, Ex.s, Ex.n, Ex.kids] at hs hn0 hn1 hl hk h4
  obtain ⟨v, hv⟩ : ∃ v, v = aloneB (.mk k s n kids) := ⟨_, rfl⟩
  rw [← hv]
  rcases h4 with rfl | rfl | rfl | rfl
  · simp only [aloneB, Ex.k, Ex.s, Ex.n, Ex.kids, if_true] at hv
    have HV := Lib.hid hv
    clear hv hk
    simp only [exV, Ex.k, Ex.s, Ex.n, Ex.kids]
    go_enter Tryd.func16, Tryd.ntmps16
    go_wp2
    all_goals
      go_ret
      refine ⟨ret_bool ?_, (Below.refl _ _).alloc (Nat.le_refl _) _⟩
      rw [HV.out]
      simp [*] <;> (try intros) <;> first | omega | rfl | (congr; done) | (rw [Bool.eq_iff_iff]; simp; done) | (rw [Bool.eq_iff_iff]; simp; cases kids <;> simp <;> omega)
  · simp only [aloneB, Ex.k, Ex.s, Ex.n, Ex.kids, if_true] at hv
    have HV := Lib.hid hv
    clear hv hk
    simp only [exV, Ex.k, Ex.s, Ex.n, Ex.kids]
    go_enter Tryd.func16, Tryd.ntmps16
    go_wp2
    all_goals
      go_ret
      refine ⟨ret_bool ?_, (Below.refl _ _).alloc (Nat.le_refl _) _⟩
      rw [HV.out]
      simp [*] <;> (try intros) <;> first | omega | rfl | (congr; done) | (rw [Bool.eq_iff_iff]; simp; done) | (rw [Bool.eq_iff_iff]; simp; cases kids <;> simp <;> omega)
  · simp only [aloneB, Ex.k, Ex.s, Ex.n, Ex.kids, if_true] at hv
    have C := Lib.hid (fun W => pattern_any s hs W)
    have HV := Lib.hid hv
    clear hv hk
    simp only [exV, Ex.k, Ex.s, Ex.n, Ex.kids]
    go_enter Tryd.func16, Tryd.ntmps16
    go_wp2_with (go_at_call 29; ((with_reducible refine (C.out _).mono ?_); rintro e w1 ⟨rfl, rfl⟩))
    all_goals
      go_ret
      refine ⟨ret_bool ?_, (Below.refl _ _).alloc (Nat.le_refl _) _⟩
      rw [HV.out]
      simp [*] <;> (try intros) <;> first | omega | rfl | (congr; done) | (rw [Bool.eq_iff_iff]; simp; done) | (rw [Bool.eq_iff_iff]; simp; cases kids <;> simp <;> omega)
  · simp only [aloneB, Ex.k, if_true] at hv
    have C := Lib.hid (fun W h => getline_any A c (.mk 23 s n kids) W hn0 hn1 hl h)
    have HK := Lib.hid hk
    have HV := Lib.hid hv
    clear hv hk
    simp only [exV, Ex.k, Ex.s, Ex.n, Ex.kids] at C ⊢
    go_enter Tryd.func16, Tryd.ntmps16
    go_wp2_with (go_at_call 30; ((with_reducible refine (C.out _ ((HK.out.below ((Below.refl _ _).alloc (Nat.le_refl _) _)).more (by simp))).mono ?_); rintro e w1 ⟨rfl, hB⟩))
    all_goals
      go_ret
      refine ⟨ret_bool ?_, ((Below.refl _ _).alloc (Nat.le_refl _) _).trans (hB.mono (by simp))⟩
      rw [HV.out]
      simp
end Go.Proofs.YtdmiakfgemeelaaDoor
