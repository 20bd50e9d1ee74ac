/- Contracts of nodes.lvalue, nodes.getline, nodes.pattern. -/
import Derived.Test.YtdmiakfgemeelaaDoorTree
import Derived.Test.YtdmiakfgemeelaaDoorLex8
import Derived.Laws.BitsAllLaws
namespace Go.Proofs.YtdmiakfgemeelaaDoor
set_option linter.unusedSimpArgs false
set_option linter.unusedVariables false
open Go.RowKit

/-- The length of a string in a slot. -/
def sizeOfV : Value → Nat | .string s => s.size | _ => 0
def lvalK (k : Int) : Bool := k == 4 || k == 5 || k == 6

theorem lvalue_any (k : Int) (s : ByteArray) (n : Int) (kids : Value) (w : World) :
    Calls Tryd.prog 31 #[.agg #[.int .u8 k, .string s, .int .u64 n, kids]] w fun e w' =>
      e = .returned (.bool (lvalK k)) ∧ Below w.heap.size w w' := by
  go_enter Tryd.func31, Tryd.ntmps31
  go_wp2
  all_goals
    go_ret
    exact ⟨ret_bool (by simp [lvalK, *]), (Below.refl _ _).alloc (Nat.le_refl _) _⟩

/-- The value of an expression that is handed over: its parts, and its kids in memory. -/
def exV (A : Option Addr) (c : Nat) (e : Ex) : Value := .agg #[.int .u8 e.k, .string e.s, .int .u64 e.n, .slice A e.kids.length c]

theorem alloc_cells {w : World} (o : Obj) : ∀ b i, b < w.heap.size → (w.alloc o).cell? ⟨b, i, none⟩ = w.cell? ⟨b, i, none⟩ := fun b i h => World.cell?_alloc_lt w o ⟨b, i, none⟩ h

theorem and7 (n : Int) (h1 : 0 ≤ n) (h2 : n ≤ 18446744073709551615) : bits .and .u64 n 7 = n % 8 := by
  rw [u64_and n 7 h1 (by omega) (by omega) (by omega)]
  have : n.toNat &&& (7 : Int).toNat = n.toNat % 8 := Nat.and_two_pow_sub_one_eq_mod n.toNat 3
  rw [this]
  omega
theorem and8 (n : Int) (h1 : 0 ≤ n) (h2 : n ≤ 18446744073709551615) : bits .and .u64 n 8 = n / 8 % 2 * 8 := by
  rw [u64_and n 8 h1 (by omega) (by omega) (by omega)]
  have h16 : ∀ m : Fin 16, m.val &&& 8 = m.val / 8 % 2 * 8 := by decide
  have e1 : n.toNat &&& 8 = (n.toNat % 16) &&& 8 := by
    have e2 : (8 : Nat) = 15 &&& 8 := rfl
    conv => lhs; rw [e2, ← Nat.and_assoc]
    rw [Nat.and_two_pow_sub_one_eq_mod n.toNat 4]
  have h : n.toNat &&& (8 : Int).toNat = n.toNat / 8 % 2 * 8 := by
    show n.toNat &&& 8 = _
    rw [e1, h16 ⟨n.toNat % 16, by omega⟩]
    show n.toNat % 16 / 8 % 2 * 8 = _
    omega
  rw [h]
  omega

def glFirst (n : Int) : Bool := n / 8 % 2 == 1
def getlineP (empty : Bool) (n n7 : Int) (f : Bool) (len : Int) (lv : Bool) : Bool :=
  empty && decide (n < 12) && decide (1 ≤ n7) && decide (n7 ≤ 3) && decide (len = (if f then 1 else 0) + (if 1 < n7 then 1 else 0)) && (!f || lv)
def getlineB (e : Ex) : Bool := getlineP e.s.toList.isEmpty e.n (e.n % 8) (glFirst e.n) e.kids.length (e.kids.head?.any fun x => lvalK x.k)

set_option maxHeartbeats 1000000 in
theorem getline_any (A : Option Addr) (c : Nat) (e : Ex) (w : World) (hn0 : 0 ≤ e.n) (hn1 : e.n ≤ 18446744073709551615) (hl : e.kids.length ≤ 140737488351232) (hk : ExsIn w w.heap.size A 0 e.kids) :
    Calls Tryd.prog 30 #[exV A c e] w fun r w' => r = .returned (.bool (getlineB e)) ∧ Below w.heap.size w w' := by
  obtain ⟨k, s, n, kids⟩ := e
  simp only [Ex.n, Ex.kids] at hn0 hn1 hl hk
  obtain ⟨v, hv⟩ : ∃ v, v = getlineB (.mk k s n kids) := ⟨_, rfl⟩
  rw [← hv]
  unfold exV
  unfold getlineB at hv
  simp only [Ex.k, Ex.s, Ex.n, Ex.kids] at hv ⊢
  have a7 := and7 n hn0 hn1
  have a8 := and8 n hn0 hn1
  by_cases hf : glFirst n = true
  · have hb8 : bits .and .u64 n 8 = 8 := by rw [a8]; unfold glFirst at hf; have := beq_iff_eq.1 hf; omega
    rw [hf] at hv
    obtain ⟨n7, h7e⟩ : ∃ x, x = n % 8 := ⟨_, rfl⟩
    have h7 : 0 ≤ n7 ∧ n7 ≤ 7 := by omega
    rw [← h7e] at a7 hv
    have HV := Lib.hid hv
    clear hf a8 h7e hv
    cases kids with
    | nil =>
      clear hk
      by_cases h1 : 1 < n7
      all_goals
        go_enter Tryd.func30, Tryd.ntmps30
        go_wp2_with fail
        go_quiet (fail)
        go_wp2_with fail
        all_goals
          go_ret
          refine ⟨ret_bool ?_, (below_drewN ((Below.refl _ _).alloc (Nat.le_refl _) _) _)⟩
          rw [HV.out]
          simp [getlineP, *] <;> (try intros) <;> (try omega)
    | cons e0 ks =>
      obtain ⟨b, o, rfl, hb, h0⟩ := hk.at_ 0 (by simp)
      obtain ⟨k0, s0, n0, l0⟩ := e0
      simp only [List.getElem_cons_zero, ExIn, Nat.zero_add, Nat.zero_mul, Nat.add_zero] at h0
      obtain ⟨_, A0, c0, c1, c2, c3, c4, _⟩ := h0
      have d1 := fun ob => (alloc_cells (w := w) ob b o hb).trans c1
      have d2 := fun ob => (alloc_cells (w := w) ob b (o + 1) hb).trans c2
      have d3 := fun ob => (alloc_cells (w := w) ob b (o + 2) hb).trans c3
      have d4 := fun ob => (alloc_cells (w := w) ob b (o + 3) hb).trans c4
      clear hk hb c1 c2 c3 c4
      simp only [List.length_cons] at hl ⊢
      by_cases h1 : 1 < n7
      all_goals
        go_enter Tryd.func30, Tryd.ntmps30
        go_wp2_with fail
        go_quiet (fail)
        go_wp2_with (go_at_call 31; ((with_reducible refine (lvalue_any k0 s0 n0 _ _).mono ?_); rintro e w1 ⟨rfl, hB⟩))
        all_goals
          go_ret
          refine ⟨ret_bool ?_, ?_⟩
          · rw [HV.out]
            simp [getlineP, Ex.k, *] <;> (try intros) <;> (try omega)
          · first
              | exact (below_drewN ((Below.refl _ _).alloc (Nat.le_refl _) _) _)
              | exact (below_drewN ((Below.refl _ _).alloc (Nat.le_refl _) _) _).trans (hB.mono (by simp))
  · have hb8 : bits .and .u64 n 8 = 0 := by rw [a8]; unfold glFirst at hf; simp at hf; omega
    rw [Bool.eq_false_iff.2 hf] at hv
    obtain ⟨n7, h7e⟩ : ∃ x, x = n % 8 := ⟨_, rfl⟩
    have h7 : 0 ≤ n7 ∧ n7 ≤ 7 := by omega
    rw [← h7e] at a7 hv
    have HV := Lib.hid hv
    clear hf a8 hk h7e hv
    by_cases h1 : 1 < n7
    all_goals
      go_enter Tryd.func30, Tryd.ntmps30
      go_wp2_with fail
      go_quiet (fail)
      go_wp2_with fail
      all_goals
        go_ret
        refine ⟨ret_bool ?_, (below_drewN ((Below.refl _ _).alloc (Nat.le_refl _) _) _)⟩
        rw [HV.out]
        simp [getlineP, *] <;> (try intros) <;> first | omega | (split <;> omega) | (have hp := List.length_pos_iff.2 ‹¬ kids = []›; split <;> omega)

/-- May a pattern be? -/
def patternF : Nat → Bytes → Bool
  | 0, _ => true
  | _ + 1, [] => true
  | f + 1, b :: r =>
    if b = 10 then false
    else if b ≠ 92 then patternF f r
    else match r with
      | [] => false
      | c :: r' => if c = 47 ∨ c = 10 then false else patternF f r'
def patternB (l : Bytes) : Bool := patternF (l.length + 1) l
theorem patternF_any : ∀ (f g : Nat) (l : Bytes), l.length < f → l.length < g → patternF f l = patternF g l
  | 0, _, l, h, _ => absurd h (by omega)
  | _, 0, l, _, h => absurd h (by omega)
  | f + 1, g + 1, [], _, _ => rfl
  | f + 1, g + 1, [b], h1, h2 => by
    simp only [patternF]
    split
    · rfl
    · split
      · exact patternF_any f g _ (by simp at *; omega) (by simp at *; omega)
      · rfl
  | f + 1, g + 1, b :: c :: r, h1, h2 => by
    simp only [patternF]
    split
    · rfl
    · split
      · exact patternF_any f g _ (by simp at *; omega) (by simp at *; omega)
      · split
        · rfl
        · exact patternF_any f g _ (by simp at *; omega) (by simp at *; omega)
theorem patternB_nil : patternB [] = true := rfl
theorem patternB_cons (b : UInt8) (r : Bytes) : patternB (b :: r) = if b = 10 then false else if b ≠ 92 then patternB r else match r with | [] => false | c :: r' => if c = 47 ∨ c = 10 then false else patternB r' := by
  cases r with
  | nil => rfl
  | cons c r' =>
    show patternF (r'.length + 1 + 1 + 1) (b :: c :: r') = _
    simp only [patternF]
    have h1 : patternF (r'.length + 1 + 1) (c :: r') = patternB (c :: r') := rfl
    have h2 : patternF (r'.length + 1 + 1) r' = patternB r' := patternF_any _ _ _ (by omega) (by omega)
    rw [h2]
    by_cases h10 : b = 10
    · simp [h10]
    · by_cases h92 : b = 92
      · simp [h92]
      · simp only [h10, h92, if_false, ne_eq, not_false_eq_true, if_true]
        exact h1

theorem pat_nl (r : ByteArray) (h : 0 < r.size) (hb : ((r[0].toNat : Int) == 10) = true) : patternB r.data.toList = false := by
  rw [cons_of r h, patternB_cons, if_pos (show r[0] = 10 from (u8_eq _ 10 (by omega)).2 (beq_iff_eq.1 hb))]
theorem pat_plain (r : ByteArray) (h : 0 < r.size) (hb : ((r[0].toNat : Int) == 10) = false) (hc : ((r[0].toNat : Int) != 92) = true) : patternB r.data.toList = patternB (r.extract 1 r.size).data.toList := by
  rw [ext_end, cons_of r h, patternB_cons, if_neg (show ¬ r[0] = 10 from fun e => beq_eq_false_iff_ne.1 hb ((u8_eq _ 10 (by omega)).1 e)), if_pos (show r[0] ≠ 92 from fun e => bne_iff_ne.1 hc ((u8_eq _ 92 (by omega)).1 e))]
  rfl
theorem pat_end (r : ByteArray) (h : r.size = 1) (hc : ((r[0].toNat : Int) != 92) = false) : patternB r.data.toList = false := by
  have h92 : r[0] = 92 := (u8_eq _ 92 (by omega)).2 (by simpa using hc)
  have hn : r.data.toList.drop 1 = [] := List.drop_eq_nil_of_le (by simp; omega)
  rw [cons_of r (by omega), hn, h92]
  rfl
theorem pat_two (r : ByteArray) (h : 1 < r.size) (hc : ((r[0].toNat : Int) != 92) = false) : patternB r.data.toList = if (r[1].toNat : Int) = 47 ∨ (r[1].toNat : Int) = 10 then false else patternB (r.extract 2 r.size).data.toList := by
  have h92 : r[0] = 92 := (u8_eq _ 92 (by omega)).2 (by simpa using hc)
  rw [ext_end, cons_of2 r h, h92, patternB_cons, if_neg (by decide), if_neg (by decide)]
  by_cases h1 : r[1] = 47 ∨ r[1] = 10
  · have h2 : (r[1].toNat : Int) = 47 ∨ (r[1].toNat : Int) = 10 := h1.imp (fun e => (u8_eq _ 47 (by omega)).1 e) (fun e => (u8_eq _ 10 (by omega)).1 e)
    simp only [h1, h2, if_true]
  · have h2 : ¬ ((r[1].toNat : Int) = 47 ∨ (r[1].toNat : Int) = 10) := fun e => h1 (e.imp (fun e => (u8_eq _ 47 (by omega)).2 e) (fun e => (u8_eq _ 10 (by omega)).2 e))
    simp only [h1, h2, if_false]
    rfl
theorem pat_nil (r : ByteArray) (h : ¬ 0 < r.size) : patternB r.data.toList = true := by
  have : r.data.toList = [] := List.eq_nil_of_length_eq_zero (by rw [data_len]; omega)
  rw [this]
  rfl

set_option maxHeartbeats 1000000 in
theorem pattern_any (s : ByteArray) (hs : s.size ≤ 140737488351232) (w : World) :
    Calls Tryd.prog 29 #[.string s] w fun r w' => r = .returned (.bool (patternB s.data.toList)) ∧ w = w' := by
  obtain ⟨v, hv⟩ : ∃ v, v = patternB s.data.toList := ⟨_, rfl⟩
  rw [← hv]
  have HV := Lib.hid hv
  clear hv
  go_enter Tryd.func29, Tryd.ntmps29
  go_wp2_with fail
  go_loop [0] (fun x => ∃ r : ByteArray, x = .string r ∧ r.size ≤ 140737488351232 ∧ v = patternB r.data.toList) (fun x => sizeOfV x)
  case atStart => exact ⟨s, rfl, hs, HV.out⟩
  case round =>
    obtain ⟨r, rfl, hr, hv⟩ := hrel
    have HR := Lib.hid hv
    clear hv
    go_wp2_with fail
    · have h := HR.out
      rw [pat_nl r (by assumption) (by assumption)] at h
      go_ret
      exact ⟨ret_bool h.symm, rfl⟩
    · have h := HR.out
      rw [pat_plain r (by assumption) (by assumption) (by assumption)] at h
      go_round
      case rel => exact ⟨_, rfl, by rw [ByteArray.size_extract]; omega, h⟩
      case measure => simp only [sizeOfV]; rw [ByteArray.size_extract]; omega
    · have h := HR.out
      rw [pat_end r (by omega) (by assumption)] at h
      go_ret
      exact ⟨ret_bool h.symm, rfl⟩
    · have h := HR.out
      rw [pat_two r (by omega) (by assumption), if_pos (Or.inl (by assumption))] at h
      go_ret
      exact ⟨ret_bool h.symm, rfl⟩
    · have h := HR.out
      have ho : (r[1].toNat : Int) = 10 := by
        rcases (‹(_ ∨ _) ∨ _› : ((((r.size : Int) == 1) = true) ∨ ((r[1].toNat : Int) == 47) = true) ∨ ((r[1].toNat : Int) == 10) = true) with (e | e) | e
        · exact absurd (beq_iff_eq.1 e) (by omega)
        · exact absurd (beq_iff_eq.1 e) (by assumption)
        · exact beq_iff_eq.1 e
      rw [pat_two r (by omega) (by assumption), if_pos (Or.inr ho)] at h
      go_ret
      exact ⟨ret_bool h.symm, rfl⟩
    · have h := HR.out
      have ho : ¬ ((r[1].toNat : Int) = 47 ∨ (r[1].toNat : Int) = 10) := by
        have hh := (‹(_ ∧ _) ∧ _› : ((((r.size : Int) == 1) = false) ∧ ((r[1].toNat : Int) == 47) = false) ∧ ((r[1].toNat : Int) == 10) = false)
        rintro (e | e)
        · exact beq_eq_false_iff_ne.1 hh.1.2 e
        · exact beq_eq_false_iff_ne.1 hh.2 e
      rw [pat_two r (by omega) (by assumption), if_neg ho] at h
      go_round
      case rel => exact ⟨_, rfl, by rw [ByteArray.size_extract]; omega, h⟩
      case measure => simp only [sizeOfV]; rw [ByteArray.size_extract]; omega
    · have h := HR.out
      rw [pat_nil r (by assumption)] at h
      go_ret
      exact ⟨ret_bool h.symm, rfl⟩
end Go.Proofs.YtdmiakfgemeelaaDoor
