/- What the functions of package lex compute, as plain functions on lists of bytes. No program is in sight. -/
import Derived.Test.YtdmiakfgemeelaaDoorPlain
namespace Go.Proofs.YtdmiakfgemeelaaDoor
set_option linter.unusedSimpArgs false
set_option linter.unusedVariables false
open Go.RowKit

theorem ext_end (s : ByteArray) (k : Nat) : (s.extract k s.size).data.toList = s.data.toList.drop k := by
  rw [Lib.extract_data, List.take_of_length_le (by simp)]
theorem ext_mid (s : ByteArray) (a b : Nat) : (s.extract a b).data.toList = (s.data.toList.drop a).take (b - a) := Lib.extract_data s a b

/-! ### pass -/
def passF : Nat → Bytes → Nat
  | 0, _ => 0
  | f + 1, l =>
    if Lib.hasPrefix l [92, 10] then 2 + passF f (l.drop 2)
    else if Lib.hasPrefix l [35] then (l.takeWhile notLine).length + passF f (l.drop (l.takeWhile notLine).length)
    else if (l.takeWhile isBlank).length = 0 then 0
    else (l.takeWhile isBlank).length + passF f (l.drop (l.takeWhile isBlank).length)
def passL (l : Bytes) : Nat := passF (l.length + 1) l

theorem hp2 {l : Bytes} {a b : UInt8} (h : Lib.hasPrefix l [a, b] = true) : 2 ≤ l.length := by
  unfold Lib.hasPrefix at h
  have := (List.isPrefixOf_iff_prefix.1 h).length_le
  simpa using this
theorem hp1 {l : Bytes} {a : UInt8} (h : Lib.hasPrefix l [a] = true) : ∃ r, l = a :: r := by
  unfold Lib.hasPrefix at h
  obtain ⟨r, hr⟩ := List.isPrefixOf_iff_prefix.1 h
  exact ⟨r, by simp [← hr]⟩
theorem hash_pos {l : Bytes} (h : Lib.hasPrefix l [35] = true) : 1 ≤ (l.takeWhile notLine).length := by
  obtain ⟨r, rfl⟩ := hp1 h
  have h : notLine 35 = true := by decide
  rw [List.takeWhile_cons, if_pos h]
  simp
theorem tw_le (p : UInt8 → Bool) (l : Bytes) : (l.takeWhile p).length ≤ l.length := (List.takeWhile_sublist p).length_le

theorem passF_any : ∀ (f g : Nat) (l : Bytes), l.length < f → l.length < g → passF f l = passF g l
  | 0, _, l, h, _ => absurd h (by omega)
  | _, 0, l, _, h => absurd h (by omega)
  | f + 1, g + 1, l, h1, h2 => by
    simp only [passF]
    by_cases a : Lib.hasPrefix l [92, 10] = true
    · have := hp2 a
      rw [if_pos a, if_pos a, passF_any f g _ (by simp; omega) (by simp; omega)]
    rw [if_neg a, if_neg a]
    by_cases b : Lib.hasPrefix l [35] = true
    · have := hash_pos b
      have := tw_le notLine l
      rw [if_pos b, if_pos b, passF_any f g _ (by simp; omega) (by simp; omega)]
    rw [if_neg b, if_neg b]
    by_cases c : (l.takeWhile isBlank).length = 0
    · rw [if_pos c, if_pos c]
    · have := tw_le isBlank l
      rw [if_neg c, if_neg c, passF_any f g _ (by simp; omega) (by simp; omega)]
theorem passL_eq (l : Bytes) : passL l =
    if Lib.hasPrefix l [92, 10] then 2 + passL (l.drop 2)
    else if Lib.hasPrefix l [35] then (l.takeWhile notLine).length + passL (l.drop (l.takeWhile notLine).length)
    else if (l.takeWhile isBlank).length = 0 then 0
    else (l.takeWhile isBlank).length + passL (l.drop (l.takeWhile isBlank).length) := by
  have key : ∀ k, 1 ≤ k → k ≤ l.length → passF l.length (l.drop k) = passL (l.drop k) := fun k h1 h2 =>
    passF_any _ _ _ (by simp; omega) (by simp)
  show passF (l.length + 1) l = _
  simp only [passF]
  by_cases a : Lib.hasPrefix l [92, 10] = true
  · rw [if_pos a, if_pos a, key 2 (by omega) (hp2 a)]
  rw [if_neg a, if_neg a]
  by_cases b : Lib.hasPrefix l [35] = true
  · rw [if_pos b, if_pos b, key _ (hash_pos b) (tw_le _ _)]
  rw [if_neg b, if_neg b]
  by_cases c : (l.takeWhile isBlank).length = 0
  · rw [if_pos c, if_pos c]
  · rw [if_neg c, if_neg c, key _ (by omega) (tw_le _ _)]
theorem passL_le (l : Bytes) : passL l ≤ l.length := by
  have key : ∀ (f : Nat) (l : Bytes), passF f l ≤ l.length := by
    intro f
    induction f with
    | zero => intro l; simp [passF]
    | succ f ih =>
      intro l
      simp only [passF]
      split
      · rename_i a; have := hp2 a; have := ih (l.drop 2); simp at this; omega
      · split
        · have := tw_le notLine l; have := ih (l.drop (l.takeWhile notLine).length); simp at this; omega
        · split
          · omega
          · have := tw_le isBlank l; have := ih (l.drop (l.takeWhile isBlank).length); simp at this; omega
  exact key _ l
/-- A round of the loop: the three ways on, and the way out. -/
theorem pass_esc {l : Bytes} {k : Nat} (h : k + passL (l.drop k) = passL l) (a : Lib.hasPrefix (l.drop k) [92, 10] = true) : k + 2 ≤ l.length ∧ (k + 2) + passL (l.drop (k + 2)) = passL l := by
  have h2 := hp2 a
  rw [passL_eq, if_pos a, List.drop_drop] at h
  simp at h2
  exact ⟨by omega, by omega⟩
theorem pass_hash {l : Bytes} {k : Nat} (h : k + passL (l.drop k) = passL l) (a : Lib.hasPrefix (l.drop k) [92, 10] = false) (b : Lib.hasPrefix (l.drop k) [35] = true) :
    1 ≤ ((l.drop k).takeWhile notLine).length ∧ k + ((l.drop k).takeWhile notLine).length ≤ l.length ∧ (k + ((l.drop k).takeWhile notLine).length) + passL (l.drop (k + ((l.drop k).takeWhile notLine).length)) = passL l := by
  have h1 := hash_pos b
  have h2 := tw_le notLine (l.drop k)
  rw [passL_eq, a, if_neg (by simp), if_pos b, List.drop_drop] at h
  simp at h2
  exact ⟨h1, by omega, by omega⟩
theorem pass_blank {l : Bytes} {k : Nat} (h : k + passL (l.drop k) = passL l) (a : Lib.hasPrefix (l.drop k) [92, 10] = false) (b : Lib.hasPrefix (l.drop k) [35] = false) (c : ¬ ((l.drop k).takeWhile isBlank).length = 0) :
    k + ((l.drop k).takeWhile isBlank).length ≤ l.length ∧ (k + ((l.drop k).takeWhile isBlank).length) + passL (l.drop (k + ((l.drop k).takeWhile isBlank).length)) = passL l := by
  have h2 := tw_le isBlank (l.drop k)
  rw [passL_eq, a, if_neg (by simp), b, if_neg (by simp), if_neg c, List.drop_drop] at h
  simp at h2
  exact ⟨by omega, by omega⟩
theorem pass_out {l : Bytes} {k : Nat} (h : k + passL (l.drop k) = passL l) (a : Lib.hasPrefix (l.drop k) [92, 10] = false) (b : Lib.hasPrefix (l.drop k) [35] = false) (c : ((l.drop k).takeWhile isBlank).length = 0) : passL l = k := by
  rw [passL_eq, a, if_neg (by simp), b, if_neg (by simp), if_pos c] at h
  omega

/-! ### number -/
def dots (l : Bytes) : Nat :=
  if Lib.hasPrefix (l.drop (l.takeWhile isDigit).length) [46] && decide (0 < (l.takeWhile isDigit).length + ((l.drop ((l.takeWhile isDigit).length + 1)).takeWhile isDigit).length) then
    (l.takeWhile isDigit).length + (1 + ((l.drop ((l.takeWhile isDigit).length + 1)).takeWhile isDigit).length)
  else (l.takeWhile isDigit).length
/-- How long the power at a text's head is (0: there is none). -/
def powerL : Bytes → Nat
  | [] => 0
  | c :: r =>
    if c ||| 32 = 101 then
      let sign := match r with | [] => 1 | d :: _ => if d = 43 ∨ d = 45 then 2 else 1
      let k := (((c :: r).drop sign).takeWhile isDigit).length
      if 0 < k then sign + k else 0
    else 0
def numberL (l : Bytes) : Nat := if dots l = 0 then 0 else dots l + powerL (l.drop (dots l))
end Go.Proofs.YtdmiakfgemeelaaDoor
