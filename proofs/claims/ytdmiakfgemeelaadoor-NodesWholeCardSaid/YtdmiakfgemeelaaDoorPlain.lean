/- Plain lemmas on lists and bytes: no program is in sight. -/
import Derived.RowKit
import Derived.Below
import Derived.Lib.Hide
import Derived.Lib.Strings
import Derived.Lib.IndexBytes
namespace Go.Proofs.YtdmiakfgemeelaaDoor
set_option linter.unusedSimpArgs false
set_option linter.unusedVariables false
open Go.RowKit

abbrev Bytes := List UInt8

theorem ret_int {k : IntKind} {a b : Int} (h : a = b) : Ending.returned (.int k a) = .returned (.int k b) := by rw [h]
theorem ret_bool {a b : Bool} (h : a = b) : Ending.returned (.bool a) = .returned (.bool b) := by rw [h]

theorem below_cells {B : Nat} {W w1 : World} (hb : Below B W w1) :
    (∀ b o, b < B → w1.cell? ⟨b, o, none⟩ = W.cell? ⟨b, o, none⟩) ∧ (∀ b o, b < B → w1.frozen? ⟨b, o, none⟩ = W.frozen? ⟨b, o, none⟩) :=
  ⟨fun b o h => hb.cell (p := ⟨b, o, none⟩) h, fun b o h => hb.frozen (p := ⟨b, o, none⟩) h⟩

theorem ge_data (s : ByteArray) (k : Nat) (h : k < s.size) : s[k] = s.data.toList[k]'(by simpa using h) := rfl
theorem data_len (s : ByteArray) : s.data.toList.length = s.size := by simp

theorem tw_step {p : UInt8 → Bool} {l : Bytes} {k : Nat} (ha : (l.take k).all p = true) (hk : k < l.length) (hp : p l[k] = true) : (l.take (k + 1)).all p = true := by
  rw [List.take_succ_eq_append_getElem hk, List.all_append, ha]; simp [hp]
theorem tw_stop {p : UInt8 → Bool} : ∀ {l : Bytes} {k : Nat}, (l.take k).all p = true → (hk : k < l.length) → p l[k] = false → (l.takeWhile p).length = k
  | [], k, _, hk, _ => by simp at hk
  | b :: l, 0, _, _, hp => by simp at hp; simp [hp]
  | b :: l, k + 1, ha, hk, hp => by
    simp at ha hk hp
    have := tw_stop (l := l) (k := k) (by simpa using ha.2) hk hp
    simp [ha.1, this]
theorem tw_end {p : UInt8 → Bool} {l : Bytes} {k : Nat} (ha : (l.take k).all p = true) (hk : l.length ≤ k) : (l.takeWhile p).length = l.length := by
  rw [List.take_of_length_le hk] at ha
  have h2 : ∀ l : Bytes, l.all p = true → l.takeWhile p = l := by
    intro l
    induction l with
    | nil => simp
    | cons x l ih => intro h; simp at h; simp [h.1, List.takeWhile_cons]; exact ih (by simpa using h.2)
  rw [h2 l ha]

def isDigit (b : UInt8) : Bool := 48 ≤ b && b ≤ 57
def isLetter (b : UInt8) : Bool := (97 ≤ b && b ≤ 122) || (65 ≤ b && b ≤ 90) || b == 95
def isBlank (b : UInt8) : Bool := b == 32 || b == 9 || b == 13
def notLine (b : UInt8) : Bool := !(b == 10)
def isWordByte (b : UInt8) : Bool := isLetter b || isDigit b

theorem u8_eq (b : UInt8) (n : Nat) (h : n < 256) : (b = UInt8.ofNat n) ↔ ((b.toNat : Int) = n) := by
  rw [← UInt8.toNat_inj, UInt8.toNat_ofNat']; omega
theorem isDigit_iff (b : UInt8) : isDigit b = true ↔ (48 ≤ (b.toNat : Int) ∧ (b.toNat : Int) ≤ 57) := by
  unfold isDigit; simp [UInt8.le_iff_toNat_le]; omega
theorem isLetter_iff (b : UInt8) : isLetter b = true ↔ ((97 ≤ (b.toNat : Int) ∧ (b.toNat : Int) ≤ 122) ∨ (65 ≤ (b.toNat : Int) ∧ (b.toNat : Int) ≤ 90) ∨ (b.toNat : Int) = 95) := by
  unfold isLetter; simp [UInt8.le_iff_toNat_le, ← UInt8.toNat_inj]; omega
theorem isBlank_iff (b : UInt8) : isBlank b = true ↔ ((b.toNat : Int) = 32 ∨ (b.toNat : Int) = 9 ∨ (b.toNat : Int) = 13) := by
  unfold isBlank; simp [← UInt8.toNat_inj]; omega
theorem notLine_iff (b : UInt8) : notLine b = true ↔ ¬ (b.toNat : Int) = 10 := by
  unfold notLine; simp [← UInt8.toNat_inj]; omega
end Go.Proofs.YtdmiakfgemeelaaDoor
