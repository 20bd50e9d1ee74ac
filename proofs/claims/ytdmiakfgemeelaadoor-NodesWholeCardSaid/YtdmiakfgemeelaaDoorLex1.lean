/- Contracts of the small functions of package lex: the classes of bytes, and run. -/
import Derived.Test.YtdmiakfgemeelaaDoorRows
import Derived.Test.YtdmiakfgemeelaaDoorPlain
import Derived.WalkKit
import Derived.WalkSpells
import Derived.WalkLawsBesides
namespace Go.Proofs.YtdmiakfgemeelaaDoor
set_option linter.unusedSimpArgs false
set_option linter.unusedVariables false
open Go.RowKit

/-- A function value that answers a bool of a byte. -/
structure Asks (F : Nat) (p : UInt8 → Bool) : Prop where
  enter : ∀ args w, (callFunc F args).run Tryd.prog w = .ok (.enter F args) w
  calls : ∀ (b : UInt8) (w : World), Calls Tryd.prog F #[.int .u8 b.toNat] w fun e w' => e = .returned (.bool (p b)) ∧ w = w'

theorem digit_asks : Asks 54 isDigit := by
  refine ⟨Tryd.call54, fun b w => ?_⟩
  go_enter Tryd.func54, Tryd.ntmps54
  go_wp2
  all_goals
    go_ret
    refine ⟨ret_bool ?_, rfl⟩
    rw [Bool.eq_iff_iff, isDigit_iff]
    simp
    omega
theorem letter_asks : Asks 52 isLetter := by
  refine ⟨Tryd.call52, fun b w => ?_⟩
  go_enter Tryd.func52, Tryd.ntmps52
  go_wp2
  all_goals
    go_ret
    refine ⟨ret_bool ?_, rfl⟩
    rw [Bool.eq_iff_iff, isLetter_iff]
    simp
    omega
theorem blank_asks : Asks 50 isBlank := by
  refine ⟨Tryd.call50, fun b w => ?_⟩
  go_enter Tryd.func50, Tryd.ntmps50
  go_wp2
  all_goals
    go_ret
    refine ⟨ret_bool ?_, rfl⟩
    rw [Bool.eq_iff_iff, isBlank_iff]
    simp
    omega
theorem notLine_asks : Asks 49 notLine := by
  refine ⟨Tryd.call49, fun b w => ?_⟩
  go_enter Tryd.func49, Tryd.ntmps49
  go_wp2
  all_goals
    go_ret
    refine ⟨ret_bool ?_, rfl⟩
    rw [Bool.eq_iff_iff, notLine_iff]
    simp
theorem word_asks : Asks 53 isWordByte := by
  refine ⟨Tryd.call53, fun b w => ?_⟩
  have H1 := Lib.hid (letter_asks.calls b)
  have H2 := Lib.hid (digit_asks.calls b)
  go_enter Tryd.func53, Tryd.ntmps53
  go_wp2_with (first | (go_at_call 52; refine (H1.out _).mono ?_; rintro e w' ⟨rfl, rfl⟩) | (go_at_call 54; refine (H2.out _).mono ?_; rintro e w' ⟨rfl, rfl⟩))
  all_goals
    go_ret
    refine ⟨ret_bool ?_, rfl⟩
    simp [isWordByte, *]

theorem run_any (F : Nat) (p : UInt8 → Bool) (hk : Asks F p) (s : ByteArray) (hs : s.size ≤ 140737488351232) (w : World) :
    Calls Tryd.prog 48 #[.string s, .func (.func F) #[] #[]] w fun e w' => e = .returned (.int .i64 ((s.data.toList.takeWhile p).length : Nat)) ∧ w = w' := by

  obtain ⟨hF, hk⟩ := hk
  go_enter Tryd.func48, Tryd.ntmps48
  go_wp2
  go_loop [5] (fun i => ∃ k : Nat, k ≤ s.size ∧ i = .int .i64 k ∧ (s.data.toList.take k).all p) (fun i => s.size - (intOf i).toNat)
  case atStart => exact ⟨0, Nat.zero_le _, rfl, by simp⟩
  case round =>
    obtain ⟨k, hle, rfl, hall⟩ := hrel
    have HA := Lib.hid hall
    clear hall
    by_cases hlt : k < s.size
    · have H := Lib.hid (hk s[k])
      clear hk
      go_wp2_with ((with_reducible refine (H.out _).mono ?_); rintro e w' ⟨rfl, rfl⟩)
      · have hp : p s[k] = true := by assumption
        go_round
        case rel => exact ⟨k + 1, by omega, by go_num, tw_step HA.out (by simpa using hlt) hp⟩
        case measure => simp [intOf]; omega
      · have hp : p s[k] = false := by assumption
        go_ret
        exact ⟨ret_int (by rw [tw_stop HA.out (by simpa using hlt) hp]), rfl⟩
    · clear hk
      go_wp2
      go_ret
      exact ⟨ret_int (by rw [tw_end HA.out (by simp; omega)]; simp; omega), rfl⟩
end Go.Proofs.YtdmiakfgemeelaaDoor
