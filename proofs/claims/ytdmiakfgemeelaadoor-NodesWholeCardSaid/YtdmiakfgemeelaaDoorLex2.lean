/- Contracts of lex.pass, lex.Line, lex.number. -/
import Derived.Test.YtdmiakfgemeelaaDoorLex1
import Derived.Test.YtdmiakfgemeelaaDoorLexSpec
import Derived.Test.YtdmiakfgemeelaaDoorShelf
namespace Go.Proofs.YtdmiakfgemeelaaDoor
set_option linter.unusedSimpArgs false
set_option linter.unusedVariables false
open Go.RowKit

theorem hp_at (s p : ByteArray) (k : Nat) (w : World) : Calls Tryd.prog 47 #[.string (s.extract k s.size), .string p] w fun e w' => e = .returned (.bool (Lib.hasPrefix (s.data.toList.drop k) p.data.toList)) ∧ w = w' :=
  (Tryd.strings_HasPrefix (s.extract k s.size) p w).mono fun e w' ⟨h1, h2⟩ => ⟨by rw [h1, ext_end], h2.symm⟩
theorem run_at (F : Nat) (p : UInt8 → Bool) (hk : Asks F p) (s : ByteArray) (hs : s.size ≤ 140737488351232) (k : Nat) (w : World) :
    Calls Tryd.prog 48 #[.string (s.extract k s.size), .func (.func F) #[] #[]] w fun e w' => e = .returned (.int .i64 (((s.data.toList.drop k).takeWhile p).length : Nat)) ∧ w = w' :=
  (run_any F p hk (s.extract k s.size) (by simp [ByteArray.size_extract]; omega) w).mono fun e w' ⟨h1, h2⟩ => ⟨by rw [h1, ext_end], h2⟩

set_option maxHeartbeats 800000 in
theorem pass_any (s : ByteArray) (hs : s.size ≤ 140737488351232) (w : World) :
    Calls Tryd.prog 43 #[.string s] w fun e w' => e = .returned (.int .i64 (passL s.data.toList : Nat)) ∧ w = w' := by
  have Hs := Lib.hid hs

  have hl := data_len s
  have HL := Lib.hid hl
  clear hl
  go_enter Tryd.func43, Tryd.ntmps43
  go_wp2_with fail
  go_loop [3] (fun i => ∃ k : Nat, k ≤ s.size ∧ i = .int .i64 k ∧ k + passL (s.data.toList.drop k) = passL s.data.toList) (fun i => s.size - (intOf i).toNat)
  case atStart => exact ⟨0, Nat.zero_le _, rfl, by simp⟩
  case round =>
    obtain ⟨k, hle, rfl, hp⟩ := hrel
    have HP := Lib.hid hp
    clear hp
    have q1 : (List.takeWhile notLine (List.drop k s.data.toList)).length ≤ s.size := Nat.le_trans (tw_le _ _) (by rw [← HL.out]; simp)
    have q2 : (List.takeWhile isBlank (List.drop k s.data.toList)).length ≤ s.size := Nat.le_trans (tw_le _ _) (by rw [← HL.out]; simp)
    go_wp2_with (first
      | (go_at_call 47; ((with_reducible refine (hp_at s _ k _).mono ?_); rintro e w' ⟨rfl, rfl⟩))
      | (go_at_call 48; ((with_reducible refine (run_at 49 _ notLine_asks s Hs.out k _).mono ?_); rintro e w' ⟨rfl, rfl⟩))
      | (go_at_call 48; ((with_reducible refine (run_at 50 _ blank_asks s Hs.out k _).mono ?_); rintro e w' ⟨rfl, rfl⟩)))
    · have hh := pass_esc HP.out (by assumption)
      rw [HL.out] at hh
      go_round
      case rel => exact ⟨k + 2, by omega, by go_num, hh.2⟩
      case measure => simp [intOf]; omega
    · have hh := pass_hash HP.out (by assumption) (by assumption)
      rw [HL.out] at hh
      go_round
      case rel => exact ⟨k + _, by omega, by go_num, hh.2.2⟩
      case measure => simp [intOf]; omega
    · have hh := pass_out HP.out (by assumption) (by assumption) (by have h := beq_iff_eq.1 ‹(_ == (0 : Int)) = true›; omega)
      go_ret
      exact ⟨ret_int (by rw [hh]), rfl⟩
    · have hc := beq_eq_false_iff_ne.1 ‹(_ == (0 : Int)) = false›
      have hh := pass_blank HP.out (by assumption) (by assumption) (by omega)
      rw [HL.out] at hh
      go_round
      case rel => exact ⟨k + _, by omega, by go_num, hh.2⟩
      case measure => simp [intOf]; omega

theorem Line_any (s : ByteArray) (k : Nat) (hs : s.size ≤ 140737488351232) (hk : k ≤ s.size) (w : World) :
    Calls Tryd.prog 44 #[.string s, .int .i64 k] w fun e w' => e = .returned (.int .i64 ((1 + (s.data.toList.take k).count 10 : Nat))) ∧ w = w' := by
  have h1 : (s.data.toList.take k).count 10 ≤ k := Nat.le_trans (List.count_le_length) (List.length_take_le _ _)

  have H := Lib.hid (fun W => (Tryd.strings_Count_one (s.extract 0 k) 10 W))
  have e1 : (s.extract 0 k).data.toList = s.data.toList.take k := by rw [ext_mid]; simp
  rw [e1] at H
  clear e1
  unfold Lib.countByte at H
  go_enter Tryd.func44, Tryd.ntmps44
  go_wp2_with (go_at_call 51; ((with_reducible refine (H.out _).mono ?_); rintro e w' ⟨rfl, rfl⟩))
  go_ret
  exact ⟨ret_int (by omega), rfl⟩
end Go.Proofs.YtdmiakfgemeelaaDoor
