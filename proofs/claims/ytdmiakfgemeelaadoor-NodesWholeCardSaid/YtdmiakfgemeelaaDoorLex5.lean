/- The contract of lex.quoted: that it comes back. -/
import Derived.Test.YtdmiakfgemeelaaDoorLex4
import Derived.Test.YtdmiakfgemeelaaDoorShelf
import Derived.Shelf.Strings.MapGrows
namespace Go.Proofs.YtdmiakfgemeelaaDoor
set_option linter.unusedSimpArgs false
set_option linter.unusedVariables false
open Go.RowKit

def QuotedPost (s : ByteArray) (w : World) (e : Ending) (w' : World) : Prop :=
  ∃ (t : ByteArray) (k : Nat), e = .returned (.tuple #[.string t, .int .i64 k]) ∧ k ≤ s.size ∧ Below w.heap.size w w'

set_option maxRecDepth 100000 in
set_option maxHeartbeats 2000000 in
theorem quoted_any (s : ByteArray) (hs : s.size ≤ 140737488351232) (h1 : 0 < s.size) (w : World) :
    Calls Tryd.prog 57 #[.string s] w (QuotedPost s w) := by
  go_enter Tryd.func57, Tryd.ntmps57
  go_wp2_with fail
  go_loopw [6] (fun n wr => ∃ (k : Nat) (acc : List UInt8), n = .int .i64 k ∧ 1 ≤ k ∧ k ≤ s.size ∧ acc.length ≤ k ∧ Lib.IsBuilderF 125 5 w.heap.size w.heap.size (Lib.byteCells acc) wr ∧ Below w.heap.size w wr ∧ w.heap.size < wr.heap.size) (fun n _ => s.size - (intOf n).toNat)
  case atStart => exact ⟨1, [], rfl, by omega, by omega, by simp, Lib.IsBuilderF.of (Lib.fresh_isBuilder _ _ w), (Below.refl _ w).alloc (Nat.le_refl _) _, by simp⟩
  case round =>
    obtain ⟨k, acc, rfl, hk1, hk, hac, hI, hB, hz⟩ := hrel
    have HI := Lib.hid hI
    have HB := Lib.hid hB
    clear hI hB
    by_cases hlt : k < s.size
    · by_cases hlt2 : k + 1 < s.size
      · have hm : (s.extract k s.size).size ≤ 140737488351232 := by rw [ByteArray.size_extract]; omega
        have hm2 : 2 ≤ (s.extract k s.size).size := by rw [ByteArray.size_extract]; omega
        have hbl : (Lib.byteCells acc).length ≤ s.size := by rw [Lib.byteCells_length]; omega
        have hz1 : ∀ w1 : World, Below wr.heap.size wr w1 → w.heap.size ≤ w1.heap.size := fun w1 h => by have := h.size; omega
        have Hz1 := Lib.hid hz1
        clear hz1
        have Hb47 : Hid ((Lib.byteCells acc).length + (⟨#[47]⟩ : ByteArray).size ≤ 140737488355328) := by show _ + 1 ≤ _; omega
        have Hbe : Hid ((Lib.byteCells acc).length + (s.extract k (k + 2)).size ≤ 140737488355328) := by show _ ≤ _; rw [ByteArray.size_extract]; omega
        go_wp2_with (first
          | (go_at_call 65; ((with_reducible refine (Tryd.Builder_String_any_f w.heap.size w.heap.size acc wr HI.out (by omega)).mono ?_); rintro e w1 ⟨rfl, hI1, hB1⟩))
          | (go_at_call 66; ((with_reducible refine (Tryd.Builder_WriteByte_k w.heap.size w.heap.size (Lib.byteCells acc) _ wr HI.out (by omega) (by omega)).mono ?_); rintro e w1 ⟨rfl, hI1, hB1, hO1⟩))
          | (go_at_call 67; ((with_reducible refine (mark_any (s.extract k s.size) hm hm2 wr).mono ?_); rintro e w1 ⟨t, j, rfl, hj1, hj2, ht, hB1⟩))
          | (go_at_call 68; ((with_reducible refine (Tryd.Builder_WriteString_k w.heap.size w.heap.size (Lib.byteCells acc) _ _ (Lib.IsBuilderF.below HI.out hB1) (by omega) (Hz1.out _ hB1)).mono ?_); rintro e w2 ⟨rfl, hI2, hB2, hO2⟩))
          | (go_at_call 68; ((with_reducible refine (Tryd.Builder_WriteString_k w.heap.size w.heap.size (Lib.byteCells acc) ⟨#[47]⟩ wr HI.out Hb47.out (by omega)).mono ?_); rintro e w2 ⟨rfl, hI2, hB2, hO2⟩))
          | (go_at_call 68; ((with_reducible refine (Tryd.Builder_WriteString_k w.heap.size w.heap.size (Lib.byteCells acc) (s.extract k (k + 2)) wr HI.out Hbe.out (by omega)).mono ?_); rintro e w2 ⟨rfl, hI2, hB2, hO2⟩)))
        · go_ret2
          exact ⟨_, k + 1, by go_num, by omega, HB.out.trans hB1⟩
        · have hB3 := HB.out.trans hB1
          have hI3 : Lib.IsBuilderF 125 5 w.heap.size w.heap.size (Lib.byteCells (acc ++ [s[k]])) w1 := by rw [Lib.byteCells_append]; exact Or.inr hI1
          go_roundw
          case rel => exact ⟨k + 1, acc ++ [s[k]], by go_num, by omega, by omega, by simp; omega, hI3, hB3, by have := hB1.size; omega⟩
          case measure => simp [intOf]; omega
        · go_ret2
          exact ⟨_, 0, rfl, by omega, HB.out⟩
        · have hB3 := (HB.out.trans (hB1.mono (Nat.le_of_lt hz))).trans hB2
          have hI3 : Lib.IsBuilderF 125 5 w.heap.size w.heap.size (Lib.byteCells (acc ++ t.data.toList)) w2 := by rw [Lib.byteCells_append]; exact Or.inr hI2
          have e1 : (s.extract k s.size).size = s.size - k := by rw [ByteArray.size_extract]; omega
          rw [e1] at hj2
          go_roundw
          case rel => exact ⟨k + j, acc ++ t.data.toList, by go_num, by omega, by omega, by simp; omega, hI3, hB3, by have := hB1.size; have := hB2.size; omega⟩
          case measure => simp [intOf]; omega
        · have hB3 := HB.out.trans hB2
          have hI3 : Lib.IsBuilderF 125 5 w.heap.size w.heap.size (Lib.byteCells (acc ++ [47])) w2 := by rw [Lib.byteCells_append]; exact Or.inr hI2
          go_roundw
          case rel => exact ⟨k + 2, acc ++ [47], by go_num, by omega, by omega, by simp; omega, hI3, hB3, by have := hB2.size; omega⟩
          case measure => simp [intOf]; omega
        · have hB3 := HB.out.trans hB2
          have hI3 : Lib.IsBuilderF 125 5 w.heap.size w.heap.size (Lib.byteCells (acc ++ (s.extract k (k + 2)).data.toList)) w2 := by rw [Lib.byteCells_append]; exact Or.inr hI2
          go_roundw
          case rel => exact ⟨k + 2, acc ++ (s.extract k (k + 2)).data.toList, by go_num, by omega, by omega, by rw [List.length_append, data_len, ByteArray.size_extract]; omega, hI3, hB3, by have := hB2.size; omega⟩
          case measure => simp [intOf]; omega
        · go_ret2
          exact ⟨_, 0, rfl, by omega, HB.out⟩
      · go_wp2_with (first
          | (go_at_call 65; ((with_reducible refine (Tryd.Builder_String_any_f w.heap.size w.heap.size acc wr HI.out (by omega)).mono ?_); rintro e w1 ⟨rfl, hI1, hB1⟩))
          | (go_at_call 66; ((with_reducible refine (Tryd.Builder_WriteByte_k w.heap.size w.heap.size (Lib.byteCells acc) _ wr HI.out (by rw [Lib.byteCells_length]; omega) (by omega)).mono ?_); rintro e w1 ⟨rfl, hI1, hB1, hO1⟩)))
        · go_ret2
          exact ⟨_, k + 1, by go_num, by omega, HB.out.trans hB1⟩
        · have hB3 := HB.out.trans hB1
          have hI3 : Lib.IsBuilderF 125 5 w.heap.size w.heap.size (Lib.byteCells (acc ++ [s[k]])) w1 := by rw [Lib.byteCells_append]; exact Or.inr hI1
          go_roundw
          case rel => exact ⟨k + 1, acc ++ [s[k]], by go_num, by omega, by omega, by simp; omega, hI3, hB3, by have := hB1.size; omega⟩
          case measure => simp [intOf]; omega
        · go_ret2
          exact ⟨_, 0, rfl, by omega, HB.out⟩
        · go_ret2
          exact ⟨_, 0, rfl, by omega, HB.out⟩
    · go_wp2_with fail
      go_ret2
      exact ⟨_, 0, rfl, by omega, HB.out⟩
end Go.Proofs.YtdmiakfgemeelaaDoor
