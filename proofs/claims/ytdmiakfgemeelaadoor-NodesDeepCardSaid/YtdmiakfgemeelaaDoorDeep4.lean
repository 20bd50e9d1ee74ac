/- NodesDeep: the gathered statements as a list in memory. -/
import Derived.Test.YtdmiakfgemeelaaDoorDeep2
namespace Go.Proofs.YtdmiakfgemeelaaDoor
set_option linter.unusedSimpArgs false
set_option linter.unusedVariables false
open Go.RowKit

def nextCells : List Value := [.int .u8 11, .string ⟨#[]⟩, .int .i64 0, .slice none 0 0, .slice none 0 0, .slice none 0 0, .int .i64 0]
def manyCells (i : Nat) : List Value := (List.replicate i nextCells).flatten
theorem many_at : ∀ (i j r : Nat), j < i → r < 7 → (manyCells i)[j * 7 + r]? = nextCells[r]?
  | 0, _, _, h, _ => by omega
  | i + 1, 0, r, _, hr => by
    have : manyCells (i + 1) = nextCells ++ manyCells i := by simp [manyCells, List.replicate_succ]
    rw [this, List.getElem?_append_left (by show 0 * 7 + r < 7; omega)]
    simp
  | i + 1, j + 1, r, hj, hr => by
    have : manyCells (i + 1) = nextCells ++ manyCells i := by simp [manyCells, List.replicate_succ]
    have hl : nextCells.length = 7 := rfl
    rw [this, List.getElem?_append_right (by omega), show (j + 1) * 7 + r - nextCells.length = j * 7 + r by rw [hl]; omega]
    exact many_at i j r (by omega) hr

theorem many_sts {W : World} {B g i : Nat} (hg : g < B) (hc : ∀ j r, j < i → r < 7 → W.cell? ⟨g, j * 7 + r, none⟩ = nextCells[r]?) : ∀ (m k : Nat), k + m = i → StsIn W B (some ⟨g, 0, none⟩) k (List.replicate m nextS)
  | 0, _, _ => by simp only [List.replicate_zero, StsIn]
  | m + 1, k, h => by
    rw [List.replicate_succ]
    simp only [StsIn, nextS, StIn]
    have c := fun r hr => hc k r (by omega) hr
    refine ⟨⟨g, 0, rfl, hg, ⟨by omega, by omega, by show (0 : Nat) ≤ _; omega, by omega, by omega, by show (0 : Nat) ≤ _; omega, by show (0 : Nat) ≤ _; omega, by show (0 : Nat) ≤ _; omega⟩, none, 0, none, 0, none, 0, ?_, ?_, ?_, ?_, ?_, ?_, ?_, by simp only [ExsIn], trivial, trivial⟩, many_sts hg hc m (k + 1) (by omega)⟩
    · rw [Nat.zero_add]; exact c 0 (by omega)
    · rw [Nat.zero_add]; exact c 1 (by omega)
    · rw [Nat.zero_add]; exact c 2 (by omega)
    · rw [Nat.zero_add]; exact c 3 (by omega)
    · rw [Nat.zero_add]; exact c 4 (by omega)
    · rw [Nat.zero_add]; exact c 5 (by omega)
    · rw [Nat.zero_add]; exact c 6 (by omega)

theorem many_in {W : World} {B : Nat} {t : TypeId} {v : Value} {i : Nat} (h : W.ownsRow B t 7 v i (manyCells i)) : ∃ A c, v = .slice A i c ∧ StsIn W W.heap.size A 0 (List.replicate i nextS) := by
  obtain ⟨_, ⟨rfl, rfl⟩ | ⟨g, cap, cur, rfl, hg, hw, h1, h2, h3, h4⟩⟩ := h
  · exact ⟨none, 0, rfl, by simp only [List.replicate_zero, StsIn]⟩
  · have hb : Blk W g t cur := hw
    refine ⟨_, _, rfl, many_sts (i := i) hb.lt (fun j r hj hr => ?_) i 0 (by omega)⟩
    rw [hb.cell, ← many_at i j r hj hr, ← h4, List.getElem?_take_of_lt (by omega), Array.getElem?_toList]
end Go.Proofs.YtdmiakfgemeelaaDoor
