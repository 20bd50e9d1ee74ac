/- The plain law of NodesDeep. No program is in sight. -/
import Derived.Test.YtdmiakfgemeelaaDoorRight2
namespace Go.Proofs.YtdmiakfgemeelaaDoor
set_option linter.unusedSimpArgs false
set_option linter.unusedVariables false
open Go.RowKit

def notN : Nat → Ex
  | 0 => .mk 1 ⟨#[]⟩ 0 []
  | k + 1 => .mk 11 ⟨#[]⟩ 0 [notN k]
def blockN : Nat → List St
  | 0 => []
  | k + 1 => [.mk 15 ⟨#[]⟩ 0 [] (blockN k) [] 0]
def nextS : St := .mk 11 ⟨#[]⟩ 0 [] [] [] 0
def itemE (e : Ex) : It := ⟨3, ⟨#[]⟩, [], [e], false, [], 0⟩
def itemS (k : Int) (l : List St) : It := ⟨k, ⟨#[]⟩, [], [], false, l, 0⟩
set_option maxRecDepth 100000
theorem deep1 : ∀ n : Fin 21, exprB (notN (49 + n.val)) = decide ((50 : Int) + n.val ≤ 60) := by decide +kernel
theorem deep2 : ∀ n : Fin 21, rightB [itemE (notN (49 + n.val))] = decide ((50 : Int) + n.val ≤ 60) := by decide +kernel
theorem deep3 : ∀ n : Fin 21, rightB [itemS 1 (blockN (50 + n.val))] = decide ((50 : Int) + n.val ≤ 60) := by decide +kernel

theorem many_size (m : Nat) : ∀ (a d : Int), 0 ≤ a → a + m ≤ 5000 → (List.replicate m nextS).foldl (wS stepE stepS 61 1) (a, d) = (a + m, if m = 0 then d else max d 1) := by
  induction m with
  | zero => intro a d _ _; simp
  | succ m ih =>
    intro a d h0 h1
    have hw : wS stepE stepS 61 1 (a, d) nextS = (a + 1, max d 1) := by
      simp only [nextS, wS, wEs, wSs, stepS, sizeStep]
      rw [show wrap64 (a + 1) = a + 1 by unfold wrap64; omega]
    rw [List.replicate_succ, List.foldl_cons, hw, ih (a + 1) _ (by omega) (by omega)]
    congr 1
    · omega
    · split <;> simp
theorem many_good (m : Nat) : (List.replicate m nextS).foldl (wS goodR goodS 60 1) true = true := by
  induction m with
  | zero => rfl
  | succ m ih =>
    have hw : wS goodR goodS 60 1 true nextS = true := by decide +kernel
    rw [List.replicate_succ, List.foldl_cons, hw, ih]
theorem deep4 (n : Nat) (hn : n ≤ 20) : rightB [itemS 2 (List.replicate (3990 + n) nextS)] = decide ((3940 : Int) + (50 + n) ≤ 4000) := by
  have h1 : sizeP [itemS 2 (List.replicate (3990 + n) nextS)] = (((3990 + n : Nat) : Int), (1 : Int)) := by
    simp only [sizeP, List.foldl_cons, List.foldl_nil, sizeIt, itemS, wEs]
    rw [wSs_le _ _ _ (by omega), many_size _ _ _ (by omega) (by omega)]
    simp
    decide
  have hi : itemB (itemS 2 (List.replicate (3990 + n) nextS)) = true := by
    have e : (⟨#[]⟩ : ByteArray).toList.isEmpty = true := by decide +kernel
    simp only [itemB, itemS, itemP, e]
    simp
  have h2 : [itemS 2 (List.replicate (3990 + n) nextS)].foldl rightIt true = true := by
    simp only [List.foldl_cons, List.foldl_nil, rightIt, hi, Bool.and_self]
    simp only [itemS, wEs]
    rw [wSs_le _ _ _ (by omega), many_good]
  rw [rightB, h1, h2]
  simp only
  by_cases h : n ≤ 10
  · rw [if_neg (by omega), decide_eq_true (by omega)]
  · rw [if_pos (by omega), decide_eq_false (by omega)]
end Go.Proofs.YtdmiakfgemeelaaDoor
