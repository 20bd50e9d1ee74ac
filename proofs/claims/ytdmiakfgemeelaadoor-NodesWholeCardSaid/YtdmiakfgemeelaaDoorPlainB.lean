/- The chapter's examples, reckoned. No program is in sight. -/
import Derived.Test.YtdmiakfgemeelaaDoorRight2
namespace Go.Proofs.YtdmiakfgemeelaaDoor
set_option linter.unusedSimpArgs false
set_option linter.unusedVariables false
open Go.RowKit

def numX : Ex := .mk 1 ⟨#[]⟩ 0 []
def binX (s : ByteArray) : Ex := .mk 16 s 0 [numX, numX]
theorem awake1 : exprB (binX ⟨#[43]⟩) = true := by decide +kernel
theorem awake2 : exprB (binX ⟨#[43, 43]⟩) = false := by decide +kernel
theorem awake3 : exprB (.mk 4 ⟨#[105, 110]⟩ 0 []) = false := by decide +kernel
theorem awake4 : exprB (.mk 3 ⟨#[97, 92]⟩ 0 []) = false := by decide +kernel
theorem awake5 : rightB [⟨1, ⟨#[]⟩, [], [], false, [.mk 7 ⟨#[]⟩ 2 [numX] [] [] 0], 0⟩] = true := by decide +kernel
theorem awake6 : rightB [⟨3, ⟨#[]⟩, [], [], false, [], 0⟩] = false := by decide +kernel
end Go.Proofs.YtdmiakfgemeelaaDoor
