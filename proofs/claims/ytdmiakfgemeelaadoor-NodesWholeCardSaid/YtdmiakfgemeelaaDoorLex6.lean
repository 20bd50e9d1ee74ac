/- The contract of lex.one: names in full; of other tokens, that they are no names. -/
import Derived.Test.YtdmiakfgemeelaaDoorLex3
import Derived.Test.YtdmiakfgemeelaaDoorLex5
import Derived.BigQuiet
import Derived.Test.YtdmiakfgemeelaaDoorMem
import Derived.Deep.QuietTactic
namespace Go.Proofs.YtdmiakfgemeelaaDoor
set_option linter.unusedSimpArgs false
set_option linter.unusedVariables false
open Go.RowKit

def words : List Bytes := [[66, 69, 71, 73, 78], [69, 78, 68], [102, 117, 110, 99, 116, 105, 111, 110], [105, 102], [101, 108, 115, 101], [119, 104, 105, 108, 101], [102, 111, 114], [100, 111], [98, 114, 101, 97, 107], [99, 111, 110, 116, 105, 110, 117, 101], [110, 101, 120, 116], [101, 120, 105, 116], [114, 101, 116, 117, 114, 110], [100, 101, 108, 101, 116, 101], [105, 110], [112, 114, 105, 110, 116], [112, 114, 105, 110, 116, 102], [103, 101, 116, 108, 105, 110, 101], [108, 101, 110, 103, 116, 104], [115, 117, 98, 115, 116, 114], [105, 110, 100, 101, 120], [115, 112, 108, 105, 116], [115, 117, 98], [103, 115, 117, 98], [109, 97, 116, 99, 104], [115, 112, 114, 105, 110, 116, 102], [116, 111, 108, 111, 119, 101, 114], [116, 111, 117, 112, 112, 101, 114], [105, 110, 116], [115, 114, 97, 110, 100], [114, 97, 110, 100], [99, 108, 111, 115, 101], [115, 121, 115, 116, 101, 109]]
def wordCells : Array Value := (words.map fun l => Value.string ⟨l.toArray⟩).toArray

set_option maxRecDepth 100000 in
theorem words_any (w : World) : Calls Tryd.prog 55 #[] w fun e w' => e = .returned (.agg wordCells) ∧ Below w.heap.size w w' := by
  go_enter Tryd.func55, Tryd.ntmps55
  go_upto_region 1 with fail
  apply wp_region_lit
  refine wpList_buildTo rfl 104 _ rfl (some 1) rfl wordCells (by as_aux_lemma => kernel_rfl) ?_
  refine wpList_store_rowTo rfl 104 _ _ rfl rfl w.heap.size wordCells rfl rfl 104 _ (heap_alloc_new _ _) (by as_aux_lemma => kernel_rfl) (by as_aux_lemma => kernel_rfl) (by as_aux_lemma => kernel_rfl) ?_
  refine wpList_nil ?_
  go_wp2_with fail
  refine bodyPost_ret (v := .agg wordCells) (results_cell_row rfl _ _ w.heap.size 104 wordCells (0, 0) _ rfl (Blk.setRow (Blk.new _ _ _) _) Tryd.underlying104 rfl (by as_aux_lemma => kernel_rfl)) rfl ⟨rfl, ?_⟩
  exact below_setRow ((Below.refl _ _).alloc (Nat.le_refl _) _) (Nat.le_refl _) _

def signs : List Bytes := [[38, 38], [124, 124], [43, 43], [45, 45], [43, 61], [45, 61], [42, 61], [47, 61], [37, 61], [94, 61], [61, 61], [60, 61], [62, 61], [33, 61], [33, 126], [62, 62], [123], [125], [40], [41], [91], [93], [59], [44], [43], [45], [42], [47], [37], [94], [33], [62], [60], [124], [63], [58], [126], [36], [61]]
def signCells : Array Value := (signs.map fun l => Value.string ⟨l.toArray⟩).toArray

set_option maxRecDepth 100000 in
theorem signs_any (w : World) : Calls Tryd.prog 58 #[] w fun e w' => e = .returned (.agg signCells) ∧ Below w.heap.size w w' := by
  go_enter Tryd.func58, Tryd.ntmps58
  go_upto_region 1 with fail
  apply wp_region_lit
  refine wpList_buildTo rfl 108 _ rfl (some 1) rfl signCells (by as_aux_lemma => kernel_rfl) ?_
  refine wpList_store_rowTo rfl 108 _ _ rfl rfl w.heap.size signCells rfl rfl 108 _ (heap_alloc_new _ _) (by as_aux_lemma => kernel_rfl) (by as_aux_lemma => kernel_rfl) (by as_aux_lemma => kernel_rfl) ?_
  refine wpList_nil ?_
  go_wp2_with fail
  refine bodyPost_ret (v := .agg signCells) (results_cell_row rfl _ _ w.heap.size 108 signCells (0, 0) _ rfl (Blk.setRow (Blk.new _ _ _) _) Tryd.underlying108 rfl (by as_aux_lemma => kernel_rfl)) rfl ⟨rfl, ?_⟩
  exact below_setRow ((Below.refl _ _).alloc (Nat.le_refl _) _) (Nat.le_refl _) _
end Go.Proofs.YtdmiakfgemeelaaDoor
