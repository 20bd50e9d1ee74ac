/- nodes.kinds: the map that it makes; a look into it. -/
import Derived.Test.YtdmiakfgemeelaaDoorNodes1
import Derived.Test.YtdmiakfgemeelaaDoorMaps
namespace Go.Proofs.YtdmiakfgemeelaaDoor
set_option linter.unusedSimpArgs false
set_option linter.unusedVariables false
open Go.RowKit

structure Has where
  least : Int
  most : Int
  says : ByteArray
  first : Bool
def Has.cells (h : Has) : Array Value := #[.int .i64 h.least, .int .i64 h.most, .string h.says, .bool h.first]
def kh0 : Has := ⟨0, 0, ⟨#[110, 97, 109, 101]⟩, false⟩
def kh1 : Has := ⟨1, -1, ⟨#[110, 97, 109, 101]⟩, false⟩
def kh2 : Has := ⟨1, -1, ⟨#[110, 97, 109, 101]⟩, false⟩
def kh3 : Has := ⟨1, 1, ⟨#[]⟩, false⟩
def kh4 : Has := ⟨1, 1, ⟨#[]⟩, false⟩
def kh5 : Has := ⟨1, 1, ⟨#[]⟩, false⟩
def kh6 : Has := ⟨1, 1, ⟨#[]⟩, false⟩
def kh7 : Has := ⟨2, 2, ⟨#[61, 32, 43, 61, 32, 45, 61, 32, 42, 61, 32, 47, 61, 32, 37, 61, 32, 94, 61]⟩, true⟩
def kh8 : Has := ⟨3, 3, ⟨#[]⟩, false⟩
def kh9 : Has := ⟨2, 2, ⟨#[]⟩, false⟩
def kh10 : Has := ⟨2, 2, ⟨#[]⟩, false⟩
def kh11 : Has := ⟨2, 2, ⟨#[]⟩, false⟩
def kh12 : Has := ⟨2, 2, ⟨#[126, 32, 33, 126]⟩, false⟩
def kh13 : Has := ⟨2, 2, ⟨#[60, 32, 60, 61, 32, 61, 61, 32, 33, 61, 32, 62, 32, 62, 61]⟩, false⟩
def kh14 : Has := ⟨2, 2, ⟨#[43, 32, 45, 32, 42, 32, 47, 32, 37, 32, 94]⟩, false⟩
def kh15 : Has := ⟨1, 1, ⟨#[43, 43, 32, 45, 45]⟩, true⟩
def kh16 : Has := ⟨1, 1, ⟨#[43, 43, 32, 45, 45]⟩, true⟩
def kh17 : Has := ⟨0, -1, ⟨#[110, 97, 109, 101]⟩, false⟩
def kh18 : Has := ⟨0, -1, ⟨#[108, 101, 110, 103, 116, 104, 32, 115, 117, 98, 115, 116, 114, 32, 105, 110, 100, 101, 120, 32, 115, 112, 108, 105, 116, 32, 115, 117, 98, 32, 103, 115, 117, 98, 32, 109, 97, 116, 99, 104, 32, 115, 112, 114, 105, 110, 116, 102, 32, 116, 111, 108, 111, 119, 101, 114, 32, 116, 111, 117, 112, 112, 101, 114, 32, 105, 110, 116, 32, 115, 114, 97, 110, 100, 32, 114, 97, 110, 100, 32, 99, 108, 111, 115, 101, 32, 115, 121, 115, 116, 101, 109]⟩, false⟩
def kindRows : List (Int × Has) := [
  (4, kh0),
  (5, kh1),
  (12, kh2),
  (6, kh3),
  (11, kh4),
  (17, kh5),
  (18, kh6),
  (7, kh7),
  (8, kh8),
  (9, kh9),
  (10, kh10),
  (15, kh11),
  (13, kh12),
  (14, kh13),
  (16, kh14),
  (19, kh15),
  (20, kh16),
  (21, kh17),
  (22, kh18)]

def entriesFrom : Nat → List (Int × Has) → List MapEntry
  | _, [] => []
  | n, r :: l => { key := .int .u8 r.1, val := .agg r.2.cells, born := n } :: entriesFrom (n + 1) l
def kindEntries : Array MapEntry := (entriesFrom 0 kindRows).toArray

set_option maxHeartbeats 4000000 in
theorem kinds_any (w : World) :
    Calls Tryd.prog 14 #[] w fun e w' => e = .returned (.map (some w.heap.size)) ∧ w'.heap[w.heap.size]? = some (.map kindEntries 19) ∧ Below w.heap.size w w' := by
  go_enter Tryd.func14, Tryd.ntmps14
  go_upto_region 1 with (fail)
  apply wp_region_lit
  refine wpList_makeMap rfl 49 rfl (some 1) rfl ?_
  have H0 : (w.alloc (.map #[] 0)).heap[w.heap.size]? = some (.map #[] 0) := heap_alloc_new w _
  have B0 : Below w.heap.size w (w.alloc (.map #[] 0)) := (Below.refl _ _).alloc (Nat.le_refl _) _
  generalize w.alloc (.map #[] 0) = w0 at H0 B0 ⊢
  refine wpList_buildTo rfl 70 _ rfl (some 2) rfl (Has.cells kh0) (by as_aux_lemma => kernel_rfl) ?_
  refine wpList_frame (a' := ⟨#[.map none, .map (some w.heap.size), .agg kh0.cells, undef, undef, undef, undef, undef, undef, undef, undef, undef, undef, undef, undef, undef, undef, undef, undef, undef, undef, undef], []⟩) (by as_aux_lemma => kernel_rfl) ?_
  refine wpList_insert rfl 49 _ _ _ rfl rfl w.heap.size _ _ rfl H0 23 70 .u8 (by as_aux_lemma => kernel_rfl) (by as_aux_lemma => kernel_rfl) 4 _ rfl rfl (by as_aux_lemma => kernel_rfl) w.heap.size (Nat.le_refl _) ?_
  intro w1 H1 b; have B1 := B0.trans b; clear b H0 B0
  refine wpList_buildTo rfl 70 _ rfl (some 3) rfl (Has.cells kh1) (by as_aux_lemma => kernel_rfl) ?_
  refine wpList_frame (a' := ⟨#[.map none, .map (some w.heap.size), .agg kh0.cells, .agg kh1.cells, undef, undef, undef, undef, undef, undef, undef, undef, undef, undef, undef, undef, undef, undef, undef, undef, undef, undef], []⟩) (by as_aux_lemma => kernel_rfl) ?_
  refine wpList_insert rfl 49 _ _ _ rfl rfl w.heap.size _ _ rfl H1 23 70 .u8 (by as_aux_lemma => kernel_rfl) (by as_aux_lemma => kernel_rfl) 5 _ rfl rfl (by as_aux_lemma => kernel_rfl) w.heap.size (Nat.le_refl _) ?_
  intro w2 H2 b; have B2 := B1.trans b; clear b H1 B1
  refine wpList_buildTo rfl 70 _ rfl (some 4) rfl (Has.cells kh2) (by as_aux_lemma => kernel_rfl) ?_
  refine wpList_frame (a' := ⟨#[.map none, .map (some w.heap.size), .agg kh0.cells, .agg kh1.cells, .agg kh2.cells, undef, undef, undef, undef, undef, undef, undef, undef, undef, undef, undef, undef, undef, undef, undef, undef, undef], []⟩) (by as_aux_lemma => kernel_rfl) ?_
  refine wpList_insert rfl 49 _ _ _ rfl rfl w.heap.size _ _ rfl H2 23 70 .u8 (by as_aux_lemma => kernel_rfl) (by as_aux_lemma => kernel_rfl) 12 _ rfl rfl (by as_aux_lemma => kernel_rfl) w.heap.size (Nat.le_refl _) ?_
  intro w3 H3 b; have B3 := B2.trans b; clear b H2 B2
  refine wpList_buildTo rfl 70 _ rfl (some 5) rfl (Has.cells kh3) (by as_aux_lemma => kernel_rfl) ?_
  refine wpList_frame (a' := ⟨#[.map none, .map (some w.heap.size), .agg kh0.cells, .agg kh1.cells, .agg kh2.cells, .agg kh3.cells, undef, undef, undef, undef, undef, undef, undef, undef, undef, undef, undef, undef, undef, undef, undef, undef], []⟩) (by as_aux_lemma => kernel_rfl) ?_
  refine wpList_insert rfl 49 _ _ _ rfl rfl w.heap.size _ _ rfl H3 23 70 .u8 (by as_aux_lemma => kernel_rfl) (by as_aux_lemma => kernel_rfl) 6 _ rfl rfl (by as_aux_lemma => kernel_rfl) w.heap.size (Nat.le_refl _) ?_
  intro w4 H4 b; have B4 := B3.trans b; clear b H3 B3
  refine wpList_buildTo rfl 70 _ rfl (some 6) rfl (Has.cells kh4) (by as_aux_lemma => kernel_rfl) ?_
  refine wpList_frame (a' := ⟨#[.map none, .map (some w.heap.size), .agg kh0.cells, .agg kh1.cells, .agg kh2.cells, .agg kh3.cells, .agg kh4.cells, undef, undef, undef, undef, undef, undef, undef, undef, undef, undef, undef, undef, undef, undef, undef], []⟩) (by as_aux_lemma => kernel_rfl) ?_
  refine wpList_insert rfl 49 _ _ _ rfl rfl w.heap.size _ _ rfl H4 23 70 .u8 (by as_aux_lemma => kernel_rfl) (by as_aux_lemma => kernel_rfl) 11 _ rfl rfl (by as_aux_lemma => kernel_rfl) w.heap.size (Nat.le_refl _) ?_
  intro w5 H5 b; have B5 := B4.trans b; clear b H4 B4
  refine wpList_buildTo rfl 70 _ rfl (some 7) rfl (Has.cells kh5) (by as_aux_lemma => kernel_rfl) ?_
  refine wpList_frame (a' := ⟨#[.map none, .map (some w.heap.size), .agg kh0.cells, .agg kh1.cells, .agg kh2.cells, .agg kh3.cells, .agg kh4.cells, .agg kh5.cells, undef, undef, undef, undef, undef, undef, undef, undef, undef, undef, undef, undef, undef, undef], []⟩) (by as_aux_lemma => kernel_rfl) ?_
  refine wpList_insert rfl 49 _ _ _ rfl rfl w.heap.size _ _ rfl H5 23 70 .u8 (by as_aux_lemma => kernel_rfl) (by as_aux_lemma => kernel_rfl) 17 _ rfl rfl (by as_aux_lemma => kernel_rfl) w.heap.size (Nat.le_refl _) ?_
  intro w6 H6 b; have B6 := B5.trans b; clear b H5 B5
  refine wpList_buildTo rfl 70 _ rfl (some 8) rfl (Has.cells kh6) (by as_aux_lemma => kernel_rfl) ?_
  refine wpList_frame (a' := ⟨#[.map none, .map (some w.heap.size), .agg kh0.cells, .agg kh1.cells, .agg kh2.cells, .agg kh3.cells, .agg kh4.cells, .agg kh5.cells, .agg kh6.cells, undef, undef, undef, undef, undef, undef, undef, undef, undef, undef, undef, undef, undef], []⟩) (by as_aux_lemma => kernel_rfl) ?_
  refine wpList_insert rfl 49 _ _ _ rfl rfl w.heap.size _ _ rfl H6 23 70 .u8 (by as_aux_lemma => kernel_rfl) (by as_aux_lemma => kernel_rfl) 18 _ rfl rfl (by as_aux_lemma => kernel_rfl) w.heap.size (Nat.le_refl _) ?_
  intro w7 H7 b; have B7 := B6.trans b; clear b H6 B6
  refine wpList_buildTo rfl 70 _ rfl (some 9) rfl (Has.cells kh7) (by as_aux_lemma => kernel_rfl) ?_
  refine wpList_frame (a' := ⟨#[.map none, .map (some w.heap.size), .agg kh0.cells, .agg kh1.cells, .agg kh2.cells, .agg kh3.cells, .agg kh4.cells, .agg kh5.cells, .agg kh6.cells, .agg kh7.cells, undef, undef, undef, undef, undef, undef, undef, undef, undef, undef, undef, undef], []⟩) (by as_aux_lemma => kernel_rfl) ?_
  refine wpList_insert rfl 49 _ _ _ rfl rfl w.heap.size _ _ rfl H7 23 70 .u8 (by as_aux_lemma => kernel_rfl) (by as_aux_lemma => kernel_rfl) 7 _ rfl rfl (by as_aux_lemma => kernel_rfl) w.heap.size (Nat.le_refl _) ?_
  intro w8 H8 b; have B8 := B7.trans b; clear b H7 B7
  refine wpList_buildTo rfl 70 _ rfl (some 10) rfl (Has.cells kh8) (by as_aux_lemma => kernel_rfl) ?_
  refine wpList_frame (a' := ⟨#[.map none, .map (some w.heap.size), .agg kh0.cells, .agg kh1.cells, .agg kh2.cells, .agg kh3.cells, .agg kh4.cells, .agg kh5.cells, .agg kh6.cells, .agg kh7.cells, .agg kh8.cells, undef, undef, undef, undef, undef, undef, undef, undef, undef, undef, undef], []⟩) (by as_aux_lemma => kernel_rfl) ?_
  refine wpList_insert rfl 49 _ _ _ rfl rfl w.heap.size _ _ rfl H8 23 70 .u8 (by as_aux_lemma => kernel_rfl) (by as_aux_lemma => kernel_rfl) 8 _ rfl rfl (by as_aux_lemma => kernel_rfl) w.heap.size (Nat.le_refl _) ?_
  intro w9 H9 b; have B9 := B8.trans b; clear b H8 B8
  refine wpList_buildTo rfl 70 _ rfl (some 11) rfl (Has.cells kh9) (by as_aux_lemma => kernel_rfl) ?_
  refine wpList_frame (a' := ⟨#[.map none, .map (some w.heap.size), .agg kh0.cells, .agg kh1.cells, .agg kh2.cells, .agg kh3.cells, .agg kh4.cells, .agg kh5.cells, .agg kh6.cells, .agg kh7.cells, .agg kh8.cells, .agg kh9.cells, undef, undef, undef, undef, undef, undef, undef, undef, undef, undef], []⟩) (by as_aux_lemma => kernel_rfl) ?_
  refine wpList_insert rfl 49 _ _ _ rfl rfl w.heap.size _ _ rfl H9 23 70 .u8 (by as_aux_lemma => kernel_rfl) (by as_aux_lemma => kernel_rfl) 9 _ rfl rfl (by as_aux_lemma => kernel_rfl) w.heap.size (Nat.le_refl _) ?_
  intro w10 H10 b; have B10 := B9.trans b; clear b H9 B9
  refine wpList_buildTo rfl 70 _ rfl (some 12) rfl (Has.cells kh10) (by as_aux_lemma => kernel_rfl) ?_
  refine wpList_frame (a' := ⟨#[.map none, .map (some w.heap.size), .agg kh0.cells, .agg kh1.cells, .agg kh2.cells, .agg kh3.cells, .agg kh4.cells, .agg kh5.cells, .agg kh6.cells, .agg kh7.cells, .agg kh8.cells, .agg kh9.cells, .agg kh10.cells, undef, undef, undef, undef, undef, undef, undef, undef, undef], []⟩) (by as_aux_lemma => kernel_rfl) ?_
  refine wpList_insert rfl 49 _ _ _ rfl rfl w.heap.size _ _ rfl H10 23 70 .u8 (by as_aux_lemma => kernel_rfl) (by as_aux_lemma => kernel_rfl) 10 _ rfl rfl (by as_aux_lemma => kernel_rfl) w.heap.size (Nat.le_refl _) ?_
  intro w11 H11 b; have B11 := B10.trans b; clear b H10 B10
  refine wpList_buildTo rfl 70 _ rfl (some 13) rfl (Has.cells kh11) (by as_aux_lemma => kernel_rfl) ?_
  refine wpList_frame (a' := ⟨#[.map none, .map (some w.heap.size), .agg kh0.cells, .agg kh1.cells, .agg kh2.cells, .agg kh3.cells, .agg kh4.cells, .agg kh5.cells, .agg kh6.cells, .agg kh7.cells, .agg kh8.cells, .agg kh9.cells, .agg kh10.cells, .agg kh11.cells, undef, undef, undef, undef, undef, undef, undef, undef], []⟩) (by as_aux_lemma => kernel_rfl) ?_
  refine wpList_insert rfl 49 _ _ _ rfl rfl w.heap.size _ _ rfl H11 23 70 .u8 (by as_aux_lemma => kernel_rfl) (by as_aux_lemma => kernel_rfl) 15 _ rfl rfl (by as_aux_lemma => kernel_rfl) w.heap.size (Nat.le_refl _) ?_
  intro w12 H12 b; have B12 := B11.trans b; clear b H11 B11
  refine wpList_buildTo rfl 70 _ rfl (some 14) rfl (Has.cells kh12) (by as_aux_lemma => kernel_rfl) ?_
  refine wpList_frame (a' := ⟨#[.map none, .map (some w.heap.size), .agg kh0.cells, .agg kh1.cells, .agg kh2.cells, .agg kh3.cells, .agg kh4.cells, .agg kh5.cells, .agg kh6.cells, .agg kh7.cells, .agg kh8.cells, .agg kh9.cells, .agg kh10.cells, .agg kh11.cells, .agg kh12.cells, undef, undef, undef, undef, undef, undef, undef], []⟩) (by as_aux_lemma => kernel_rfl) ?_
  refine wpList_insert rfl 49 _ _ _ rfl rfl w.heap.size _ _ rfl H12 23 70 .u8 (by as_aux_lemma => kernel_rfl) (by as_aux_lemma => kernel_rfl) 13 _ rfl rfl (by as_aux_lemma => kernel_rfl) w.heap.size (Nat.le_refl _) ?_
  intro w13 H13 b; have B13 := B12.trans b; clear b H12 B12
  refine wpList_buildTo rfl 70 _ rfl (some 15) rfl (Has.cells kh13) (by as_aux_lemma => kernel_rfl) ?_
  refine wpList_frame (a' := ⟨#[.map none, .map (some w.heap.size), .agg kh0.cells, .agg kh1.cells, .agg kh2.cells, .agg kh3.cells, .agg kh4.cells, .agg kh5.cells, .agg kh6.cells, .agg kh7.cells, .agg kh8.cells, .agg kh9.cells, .agg kh10.cells, .agg kh11.cells, .agg kh12.cells, .agg kh13.cells, undef, undef, undef, undef, undef, undef], []⟩) (by as_aux_lemma => kernel_rfl) ?_
  refine wpList_insert rfl 49 _ _ _ rfl rfl w.heap.size _ _ rfl H13 23 70 .u8 (by as_aux_lemma => kernel_rfl) (by as_aux_lemma => kernel_rfl) 14 _ rfl rfl (by as_aux_lemma => kernel_rfl) w.heap.size (Nat.le_refl _) ?_
  intro w14 H14 b; have B14 := B13.trans b; clear b H13 B13
  refine wpList_buildTo rfl 70 _ rfl (some 16) rfl (Has.cells kh14) (by as_aux_lemma => kernel_rfl) ?_
  refine wpList_frame (a' := ⟨#[.map none, .map (some w.heap.size), .agg kh0.cells, .agg kh1.cells, .agg kh2.cells, .agg kh3.cells, .agg kh4.cells, .agg kh5.cells, .agg kh6.cells, .agg kh7.cells, .agg kh8.cells, .agg kh9.cells, .agg kh10.cells, .agg kh11.cells, .agg kh12.cells, .agg kh13.cells, .agg kh14.cells, undef, undef, undef, undef, undef], []⟩) (by as_aux_lemma => kernel_rfl) ?_
  refine wpList_insert rfl 49 _ _ _ rfl rfl w.heap.size _ _ rfl H14 23 70 .u8 (by as_aux_lemma => kernel_rfl) (by as_aux_lemma => kernel_rfl) 16 _ rfl rfl (by as_aux_lemma => kernel_rfl) w.heap.size (Nat.le_refl _) ?_
  intro w15 H15 b; have B15 := B14.trans b; clear b H14 B14
  refine wpList_buildTo rfl 70 _ rfl (some 17) rfl (Has.cells kh15) (by as_aux_lemma => kernel_rfl) ?_
  refine wpList_frame (a' := ⟨#[.map none, .map (some w.heap.size), .agg kh0.cells, .agg kh1.cells, .agg kh2.cells, .agg kh3.cells, .agg kh4.cells, .agg kh5.cells, .agg kh6.cells, .agg kh7.cells, .agg kh8.cells, .agg kh9.cells, .agg kh10.cells, .agg kh11.cells, .agg kh12.cells, .agg kh13.cells, .agg kh14.cells, .agg kh15.cells, undef, undef, undef, undef], []⟩) (by as_aux_lemma => kernel_rfl) ?_
  refine wpList_insert rfl 49 _ _ _ rfl rfl w.heap.size _ _ rfl H15 23 70 .u8 (by as_aux_lemma => kernel_rfl) (by as_aux_lemma => kernel_rfl) 19 _ rfl rfl (by as_aux_lemma => kernel_rfl) w.heap.size (Nat.le_refl _) ?_
  intro w16 H16 b; have B16 := B15.trans b; clear b H15 B15
  refine wpList_buildTo rfl 70 _ rfl (some 18) rfl (Has.cells kh16) (by as_aux_lemma => kernel_rfl) ?_
  refine wpList_frame (a' := ⟨#[.map none, .map (some w.heap.size), .agg kh0.cells, .agg kh1.cells, .agg kh2.cells, .agg kh3.cells, .agg kh4.cells, .agg kh5.cells, .agg kh6.cells, .agg kh7.cells, .agg kh8.cells, .agg kh9.cells, .agg kh10.cells, .agg kh11.cells, .agg kh12.cells, .agg kh13.cells, .agg kh14.cells, .agg kh15.cells, .agg kh16.cells, undef, undef, undef], []⟩) (by as_aux_lemma => kernel_rfl) ?_
  refine wpList_insert rfl 49 _ _ _ rfl rfl w.heap.size _ _ rfl H16 23 70 .u8 (by as_aux_lemma => kernel_rfl) (by as_aux_lemma => kernel_rfl) 20 _ rfl rfl (by as_aux_lemma => kernel_rfl) w.heap.size (Nat.le_refl _) ?_
  intro w17 H17 b; have B17 := B16.trans b; clear b H16 B16
  refine wpList_buildTo rfl 70 _ rfl (some 19) rfl (Has.cells kh17) (by as_aux_lemma => kernel_rfl) ?_
  refine wpList_frame (a' := ⟨#[.map none, .map (some w.heap.size), .agg kh0.cells, .agg kh1.cells, .agg kh2.cells, .agg kh3.cells, .agg kh4.cells, .agg kh5.cells, .agg kh6.cells, .agg kh7.cells, .agg kh8.cells, .agg kh9.cells, .agg kh10.cells, .agg kh11.cells, .agg kh12.cells, .agg kh13.cells, .agg kh14.cells, .agg kh15.cells, .agg kh16.cells, .agg kh17.cells, undef, undef], []⟩) (by as_aux_lemma => kernel_rfl) ?_
  refine wpList_insert rfl 49 _ _ _ rfl rfl w.heap.size _ _ rfl H17 23 70 .u8 (by as_aux_lemma => kernel_rfl) (by as_aux_lemma => kernel_rfl) 21 _ rfl rfl (by as_aux_lemma => kernel_rfl) w.heap.size (Nat.le_refl _) ?_
  intro w18 H18 b; have B18 := B17.trans b; clear b H17 B17
  refine wpList_buildTo rfl 70 _ rfl (some 20) rfl (Has.cells kh18) (by as_aux_lemma => kernel_rfl) ?_
  refine wpList_frame (a' := ⟨#[.map none, .map (some w.heap.size), .agg kh0.cells, .agg kh1.cells, .agg kh2.cells, .agg kh3.cells, .agg kh4.cells, .agg kh5.cells, .agg kh6.cells, .agg kh7.cells, .agg kh8.cells, .agg kh9.cells, .agg kh10.cells, .agg kh11.cells, .agg kh12.cells, .agg kh13.cells, .agg kh14.cells, .agg kh15.cells, .agg kh16.cells, .agg kh17.cells, .agg kh18.cells, undef], []⟩) (by as_aux_lemma => kernel_rfl) ?_
  refine wpList_insert rfl 49 _ _ _ rfl rfl w.heap.size _ _ rfl H18 23 70 .u8 (by as_aux_lemma => kernel_rfl) (by as_aux_lemma => kernel_rfl) 22 _ rfl rfl (by as_aux_lemma => kernel_rfl) w.heap.size (Nat.le_refl _) ?_
  intro w19 H19 b; have B19 := B18.trans b; clear b H18 B18
  go_wp2_with fail
  go_ret
  exact ⟨rfl, H19.trans (congrArg some (by as_aux_lemma => kernel_rfl)), B19⟩
end Go.Proofs.YtdmiakfgemeelaaDoor
