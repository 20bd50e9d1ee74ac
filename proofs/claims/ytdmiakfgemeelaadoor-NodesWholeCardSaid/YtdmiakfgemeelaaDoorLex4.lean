/- Contracts of lex.mark and lex.quoted: that they come back, and how long what they tell is. -/
import Derived.Test.YtdmiakfgemeelaaDoorLex2
import Derived.Test.YtdmiakfgemeelaaDoorBuild
import Derived.Deep.DeepCutAuto
import Derived.Deep.LoopGhost
import Derived.Lib.OthersKept
namespace Go.Proofs.YtdmiakfgemeelaaDoor
set_option linter.unusedSimpArgs false
set_option linter.unusedVariables false
open Go.RowKit

def plainB : ByteArray := ⟨#[34, 92, 47, 97, 98, 102, 110, 114, 116, 118]⟩
theorem plain_ascii : ∀ j : Fin 10, (plainB[j.val]'(by have := j.2; simp [plainB, ByteArray.size])).toNat < 128 := by decide +kernel

theorem plainB_size : plainB.size = 10 := rfl

theorem Below.iter (w : World) (s : ByteArray) (p : Nat) : Below w.heap.size w (w.iter s p) := (Below.refl _ _).alloc (Nat.le_refl _) _
theorem iterPos_iter (w : World) (s : ByteArray) (p : Nat) : (w.iter s p).iterPos w.heap.size = p := by simp [World.iterPos, World.iter_heap]

theorem run_one_byte (W : World) (a : Addr) (cap : Nat) (n : Int) (hc : W.cell? a = some (.int .u8 n)) :
    (convert 123 9 (.slice (some a) 1 cap)).run Tryd.prog W = .ok (.string ⟨#[UInt8.ofNat n.toNat]⟩) W := by
  rw [run_convert_bytes_string W _ _ _ (some a) 1 cap Tryd.underlying123 Tryd.underlying5 Tryd.underlying9]
  have hl := run_loadCells_list (P := Tryd.prog) W a [.int .u8 n] (fun j v hj => by
    match j, hj with
    | 0, hj => simp at hj; subst hj; simpa [Addr.add] using hc
    | j + 1, hj => simp at hj)
  exact run_bytesToString W a 1 cap [n] hl

def MarkPost (s : ByteArray) (w : World) (e : Ending) (w' : World) : Prop :=
  ∃ (t : ByteArray) (k : Nat), e = .returned (.tuple #[.string t, .int .i64 k]) ∧ 2 ≤ k ∧ k ≤ s.size ∧ t.size ≤ 2 ∧ Below w.heap.size w w'

set_option maxRecDepth 100000 in
set_option maxHeartbeats 800000 in
theorem mark_any (s : ByteArray) (hs : s.size ≤ 140737488351232) (h2 : 2 ≤ s.size) (w : World) :
    Calls Tryd.prog 67 #[.string s] w (MarkPost s w) := by
  have hb : 1 < s.size := by omega
  go_enter Tryd.func67, Tryd.ntmps67
  go_wp2_with fail
  go_loopw [4, 5] (fun _ _ wr => ∃ j : Nat, j ≤ 10 ∧ wr = w.iter plainB j) (fun _ _ wr => 10 - wr.iterPos w.heap.size)
  case atStart => exact ⟨0, by omega, rfl⟩
  case round =>
    obtain ⟨j, hj, rfl⟩ := hrel
    by_cases hlt : j < 10
    · have hnx := fun ty => run_next_ascii (P := Tryd.prog) w plainB j ty (by rw [plainB_size]; exact hlt) (plain_ascii ⟨j, hlt⟩)
      generalize hc : ((plainB[j]'(by rw [plainB_size]; exact hlt)).toNat : Int) = c at hnx
      clear hc
      go_wp2_with fail
      · go_ret2
        exact ⟨_, 2, rfl, by omega, h2, by simp [ByteArray.size_extract]; omega, Below.iter _ _ _⟩
      · go_roundw
        case rel => exact ⟨j + 1, by omega, rfl⟩
        case measure => rw [iterPos_iter, iterPos_iter]; omega
    · have hnx := fun ty => run_next_end (P := Tryd.prog) w plainB j ty (by rw [plainB_size]; exact hlt)
      go_wp2_with fail
      go_loop [6, 7] (fun n k => ∃ (v : Int) (i : Nat), n = .int .i64 v ∧ k = .int .i64 i ∧ 1 ≤ i ∧ i ≤ 4 ∧ i ≤ s.size) (fun _ k => 4 - (intOf k).toNat)
      case atStart => exact ⟨0, 1, rfl, rfl, by omega, by omega, by omega⟩
      case round =>
        obtain ⟨v, i, rfl, rfl, h1, h4, h5⟩ := hrel
        clear hnx
        have hcv := fun n : Int => run_one_byte ((w.iter plainB j).alloc (.cells #[.int .u8 n] 5)) ⟨(w.iter plainB j).heap.size, 0, none⟩ 1 n (by simp [World.cell?_alloc_new])
        go_wp2_with fail
        · go_round
          case rel => exact ⟨_, i + 1, rfl, by go_num, by omega, by omega, by omega⟩
          case measure => simp [intOf]; omega
        all_goals first
          | (go_ret2
             exact ⟨_, 2, rfl, by omega, h2, by simp [ByteArray.size_extract]; omega, Below.iter _ _ _⟩)
          | (go_ret2
             have h1' := beq_eq_false_iff_ne.1 ‹((i : Int) == 1) = false›
             refine ⟨_, i, rfl, by omega, h5, ?_, (Below.iter _ _ _).alloc (by simp [World.iter]) _⟩
             simp [ByteArray.size])
end Go.Proofs.YtdmiakfgemeelaaDoor
