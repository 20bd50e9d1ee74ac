/- NodesDeep: the walk, whole. -/
import Derived.Test.YtdmiakfgemeelaaDoorDeep4
namespace Go.Proofs.YtdmiakfgemeelaaDoor
set_option linter.unusedSimpArgs false
set_option linter.unusedVariables false
open Go.RowKit

theorem block_step {W : World} {i : Nat} {A : Option Addr} {c : Nat} (hk : StsIn W W.heap.size A 0 (blockN i)) (hl : (blockN i).length ≤ 1) :
    StsIn (W.alloc (.cells #[.int .u8 15, .string ⟨#[]⟩, .int .i64 0, .slice none 0 0, .slice A (blockN i).length c, .slice none 0 0, .int .i64 0] 31)) (W.alloc (.cells #[.int .u8 15, .string ⟨#[]⟩, .int .i64 0, .slice none 0 0, .slice A (blockN i).length c, .slice none 0 0, .int .i64 0] 31)).heap.size (some ⟨W.heap.size, 0, none⟩) 0 (blockN (i + 1)) := by
  have b := Blk.new W 31 #[.int .u8 15, .string ⟨#[]⟩, .int .i64 0, .slice none 0 0, .slice A (blockN i).length c, .slice none 0 0, .int .i64 0]
  have hk2 := (hk.below ((Below.refl _ _).alloc (Nat.le_refl _) (.cells #[.int .u8 15, .string ⟨#[]⟩, .int .i64 0, .slice none 0 0, .slice A (blockN i).length c, .slice none 0 0, .int .i64 0] 31))).more (Nat.le_of_lt b.lt)
  generalize W.alloc _ = W1 at *
  show StsIn W1 _ _ 0 [.mk 15 ⟨#[]⟩ 0 [] (blockN i) [] 0]
  simp only [StsIn, StIn]
  exact ⟨⟨_, 0, rfl, b.lt, ⟨by omega, by omega, by show (0 : Nat) ≤ _; omega, by omega, by omega, by show (0 : Nat) ≤ _; omega, by omega, by show (0 : Nat) ≤ _; omega⟩, none, 0, A, c, none, 0, b.cell 0, b.cell 1, b.cell 2, b.cell 3, b.cell 4, b.cell 5, b.cell 6, by simp only [ExsIn], hk2, trivial⟩, trivial⟩
theorem next_cells (W : World) (t : TypeId) : ∀ j u, nextCells[j]? = some u → (W.alloc (.cells #[.int .u8 11, .string ⟨#[]⟩, .int .i64 0, .slice none 0 0, .slice none 0 0, .slice none 0 0, .int .i64 0] t)).cell? ((⟨W.heap.size, 0, none⟩ : Addr).add j) = some u := fun j u h => by
  have b := (Blk.new W t #[.int .u8 11, .string ⟨#[]⟩, .int .i64 0, .slice none 0 0, .slice none 0 0, .slice none 0 0, .int .i64 0]).cell j
  rw [show (⟨W.heap.size, 0, none⟩ : Addr).add j = ⟨W.heap.size, j, none⟩ by simp [Addr.add]; exact fun h => h.symm, b, ← h]
  simp [nextCells]
theorem next_one : ∀ u ∈ nextCells, u.oneCell' = true := by
  intro u hu
  simp only [nextCells, List.mem_cons, List.not_mem_nil, or_false] at hu
  rcases hu with rfl | rfl | rfl | rfl | rfl | rfl | rfl <;> rfl
theorem many_step {W : World} {B : Nat} {t : TypeId} {v : Value} {i : Nat} (h : W.ownsRow B t 7 v (i + 1) (manyCells i ++ nextCells)) : W.ownsRow B t 7 v (i + 1) (manyCells (i + 1)) := by
  have : manyCells (i + 1) = manyCells i ++ nextCells := by
    unfold manyCells
    rw [List.replicate_succ', List.flatten_append]
    simp
  rw [this]
  exact h
theorem below_own {W2 W W' : World} {ob : Obj} {B : Nat} {t : TypeId} {v : Value} {i : Nat} {xs : List Value} (hB : Below B W2 W) (h : (W.alloc ob).grownBy W' v.ownBlock) (ho : W.ownsRow B t 7 v i xs) (hz : B ≤ W.heap.size) : Below B W W' := by
  refine ((Below.refl _ _).alloc hz _).grown h (by simp; omega) (fun k hk => ?_)
  rcases ho.2 with ⟨rfl, _⟩ | ⟨g, cap, cur, rfl, hg, _⟩
  · cases hk
  · cases hk; exact hg
theorem blockN_len (i : Nat) : (blockN i).length ≤ 1 := by cases i <;> simp [blockN]

set_option maxRecDepth 100000 in
set_option maxHeartbeats 4000000 in
theorem deep_any (x : Int) (w : World) (hx1 : -9223372036854775808 ≤ x) (hx2 : x ≤ 9223372036854775807) (hT : Tab w.heap.size w) :
    Calls Tryd.prog 3 #[.int .i64 x] w fun r w' => r = .returned (.bool true) ∧ Below w.heap.size w w' := by
  have CP := Lib.hid (fun W => pick_any x W hx1 hx2)
  have HT := Lib.hid hT
  clear hT hx1 hx2
  go_enter Tryd.func3, Tryd.ntmps3
  go_wp2_with (go_at_call 5; ((with_reducible refine (CP.out _).mono ?_); rintro e1 w1 ⟨n, hn, rfl, hw⟩; obtain rfl := hw.symm))
  rw [show (50 : Int) + (n : Int) = ((50 + n : Nat) : Int) by omega]
  obtain ⟨N, hN⟩ : ∃ N, N = 50 + n := ⟨_, rfl⟩
  rw [← hN]
  have hN1 : 50 ≤ N ∧ N ≤ 70 := by omega
  have HN := Lib.hid hN
  clear hN
  have K0 : Hid (Chain (w.alloc (.cells #[.int .u8 1, .string ⟨#[]⟩, .int .u64 0, .slice none 0 0] 27)) w.heap.size (notN 0)) := ⟨none, 0, Blk.new _ _ _, by simp only [notN, Ex.kids, ExsInS]⟩
  have B0 : Hid (Below w.heap.size w (w.alloc (.cells #[.int .u8 1, .string ⟨#[]⟩, .int .u64 0, .slice none 0 0] 27))) := (Below.refl _ _).alloc (Nat.le_refl _) _
  have Z0 : w.heap.size < (w.alloc (.cells #[.int .u8 1, .string ⟨#[]⟩, .int .u64 0, .slice none 0 0] 27)).heap.size := by simp
  generalize hW : w.alloc _ = W0 at K0 B0 Z0 ⊢
  clear hW
  obtain ⟨h0, e0⟩ : ∃ h0, h0 = w.heap.size := ⟨_, rfl⟩
  rw [← e0] at K0 B0 HT Z0 ⊢
  have E0 := Lib.hid e0
  clear e0
  go_loopw [6] (fun v wr => ∃ i : Nat, v = .int .i64 i ∧ 1 ≤ i ∧ i ≤ N ∧ Chain wr h0 (notN (i - 1)) ∧ Below h0 w wr) (fun v _ => N - (intOf v).toNat)
  case atStart => exact ⟨1, rfl, by omega, by omega, K0.out, B0.out⟩
  case round =>
    obtain ⟨i, rfl, hi1, hi2, hC, hB⟩ := hrel
    have HB := Lib.hid hB
    have HC := Lib.hid hC
    by_cases hlt : i < N
    · obtain ⟨j, rfl⟩ : ∃ j, i = j + 1 := ⟨i - 1, by omega⟩
      rw [Nat.add_sub_cancel] at hC
      obtain ⟨A, c, hb, hk⟩ := hC
      have c0 : wr.cell? ⟨h0, 0, none⟩ = some (.int .u8 (notN j).k) := hb.cell 0
      have c1 : wr.cell? ⟨h0, 1, none⟩ = some (.string (notN j).s) := hb.cell 1
      have c2 : wr.cell? ⟨h0, 2, none⟩ = some (.int .u64 (notN j).n) := hb.cell 2
      have c3 : wr.cell? ⟨h0, 3, none⟩ = some (.slice A (notN j).kids.length c) := hb.cell 3
      have Hb := Lib.hid hb
      have Hk := Lib.hid hk
      clear hb hk hB
      go_wp2_with (refine wpList_store_rowTo rfl 27 (.tmp 3) _ rfl rfl h0 _ rfl rfl 27 _ ((Hb.out).alloc _) (by as_aux_lemma => kernel_rfl) (by as_aux_lemma => kernel_rfl) (by as_aux_lemma => kernel_rfl) ?_)
      go_roundw
      case rel => exact ⟨j + 2, by go_num, by omega, by omega, chain_step Hb.out Hk.out, below_setRow (HB.out.alloc (Nat.le_of_lt Hb.out.lt) _) (Nat.le_refl _) _⟩
      case measure => simp [intOf]; omega
    · have hj : N = i := by omega
      subst hj
      clear hC hB B0 K0
      obtain ⟨W1, hW1⟩ : ∃ W1, W1 = wr := ⟨_, rfl⟩
      subst hW1
      go_wp2_with fail
      go_loopw [4, 7] (fun u v w2 => ∃ (i : Nat) (A : Option Addr) (c : Nat), v = .int .i64 i ∧ i ≤ N ∧ u = .slice A (blockN i).length c ∧ StsIn w2 w2.heap.size A 0 (blockN i) ∧ Below W1.heap.size W1 w2) (fun _ v _ => N - (intOf v).toNat)
      case atStart => exact ⟨0, none, 0, rfl, by omega, rfl, by simp only [blockN, StsIn], Below.refl _ _⟩
      case round =>
        obtain ⟨i, A2, c2, rfl, hi, rfl, hS, hB2⟩ := hrel
        have HS := Lib.hid hS
        have HB2 := Lib.hid hB2
        clear hS hB2
        by_cases hlt2 : i < N
        · go_wp2_with fail
          go_roundw
          case rel => exact ⟨i + 1, some ⟨wr.heap.size, 0, none⟩, 1, by go_num, by omega, rfl, block_step HS.out (blockN_len i), HB2.out.alloc HB2.out.size _⟩
          case measure => simp [intOf]; omega
        · have hi50 : N = i := by omega
          subst hi50
          obtain ⟨W2, hW2⟩ : ∃ W2, W2 = wr := ⟨_, rfl⟩
          subst hW2
          have hinfo : (Tryd.prog.info? 31).map (fun i => (i.zero, i.size, i.bytes)) = some (some (.agg #[.int .u8 0, .string ⟨#[]⟩, .int .i64 0, .slice none 0 0, .slice none 0 0, .slice none 0 0, .int .i64 0]), 7, 112) := by as_aux_lemma => kernel_rfl
          obtain ⟨i0, hi0, hz0, hz1, hz2⟩ := info_parts hinfo
          go_wp2_with fail
          go_loopw [5, 8] (fun u v w3 => ∃ i : Nat, v = .int .i64 i ∧ i ≤ 3940 + N ∧ w3.ownsRow W2.heap.size 31 7 u i (manyCells i) ∧ Below W2.heap.size W2 w3) (fun _ v _ => 3940 + N - (intOf v).toNat)
          case atStart => exact ⟨0, rfl, by omega, World.ownsRow_nil _ _ _ _, Below.refl _ _⟩
          case round =>
            obtain ⟨i, rfl, hi, hO, hB3⟩ := hrel
            have HOw := Lib.hid hO
            have HB3 := Lib.hid hB3
            clear hO hB3
            by_cases hlt3 : i < 3940 + N
            · have c3 : i + 1 ≤ maxLen := by unfold maxLen; omega
              go_wp2_with (at_builtin; refine wpList_append_own _ rfl (.tmp 36) (.tmp 38) 28 rfl W2.heap.size 31 i0 _ 7 112 Tryd.underlying28 hi0 hz0 hz1 hz2 rfl (by decide) _ _ _ rfl (HOw.out.alloc _) ⟨wr.heap.size, 0, none⟩ 1 1 nextCells rfl rfl (next_cells _ _) next_one c3 (by omega) (by have := HB3.out.size; simp; omega) ?_; intro v4 w4 hO4 hg4 _)
              go_roundw
              case rel => exact ⟨i + 1, by go_num, by omega, many_step hO4, HB3.out.trans (below_own HB3.out hg4 HOw.out HB3.out.size)⟩
              case measure => simp [intOf]; omega
            · have hi39 : i = 3940 + N := by omega
              subst hi39
              obtain ⟨A5, c5, rfl, hM⟩ := many_in HOw.out
              obtain ⟨A1, k1, hb1, hk1⟩ := HC.out
              have Lb := hb1.lt
              have hz1 := HB2.out.size
              have hz2 := HB3.out.size
              have HW12 : Hid (Below W1.heap.size W1 wr) := HB2.out.trans (HB3.out.mono hz1)
              have Hch : Hid (∀ W, Below wr.heap.size wr W → Blk W h0 27 #[.int .u8 (notN (N - 1)).k, .string (notN (N - 1)).s, .int .u64 (notN (N - 1)).n, .slice A1 (notN (N - 1)).kids.length k1] ∧ ExsIn W W.heap.size A1 0 (notN (N - 1)).kids ∧ StsIn W W.heap.size A2 0 (blockN N) ∧ StsIn W W.heap.size A5 0 (List.replicate (3940 + N) nextS) ∧ Tab W.heap.size W ∧ Below h0 w W) := fun W hW => by
                have hz3 := hW.size
                have q := HW12.out.trans (hW.mono (by omega))
                have q2 := HB3.out.trans (hW.mono (by omega))
                exact ⟨hb1.below q Lb, ((hk1.toB (fun b h => h.2)).below q).more (by omega), (HS.out.below q2).more (by omega), (hM.below hW).more (by omega), tab_up HT.out (HB.out.trans (q.mono (by omega))) (by omega), HB.out.trans (q.mono (by omega))⟩
              have hNn := HN.out
              obtain ⟨bb, hbb⟩ : ∃ bb, bb = decide ((N : Int) ≤ 60) := ⟨_, rfl⟩
              have hn49 : N - 1 = 49 + n := by omega
              have L1 : exprB (notN (N - 1)) = bb := by rw [hn49, deep1 ⟨n, by omega⟩, hbb]; congr 1; simp only [hNn]; push_cast; rfl
              have L2 : rightB [itemE (notN (N - 1))] = bb := by rw [hn49, deep2 ⟨n, by omega⟩, hbb]; congr 1; simp only [hNn]; push_cast; rfl
              have L3 : rightB [itemS 1 (blockN N)] = bb := by rw [hNn, deep3 ⟨n, by omega⟩, hbb]; congr 1; simp only [hNn]; push_cast; rfl
              have L4 : rightB [itemS 2 (List.replicate (3940 + N) nextS)] = bb := by
                rw [show 3940 + N = 3990 + n by omega, deep4 n hn, hbb]
                by_cases h : n ≤ 10
                · rw [decide_eq_true (by omega), decide_eq_true (by omega)]
                · rw [decide_eq_false (by omega), decide_eq_false (by omega)]
              have C1 : Hid (∀ W, Below wr.heap.size wr W → Calls Tryd.prog 8 #[.agg #[.int .u8 (notN (N - 1)).k, .string (notN (N - 1)).s, .int .u64 (notN (N - 1)).n, .slice A1 (notN (N - 1)).kids.length k1]] W fun r w' => r = .returned (.bool bb) ∧ Below wr.heap.size wr w') := fun W hW =>
                (Expr_any A1 k1 (notN (N - 1)) W (notN_ok _) (Hch.out W hW).2.1 (Hch.out W hW).2.2.2.2.1).mono (by rintro r w' ⟨rfl, hb⟩; exact ⟨ret_bool L1, hW.trans (hb.mono hW.size)⟩)
              have C2 : Hid (∀ W, Below wr.heap.size wr W → Calls Tryd.prog 6 #[.agg #[.int .u8 3, .string ⟨#[]⟩, .slice none 0 0, .slice (some ⟨W.heap.size, 0, none⟩) 1 1, .bool false, .slice none 0 0, .int .i64 0]] (W.alloc (.cells #[.int .u8 (notN (N - 1)).k, .string (notN (N - 1)).s, .int .u64 (notN (N - 1)).n, .slice A1 (notN (N - 1)).kids.length k1] 27)) fun r w' => r = .returned (.bool bb) ∧ Below wr.heap.size wr w') := fun W hW => by
                have b := Blk.new W 27 #[.int .u8 (notN (N - 1)).k, .string (notN (N - 1)).s, .int .u64 (notN (N - 1)).n, .slice A1 (notN (N - 1)).kids.length k1]
                have hW2 : Below wr.heap.size wr (W.alloc (.cells #[.int .u8 (notN (N - 1)).k, .string (notN (N - 1)).s, .int .u64 (notN (N - 1)).n, .slice A1 (notN (N - 1)).kids.length k1] 27)) := hW.alloc hW.size _
                generalize W.alloc _ = Wa at b hW2 ⊢
                have hf := Hch.out Wa hW2
                refine (rightItem_any none 0 (some ⟨W.heap.size, 0, none⟩) 1 none 0 (itemE (notN (N - 1))) Wa ⟨by show (0 : Int) ≤ 3; omega, by show (3 : Int) ≤ 255; omega, by show (0 : Nat) ≤ _; omega, by show (0 : Nat) ≤ _; omega, (fun s hs => nomatch hs), by show (1 : Nat) ≤ _; omega, by show (0 : Nat) ≤ _; omega⟩ trivial ?_ (by simp only [itemE, StsIn]) hf.2.2.2.2.1).mono (by rintro r w' ⟨rfl, hb⟩; exact ⟨ret_bool L2, hW2.trans (hb.mono hW2.size)⟩)
                show ExsIn Wa _ _ 0 [notN (N - 1)]
                simp only [ExsIn]
                have ho := notN_ok (N - 1)
                have hk := hf.2.1
                refine ⟨⟨_, 0, rfl, b.lt, ?_⟩, trivial⟩
                clear hf L1 L2 C1
                generalize notN (N - 1) = e at *
                obtain ⟨k', s, m, kids⟩ := e
                simp only [ExIn]
                exact ⟨ho, A1, k1, b.cell 0, b.cell 1, b.cell 2, b.cell 3, hk⟩
              have C3 : Hid (∀ W, Below wr.heap.size wr W → Calls Tryd.prog 6 #[.agg #[.int .u8 1, .string ⟨#[]⟩, .slice none 0 0, .slice none 0 0, .bool false, .slice A2 (blockN N).length c2, .int .i64 0]] W fun r w' => r = .returned (.bool bb) ∧ Below wr.heap.size wr w') := fun W hW =>
                (rightItem_any none 0 none 0 A2 c2 (itemS 1 (blockN N)) W ⟨by show (0 : Int) ≤ 1; omega, by show (1 : Int) ≤ 255; omega, by show (0 : Nat) ≤ _; omega, by show (0 : Nat) ≤ _; omega, (fun s hs => nomatch hs), by show (0 : Nat) ≤ _; omega, by have := blockN_len N; show (blockN N).length ≤ _; omega⟩ trivial (by simp only [itemS, ExsIn]) (Hch.out W hW).2.2.1 (Hch.out W hW).2.2.2.2.1).mono (by rintro r w' ⟨rfl, hb⟩; exact ⟨ret_bool L3, hW.trans (hb.mono hW.size)⟩)
              have C4 : Hid (∀ W, Below wr.heap.size wr W → Calls Tryd.prog 6 #[.agg #[.int .u8 2, .string ⟨#[]⟩, .slice none 0 0, .slice none 0 0, .bool false, .slice A5 (3940 + N) c5, .int .i64 0]] W fun r w' => r = .returned (.bool bb) ∧ Below wr.heap.size wr w') := fun W hW => by
                have := rightItem_any none 0 none 0 A5 c5 (itemS 2 (List.replicate (3940 + N) nextS)) W ⟨by show (0 : Int) ≤ 2; omega, by show (2 : Int) ≤ 255; omega, by show (0 : Nat) ≤ _; omega, by show (0 : Nat) ≤ _; omega, (fun s hs => nomatch hs), by show (0 : Nat) ≤ _; omega, by show (List.replicate (3940 + N) nextS).length ≤ _; rw [List.length_replicate]; omega⟩ trivial (by simp only [itemS, ExsIn]) (Hch.out W hW).2.2.2.1 (Hch.out W hW).2.2.2.2.1
                unfold itV at this
                simp only [itemS, List.length_replicate, List.length_nil] at this
                exact this.mono (by rintro r w' ⟨rfl, hb⟩; exact ⟨ret_bool L4, hW.trans (hb.mono hW.size)⟩)
              have C5 : Hid (∀ W, Below wr.heap.size wr W → Calls Tryd.prog 9 #[] W fun r w' => r = .returned (.bool true) ∧ Below wr.heap.size wr w') := fun W hW =>
                (awake_any W (Hch.out W hW).2.2.2.2.1).mono (by rintro r w' ⟨rfl, hb⟩; exact ⟨rfl, hW.trans (hb.mono hW.size)⟩)
              have hd1 : decide ((N : Int) ≤ 60) = bb := hbb.symm
              have hd2 : decide (3940 + (N : Int) ≤ 4000) = bb := by
                rw [hbb]
                by_cases h : N ≤ 60
                · rw [decide_eq_true (by omega), decide_eq_true (by omega)]
                · rw [decide_eq_false (by omega), decide_eq_false (by omega)]
              have hcl : ∀ W, Below wr.heap.size wr W → W.cell? ⟨h0, 0, none⟩ = some (.int .u8 (notN (N - 1)).k) ∧ W.cell? ⟨h0, 1, none⟩ = some (.string (notN (N - 1)).s) ∧ W.cell? ⟨h0, 2, none⟩ = some (.int .u64 (notN (N - 1)).n) ∧ W.cell? ⟨h0, 3, none⟩ = some (.slice A1 (notN (N - 1)).kids.length k1) :=
                fun W hW => ⟨(Hch.out W hW).1.cell 0, (Hch.out W hW).1.cell 1, (Hch.out W hW).1.cell 2, (Hch.out W hW).1.cell 3⟩
              obtain ⟨p0, p1, p2, p3⟩ := hcl wr (Below.refl _ _)
              have HCL := Lib.hid hcl
              clear hcl L1 L2 L3 L4 hbb hNn hn49 hk1 hb1 hM
              cases bb
              all_goals go_wp2_with (first
                | (go_at_call 8; ((with_reducible refine (C1.out _ (Below.refl _ _)).mono ?_); rintro e5 w5 ⟨rfl, hB5⟩; obtain ⟨q0, q1, q2, q3⟩ := HCL.out w5 hB5; have HB5 := Lib.hid hB5; clear hB5))
                | (go_at_call 6; ((with_reducible refine (C2.out _ HB5.out).mono ?_); rintro e6 w6 ⟨rfl, hB6⟩; have HB6 := Lib.hid hB6; clear hB6))
                | (go_at_call 6; ((with_reducible refine (C3.out _ HB6.out).mono ?_); rintro e7 w7 ⟨rfl, hB7⟩; have HB7 := Lib.hid hB7; clear hB7))
                | (go_at_call 6; ((with_reducible refine (C4.out _ HB7.out).mono ?_); rintro e8 w8 ⟨rfl, hB8⟩; have HB8 := Lib.hid hB8; clear hB8))
                | (go_at_call 9; ((with_reducible refine (C5.out _ HB8.out).mono ?_); rintro e9 w9 ⟨rfl, hB9⟩)))
              all_goals
                go_ret
                exact ⟨rfl, by rw [← E0.out]; exact (Hch.out _ hB9).2.2.2.2.2⟩
end Go.Proofs.YtdmiakfgemeelaaDoor
