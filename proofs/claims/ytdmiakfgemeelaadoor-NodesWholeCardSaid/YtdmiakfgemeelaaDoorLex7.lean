/- The contract of lex.one: names in full; of other tokens, that they are no names. -/
import Derived.Test.YtdmiakfgemeelaaDoorLex6
namespace Go.Proofs.YtdmiakfgemeelaaDoor
set_option linter.unusedSimpArgs false
set_option linter.unusedVariables false
open Go.RowKit

def wordsB : List ByteArray := words.map fun l => ⟨l.toArray⟩
theorem word_cells (W : World) (b : Nat) (t : TypeId) (fr : Nat × Nat) (h : W.heap[b]? = some (.cells wordCells t fr)) : ∀ j, j < wordsB.length → W.cell? ⟨b, 0 + j, none⟩ = some (.string (wordsB.getD j ByteArray.empty)) := by
  intro j hj
  rw [Nat.zero_add, cell_of_row W b j wordCells t fr h]
  unfold wordCells wordsB at *
  simp at hj
  simp [List.getElem?_eq_getElem hj]
theorem contains_words (x : ByteArray) (W : World) (b : Nat) (t : TypeId) (h : W.heap[b]? = some (.cells wordCells t (0, 0))) :
    Calls Tryd.prog 33 #[.slice (some ⟨b, 0, none⟩) 33 33, .string x] W fun e w' => e = .returned (.bool (decide (x.data.toList ∈ words))) ∧ w' = W := by
  refine (Tryd.slices_Contains_string b 0 33 33 wordsB x W (by decide) (by decide) (word_cells W b t _ h)).mono fun e w' ⟨h1, h2⟩ => ⟨?_, h2⟩
  rw [h1]
  have : wordsB.take 33 = wordsB := by decide +kernel
  rw [this]
  refine ret_bool ?_
  rw [Bool.eq_iff_iff, Lib.containsS_iff, decide_eq_true_iff]
  unfold wordsB
  simp only [List.mem_map]
  constructor
  · rintro ⟨a, ha, rfl⟩
    simpa using ha
  · intro hx
    exact ⟨_, hx, by cases x; simp⟩

theorem take_tw (p : UInt8 → Bool) : ∀ l : Bytes, l.take (l.takeWhile p).length = l.takeWhile p
  | [] => rfl
  | b :: l => by
    rw [List.takeWhile_cons]
    split
    · simp [take_tw p l]
    · simp
theorem head_of (s : ByteArray) (h : 0 < s.size) : s.data.toList.head? = some s[0] := by rw [cons_of s h]; rfl
/-- The kind of the name that a text begins with. -/
def kindL (l : Bytes) : Int :=
  if l.takeWhile isWordByte ∈ words then 6 else if Lib.hasPrefix (l.drop (l.takeWhile isWordByte).length) [40] then 5 else 4

theorem sliceAt33 (b : Nat) (W : World) : (Instr.sliceAt 104 (.pointer (some ⟨b, 0, none⟩)) none none none).run Tryd.prog W = .ok (.slice (some ⟨b, 0, none⟩) 33 33) W := by kernel_rfl

theorem tok_size : (Tryd.prog.info? 78).map (·.size) = some 5 := by kernel_rfl

theorem one_ret {R : Ending → World → Prop} {a : Act} {W : World} {g : Nat} {c0 c1 c2 c3 c4 v : Value} (h4 : a.tmps.getD 4 undef = .pointer (some ⟨g, 0, none⟩)) (h5 : a.tmps.getD 5 undef = v) (hd : a.defers = [])
    (hb : Blk W g 78 #[c0, c1, c2, c3, c4]) (hR : R (.returned (.tuple #[.agg #[c0, c1, c2, c3, c4], v])) W) : bodyPost Tryd.prog Tryd.f45 R .ret a W := by
  subst h5
  exact bodyPost_ret (results_row_tmp Tryd.results45 _ _ g 78 _ _ h4 hb Tryd.underlying78 rfl tok_size) hd hR

def OnePost (s : ByteArray) (w : World) (e : Ending) (w' : World) : Prop :=
  ∃ (k : Int) (t : ByteArray) (n : Nat), e = .returned (.tuple #[.agg #[.int .u8 k, .string t, .int .i64 0, .int .i64 0, .int .i64 0], .int .i64 n]) ∧ n ≤ 140737488351240 ∧ Below w.heap.size w w' ∧
    ((s.data.toList.head?.map isLetter = some true → k = kindL s.data.toList ∧ n = (s.data.toList.takeWhile isWordByte).length) ∧ (s.data.toList.head?.map isLetter = some false → k ≠ 4))

set_option maxRecDepth 100000 in
set_option maxHeartbeats 2000000 in
theorem one_letter (s : ByteArray) (re : Bool) (hs : s.size ≤ 140737488351232) (h0 : 0 < s.size) (hl : isLetter s[0] = true) (w : World) :
    Calls Tryd.prog 45 #[.string s, .bool re] w (OnePost s w) := by
  have H0 := Lib.hid (letter_asks.calls s[0])
  rw [hl] at H0
  obtain ⟨n, hn⟩ : ∃ n, n = (s.data.toList.takeWhile isWordByte).length := ⟨_, rfl⟩
  have hn1 : n ≤ s.size := by rw [hn, ← data_len]; exact tw_le _ _
  have C0 := Lib.hid (fun W => run_any 53 isWordByte word_asks s hs W)
  rw [← hn] at C0
  have Hn := Lib.hid hn
  have Hl := Lib.hid hl
  clear hn hl
  go_enter Tryd.func45, Tryd.ntmps45
  go_upto_region 4 with (first
    | (go_at_call 52; ((with_reducible refine (H0.out _).mono ?_); rintro e w' ⟨rfl, rfl⟩))
    | (go_at_call 48; ((with_reducible refine (C0.out _).mono ?_); rintro e w' ⟨rfl, rfl⟩))
    | (go_at_call 55; ((with_reducible refine (words_any _).mono ?_); rintro e w1 ⟨rfl, hB1⟩))
    | (refine wpList_store_rowTo rfl 104 (.tmp 7) (.tmp 20) rfl rfl _ wordCells rfl rfl 104 _ (heap_alloc_new _ _) (by as_aux_lemma => kernel_rfl) (by as_aux_lemma => kernel_rfl) (by as_aux_lemma => kernel_rfl) ?_))
  have hB2 : Below w.heap.size w w1 := ((Below.refl _ _).alloc (Nat.le_refl _) _).trans (hB1.mono (by simp))
  have hk1 : Blk w1 w.heap.size 78 #[.int .u8 0, .string ⟨#[]⟩, .int .i64 0, .int .i64 0, .int .i64 0] := (Blk.new w _ _).below hB1 (by simp)
  generalize hWW : (w1.alloc _).setRow w1.heap.size wordCells = W
  have hB : Below w.heap.size w W := by rw [← hWW]; exact below_setRow (hB2.alloc hB2.size _) hB2.size _
  have hk : Blk W w.heap.size 78 #[.int .u8 0, .string ⟨#[]⟩, .int .i64 0, .int .i64 0, .int .i64 0] := by rw [← hWW]; exact (hk1.alloc _).farRow (by have := hk1.lt; omega) _
  have hkw : Blk W w1.heap.size 104 wordCells := by rw [← hWW]; exact Blk.setRow (Blk.new _ _ _) _
  have HB := Lib.hid hB
  have HK := Lib.hid hk
  clear hWW hB2 hk1 hB hk
  have CW := Lib.hid (fun x n => contains_words x (W.drewN n) w1.heap.size _ (hkw.drewN n))
  clear hkw hB1
  refine wp_region_quiet_lit (by kernel_rfl) (by kernel_rfl) ?_
  go_big_quiet_want
  refine quiet_of_run (.slice (some ⟨w1.heap.size, 0, none⟩) 33 33) (fun W' _ => run_slice_op _ _ _ _ _ _ rfl (sliceAt33 _ W')) ?_
  simp only [Act.put, List.setIfInBounds_toArray, List.set_cons_succ, List.set_cons_zero]
  go_big_quiet_on
  repeat (go_big_quiet_step ((go_at_call 33; exact Calls.quiet_of_same (CW.out _ _))))
  refine wpQuiet_nil ?_
  intro W' hW'
  obtain ⟨nq, rfl⟩ := hW'
  have e1 : (s.extract 0 n).data.toList = s.data.toList.takeWhile isWordByte := by
    rw [ext_mid, List.drop_zero, Nat.sub_zero, Hn.out]
    exact (take_tw _ _)
  have E1 := Lib.hid e1
  clear e1
  go_wp2_with (first
    | (go_at_call 47; ((with_reducible refine (hp_at s _ n _).mono ?_); rintro e w' ⟨rfl, rfl⟩))
    | (refine wpList_store_rowTo rfl 78 (.tmp 4) _ rfl rfl w.heap.size _ rfl rfl 78 _ (HK.out.drewN nq) (by as_aux_lemma => kernel_rfl) (by as_aux_lemma => kernel_rfl) (by as_aux_lemma => kernel_rfl) ?_))
  all_goals
    refine one_ret rfl rfl rfl (Blk.setRow (HK.out.drewN nq) _) ⟨_, _, n, rfl, by omega, below_setRow (below_drewN HB.out nq) (Nat.le_refl _) _, fun _ => ⟨?_, Hn.out⟩, fun h => ?_⟩
  · rw [kindL, if_pos (by rw [← E1.out]; assumption)]
  · rw [head_of s h0, Option.map_some, Hl.out] at h; cases h
  · rw [kindL, if_neg (by rw [← E1.out]; assumption), if_pos (by rw [← Hn.out]; assumption)]
  · rw [head_of s h0, Option.map_some, Hl.out] at h; cases h
  · rw [kindL, if_neg (by rw [← E1.out]; assumption), if_neg (by rw [← Hn.out]; simp; assumption)]
  · rw [head_of s h0, Option.map_some, Hl.out] at h; cases h

def signsB : List ByteArray := signs.map fun l => ⟨l.toArray⟩
theorem index_sign (j : Nat) (h : j < 39) (W : World) : (Instr.index 108 (.agg signCells) (.int .i64 (j : Int))).run Tryd.prog W = .ok (.string (signsB.getD j ByteArray.empty)) W := by
  refine run_index_one _ _ 39 _ _ j _ W Tryd.underlying108 (Tryd.sizeOf9 W) (Tryd.isAgg9 W) h ?_
  have hl : j < signs.length := by have : signs.length = 39 := rfl; omega
  unfold signCells signsB
  simp [List.getElem?_eq_getElem hl]
theorem sign_small (j : Nat) : (signsB.getD j ByteArray.empty).size ≤ 2 := by
  have h : ∀ l ∈ signsB, l.size ≤ 2 := by decide +kernel
  rcases Nat.lt_or_ge j signsB.length with hj | hj
  · rw [List.getD_eq_getElem?_getD, List.getElem?_eq_getElem hj]; exact h _ (List.getElem_mem hj)
  · rw [List.getD_eq_getElem?_getD, List.getElem?_eq_none hj]; decide
theorem powerL_le (l : Bytes) : powerL l ≤ l.length := by
  match l with
  | [] => simp [powerL]
  | [c] => simp only [powerL]; split <;> simp
  | c :: d :: r =>
    have h1 := tw_le isDigit (d :: r)
    have h2 := tw_le isDigit r
    simp only [powerL, List.length_cons] at *
    by_cases a : c ||| 32 = 101
    · by_cases b : d = 43 ∨ d = 45
      · simp only [a, b, if_true, List.drop_succ_cons, List.drop_zero]; split <;> omega
      · simp only [a, b, if_true, if_false, List.drop_succ_cons, List.drop_zero]; split <;> omega
    · simp only [a, if_false]; omega
theorem numberL_le (l : Bytes) : numberL l ≤ l.length := by
  unfold numberL
  have h1 := dots_le l
  have h2 := powerL_le (l.drop (dots l))
  rw [List.length_drop] at h2
  split <;> omega

set_option maxRecDepth 100000 in
set_option maxHeartbeats 2000000 in
theorem one_other (s : ByteArray) (re : Bool) (hs : s.size ≤ 140737488351232) (h0 : 0 < s.size) (hl : isLetter s[0] = false) (w : World) :
    Calls Tryd.prog 45 #[.string s, .bool re] w (OnePost s w) := by
  have H0 := Lib.hid (letter_asks.calls s[0])
  rw [hl] at H0
  have Hl := Lib.hid hl
  clear hl
  obtain ⟨q, hq⟩ : ∃ q, q = numberL s.data.toList := ⟨_, rfl⟩
  have hq1 : q ≤ s.size := by rw [hq, ← data_len]; exact numberL_le _
  have C0 := Lib.hid (fun W => number_any s hs W)
  rw [← hq] at C0
  clear hq
  have HK : Hid (∀ w1, Below (w.alloc (.cells #[.int .u8 0, .string ⟨#[]⟩, .int .i64 0, .int .i64 0, .int .i64 0] 78)).heap.size (w.alloc (.cells #[.int .u8 0, .string ⟨#[]⟩, .int .i64 0, .int .i64 0, .int .i64 0] 78)) w1 →
      Blk w1 w.heap.size 78 #[.int .u8 0, .string ⟨#[]⟩, .int .i64 0, .int .i64 0, .int .i64 0] ∧ Below w.heap.size w w1) :=
    fun w1 h => ⟨(Blk.new w _ _).below h (by simp), ((Below.refl _ _).alloc (Nat.le_refl _) _).trans (h.mono (by simp))⟩
  have HH : Hid (∀ (k : Int) (m : Nat), s.data.toList.head?.map isLetter = some true → k = kindL s.data.toList ∧ m = (s.data.toList.takeWhile isWordByte).length) := fun k m h => by rw [head_of s h0, Option.map_some, Hl.out] at h; cases h
  go_enter Tryd.func45, Tryd.ntmps45
  go_wp2_with (first
    | (go_at_call 52; ((with_reducible refine (H0.out _).mono ?_); rintro e w' ⟨rfl, rfl⟩))
    | (go_at_call 56; ((with_reducible refine (C0.out _).mono ?_); rintro e w' ⟨rfl, rfl⟩))
    | (go_at_call 57; ((with_reducible refine (quoted_any s hs h0 _).mono ?_); rintro e w1 ⟨t, m, rfl, hm, hB1⟩))
    | (go_at_call 58; ((with_reducible refine (signs_any _).mono ?_); rintro e w1 ⟨rfl, hB1⟩))
    | (refine wpList_store_rowTo rfl 78 (.tmp 4) _ rfl rfl w.heap.size _ rfl rfl 78 _ (HK.out _ hB1).1 (by as_aux_lemma => kernel_rfl) (by as_aux_lemma => kernel_rfl) (by as_aux_lemma => kernel_rfl) ?_))
  · exact one_ret rfl rfl rfl (Blk.new w _ _) ⟨1, _, q, rfl, by omega, (Below.refl _ _).alloc (Nat.le_refl _) _, HH.out _ _, fun _ => by decide⟩
  · exact one_ret rfl rfl rfl (Blk.new w _ _) ⟨8, _, 1, rfl, by omega, (Below.refl _ _).alloc (Nat.le_refl _) _, HH.out _ _, fun _ => by decide⟩
  · exact one_ret rfl rfl rfl (Blk.setRow (HK.out _ hB1).1 _) ⟨2, _, m, rfl, by omega, below_setRow (HK.out _ hB1).2 (Nat.le_refl _) _, HH.out _ _, fun _ => by decide⟩
  · exact one_ret rfl rfl rfl (Blk.setRow (HK.out _ hB1).1 _) ⟨3, _, m, rfl, by omega, below_setRow (HK.out _ hB1).2 (Nat.le_refl _) _, HH.out _ _, fun _ => by decide⟩
  all_goals
    obtain ⟨hb, hbw⟩ := HK.out _ hB1
    have HT := Lib.hid hb
    have HW := Lib.hid hbw
    clear hb hbw hB1 H0 C0 HK
    go_loop [89] (fun i => ∃ j : Nat, j ≤ 39 ∧ i = .int .i64 j) (fun i => 39 - (intOf i).toNat)
    case atStart => exact ⟨0, by omega, rfl⟩
    case round =>
      obtain ⟨j, hj, rfl⟩ := hrel
      by_cases hlt : j < 39
      · have hix := index_sign j hlt w1
        have hsm := sign_small j
        generalize hx : signsB.getD j ByteArray.empty = x at hix hsm
        clear hx
        go_wp2_with (first
          | (go_at_call 47; ((with_reducible refine (Tryd.strings_HasPrefix s x w1).mono ?_); rintro e w' ⟨rfl, rfl⟩))
          | (refine wpList_store_rowTo rfl 78 (.tmp 4) _ rfl rfl w.heap.size _ rfl rfl 78 _ HT.out (by as_aux_lemma => kernel_rfl) (by as_aux_lemma => kernel_rfl) (by as_aux_lemma => kernel_rfl) ?_))
        · exact one_ret rfl rfl rfl (Blk.setRow HT.out _) ⟨7, _, x.size, rfl, by omega, below_setRow HW.out (Nat.le_refl _) _, HH.out _ _, fun _ => by decide⟩
        · go_round
          case rel => exact ⟨j + 1, by omega, by go_num⟩
          case measure => simp [intOf]; omega
      · go_wp2_with (refine wpList_store_rowTo rfl 78 (.tmp 4) _ rfl rfl w.heap.size _ rfl rfl 78 _ HT.out (by as_aux_lemma => kernel_rfl) (by as_aux_lemma => kernel_rfl) (by as_aux_lemma => kernel_rfl) ?_)
        exact one_ret rfl rfl rfl (Blk.setRow HT.out _) ⟨0, _, 0, rfl, by omega, below_setRow HW.out (Nat.le_refl _) _, HH.out _ _, fun _ => by decide⟩
end Go.Proofs.YtdmiakfgemeelaaDoor
