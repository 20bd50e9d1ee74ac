/- The contracts of lex.Next at the head of a text, and of nodes.name. -/
import Derived.Test.YtdmiakfgemeelaaDoorLex7
namespace Go.Proofs.YtdmiakfgemeelaaDoor
set_option linter.unusedSimpArgs false
set_option linter.unusedVariables false
open Go.RowKit

/-- Is a text a name? -/
def isName (l : Bytes) : Bool := decide (l.length ≤ 65536) && l.all isWordByte && (l.head?.map isLetter == some true) && !decide (l ∈ words)

theorem tw_all {p : UInt8 → Bool} : ∀ {l : Bytes}, l.all p = true → l.takeWhile p = l
  | [], _ => rfl
  | b :: l, h => by simp at h; simp [h.1]; exact tw_all (by simpa using h.2)
theorem tw_full {p : UInt8 → Bool} : ∀ {l : Bytes}, (l.takeWhile p).length = l.length → l.all p = true
  | [], _ => rfl
  | b :: l, h => by
    rw [List.takeWhile_cons] at h
    split at h
    · rename_i hb; simp at h; simp [hb]; have := tw_full h; simpa using this
    · simp at h
theorem isName_parts {l : Bytes} (h : isName l = true) : l.length ≤ 65536 ∧ l.all isWordByte = true ∧ l.head?.map isLetter = some true ∧ l ∉ words := by
  unfold isName at h
  simp only [Bool.and_eq_true, decide_eq_true_eq, beq_iff_eq, Bool.not_eq_true', decide_eq_false_iff_not] at h
  exact ⟨h.1.1.1, h.1.1.2, h.1.2, h.2⟩
theorem isName_of {l : Bytes} (h1 : l.length ≤ 65536) (h2 : l.all isWordByte = true) (h3 : l.head?.map isLetter = some true) (h4 : l ∉ words) : isName l = true := by
  unfold isName
  simp only [Bool.and_eq_true, decide_eq_true_eq, beq_iff_eq, Bool.not_eq_true', decide_eq_false_iff_not]
  exact ⟨⟨⟨h1, h2⟩, h3⟩, h4⟩
theorem letter_pass {l : Bytes} (h : l.head?.map isLetter = some true) : passL l = 0 ∧ 0 < l.length := by
  cases l with
  | nil => simp at h
  | cons b r =>
    simp at h
    have h1 : Lib.hasPrefix (b :: r) [92, 10] = false := by
      unfold Lib.hasPrefix
      by_cases e : (92 : UInt8) = b
      · subst e; exact absurd h (by decide)
      · simp [List.isPrefixOf, e]
    have h2 : Lib.hasPrefix (b :: r) [35] = false := by
      unfold Lib.hasPrefix
      by_cases e : (35 : UInt8) = b
      · subst e; exact absurd h (by decide)
      · simp [List.isPrefixOf, e]
    have h3 : isBlank b = false := by
      have hl := (isLetter_iff b).1 h
      have hb := isBlank_iff b
      cases hc : isBlank b
      · rfl
      · have := hb.1 hc; omega
    have h4 : ((b :: r).takeWhile isBlank).length = 0 := by simp [List.takeWhile_cons, h3]
    rw [passL_eq, h1, h2, h4]
    simp
theorem kind_name {l : Bytes} (h : l.all isWordByte = true) (hw : l ∉ words) : kindL l = 4 := by
  unfold kindL
  rw [tw_all h, if_neg hw, List.drop_length]
  rfl
/-- What Next answers tells a name. -/
theorem next_tells {l : Bytes} {q n : Nat} {k : Int} (h6 : l.length ≤ 65536) (hq : q = passL l) (hlt : q < l.length)
    (h : ((l.drop q).head?.map isLetter = some true → k = kindL (l.drop q) ∧ n = ((l.drop q).takeWhile isWordByte).length) ∧ ((l.drop q).head?.map isLetter = some false → k ≠ 4)) :
    (isName l = true → k = 4 ∧ n = l.length) ∧ (k = 4 → n = l.length → isName l = true) := by
  constructor
  · intro hn
    obtain ⟨h1, h2, h3, h4⟩ := isName_parts hn
    have hp := (letter_pass h3).1
    rw [hp] at hq
    subst hq
    rw [List.drop_zero] at h
    obtain ⟨hk, hn⟩ := h.1 h3
    exact ⟨by rw [hk, kind_name h2 h4], by rw [hn, tw_all h2]⟩
  · intro hk hn
    cases hh : (l.drop q).head?.map isLetter with
    | none =>
      have : (l.drop q).length = 0 := by cases hd : l.drop q <;> simp [hd] at hh; rfl
      rw [List.length_drop] at this
      omega
    | some b =>
      cases b
      · exact absurd hk (h.2 hh)
      · obtain ⟨hk', hn'⟩ := h.1 hh
        have hle := tw_le isWordByte (l.drop q)
        rw [List.length_drop] at hle
        have hq0 : q = 0 := by omega
        rw [hq0, List.drop_zero] at hn' hk' hh
        have hall := tw_full (hn'.symm.trans hn)
        refine isName_of h6 hall hh fun hw => ?_
        rw [hk', kindL, tw_all hall, if_pos hw] at hk
        omega

def NextPost (s : ByteArray) (w : World) (e : Ending) (w' : World) : Prop :=
  ∃ (k ln a z fe fl : Int) (t : ByteArray), e = .returned (.tuple #[.agg #[.int .u8 k, .string t, .int .i64 ln, .int .i64 a, .int .i64 z], .agg #[.int .i64 fe, .int .i64 fl]]) ∧ Below w.heap.size w w' ∧
    0 ≤ a ∧ a ≤ 140737488351232 ∧ 0 ≤ z ∧ z ≤ 562949953421312 ∧ ((fe = 0 ∧ k = 4 ∧ z - a = s.size) ↔ isName s.data.toList = true)

theorem one_any (s : ByteArray) (re : Bool) (hs : s.size ≤ 140737488351232) (h0 : 0 < s.size) (w : World) :
    Calls Tryd.prog 45 #[.string s, .bool re] w (OnePost s w) := by
  cases hl : isLetter s[0]
  · exact one_other s re hs h0 hl w
  · exact one_letter s re hs h0 hl w

abbrev tok0 : Obj := .cells #[.int .u8 0, .string ⟨#[]⟩, .int .i64 0, .int .i64 0, .int .i64 0] 78
abbrev flt0 : Obj := .cells #[.int .i64 0, .int .i64 0] 81
theorem flt_size : (Tryd.prog.info? 81).map (·.size) = some 2 := by kernel_rfl

theorem next_ret {R : Ending → World → Prop} {a : Act} {W : World} {g g' : Nat} {c0 c1 c2 c3 c4 d0 d1 : Value} (h6 : a.tmps.getD 6 undef = .pointer (some ⟨g, 0, none⟩)) (h7 : a.tmps.getD 7 undef = .pointer (some ⟨g', 0, none⟩)) (hd : a.defers = [])
    (hb : Blk W g 78 #[c0, c1, c2, c3, c4]) (hb' : Blk W g' 81 #[d0, d1]) (hR : R (.returned (.tuple #[.agg #[c0, c1, c2, c3, c4], .agg #[d0, d1]])) W) : bodyPost Tryd.prog Tryd.f38 R .ret a W :=
  bodyPost_ret (results_row_row Tryd.results38 _ _ g g' 78 81 _ _ _ _ h6 h7 hb hb' Tryd.underlying78 rfl tok_size Tryd.underlying81 rfl flt_size) hd hR

theorem new2 (w : World) (a b : Obj) (t : TypeId) (cs : Array Value) (h : a = .cells cs t) : Blk ((w.alloc a).alloc b) w.heap.size t cs := by
  subst h
  exact (Blk.new w t cs).alloc _
theorem new2' (w : World) (a b : Obj) (t : TypeId) (cs : Array Value) (h : b = .cells cs t) : Blk ((w.alloc a).alloc b) (w.heap.size + 1) t cs := by
  subst h
  have := Blk.new (w.alloc a) t cs
  simpa using this
theorem below2 (w : World) (a b : Obj) : Below w.heap.size w ((w.alloc a).alloc b) := ((Below.refl _ _).alloc (Nat.le_refl _) _).alloc (by simp) _

theorem Next_long (s : ByteArray) (h : 65536 < s.size) (w : World) :
    Calls Tryd.prog 38 #[.string s, .int .i64 0, .bool false] w (NextPost s w) := by
  go_enter Tryd.func38, Tryd.ntmps38
  go_wp2_with fail
  refine next_ret rfl rfl rfl (new2 _ _ _ _ _ rfl) (new2' _ _ _ _ _ rfl) ⟨0, 0, 0, 0, 3, 0, _, rfl, below2 _ _ _, by omega, by omega, by omega, by omega, ?_⟩
  constructor
  · rintro ⟨h1, _⟩; cases h1
  · intro h1; simp [isName] at h1; omega

set_option maxRecDepth 100000 in
set_option maxHeartbeats 2000000 in
theorem Next_any (s : ByteArray) (h : s.size ≤ 65536) (w : World) :
    Calls Tryd.prog 38 #[.string s, .int .i64 0, .bool false] w (NextPost s w) := by
  have hs : s.size ≤ 140737488351232 := by omega
  have Cp := Lib.hid (fun W => pass_any s hs W)
  obtain ⟨q, hq⟩ : ∃ q, q = passL s.data.toList := ⟨_, rfl⟩
  have hq1 : q ≤ s.size := by rw [hq, ← data_len]; exact passL_le _
  rw [← hq] at Cp
  have Hq := Lib.hid hq
  clear hq
  have Cl := Lib.hid (fun W => Line_any s q hs hq1 W)
  have hln : 1 + (s.data.toList.take q).count 10 ≤ 65537 := by
    have := List.count_le_length (a := (10 : UInt8)) (l := s.data.toList.take q)
    have := List.length_take_le q s.data.toList
    omega
  generalize 1 + (s.data.toList.take q).count 10 = ln at Cl hln
  have HK : Hid (∀ w1, Below ((w.alloc tok0).alloc flt0).heap.size ((w.alloc tok0).alloc flt0) w1 → Blk w1 w.heap.size 78 #[.int .u8 0, .string ⟨#[]⟩, .int .i64 0, .int .i64 0, .int .i64 0] ∧ Blk w1 (w.heap.size + 1) 81 #[.int .i64 0, .int .i64 0] ∧ Below w.heap.size w w1 ∧ w.heap.size + 1 < w1.heap.size) :=
    fun w1 h => ⟨(new2 w _ _ _ _ rfl).below h (by simp; omega), (new2' w _ _ _ _ rfl).below h (by simp), (below2 w _ _).trans (h.mono (by simp; omega)), by have := h.size; simp at this; omega⟩
  by_cases he : q = s.size
  · have hee : ((q : Int) == s.size) = true := beq_iff_eq.2 (by omega)
    have HE := Lib.hid he
    clear he
    go_enter Tryd.func38, Tryd.ntmps38
    go_wp2_with (first
      | (go_at_call 43; ((with_reducible refine (Cp.out _).mono ?_); rintro e w' ⟨rfl, rfl⟩))
      | (go_at_call 44; ((with_reducible refine (Cl.out _).mono ?_); rintro e w' ⟨rfl, rfl⟩)))
    refine next_ret rfl rfl rfl (new2 _ _ _ _ _ rfl) (new2' _ _ _ _ _ rfl) ⟨9, _, q, q, 0, 0, _, rfl, below2 _ _ _, by omega, by omega, by omega, by omega, ?_⟩
    constructor
    · rintro ⟨_, h9, _⟩; cases h9
    · intro hn
      obtain ⟨_, _, h3, _⟩ := isName_parts hn
      obtain ⟨hp, hl⟩ := letter_pass h3
      rw [data_len] at hl
      have := HE.out
      have := Hq.out
      omega
  · have hsz : (s.extract q s.size).size = s.size - q := by rw [ByteArray.size_extract]; omega
    have C1 := Lib.hid (fun W => one_any (s.extract q s.size) false (by omega) (by omega) W)
    have HZ := Lib.hid hsz
    clear hsz
    go_enter Tryd.func38, Tryd.ntmps38
    go_wp2_with (first
      | (go_at_call 43; ((with_reducible refine (Cp.out _).mono ?_); rintro e w' ⟨rfl, rfl⟩))
      | (go_at_call 44; ((with_reducible refine (Cl.out _).mono ?_); rintro e w' ⟨rfl, rfl⟩))
      | (go_at_call 45; ((with_reducible refine (C1.out _).mono ?_); rintro e w1 ⟨k, t, n, rfl, hn, hB1, hk⟩; have Hk := Lib.hid hk; clear hk))
      | (refine wpList_store_rowTo rfl 78 (.tmp 6) _ rfl rfl w.heap.size _ rfl rfl 78 _ (((HK.out _ hB1).1).alloc _) (by as_aux_lemma => kernel_rfl) (by as_aux_lemma => kernel_rfl) (by as_aux_lemma => kernel_rfl) ?_)
      | (refine wpList_store_rowTo rfl 81 (.tmp 7) _ rfl rfl (w.heap.size + 1) _ rfl rfl 81 _ ((((HK.out _ hB1).2.1).alloc _).farRow (by omega) _) (by as_aux_lemma => kernel_rfl) (by as_aux_lemma => kernel_rfl) (by as_aux_lemma => kernel_rfl) ?_))
    all_goals
      have hkk := Hk.out
      rw [ext_end] at hkk
      have T := next_tells (l := s.data.toList) (by rw [data_len]; exact h) Hq.out (by rw [data_len]; omega) hkk
      rw [data_len] at T
    · have hn0 := beq_iff_eq.1 ‹((n : Int) == 0) = true›
      refine next_ret rfl rfl rfl (Blk.farRow (Blk.setRow (((HK.out _ hB1).1).alloc _) _) (by omega) _) (Blk.setRow ((((HK.out _ hB1).2.1).alloc _).farRow (by omega) _) _)
        ⟨_, _, _, _, 100, ln, _, rfl, below_setRow (below_setRow ((HK.out _ hB1).2.2.1.alloc (by have := (HK.out _ hB1).2.2.2; omega) _) (Nat.le_refl _) _) (by omega) _, by omega, by omega, by omega, by omega, ?_⟩
      constructor
      · rintro ⟨h1, _⟩; cases h1
      · intro hn'; have := (T.1 hn').2; omega
    · refine next_ret rfl rfl rfl (Blk.farRow (Blk.setRow (((HK.out _ hB1).1).alloc _) _) (by omega) _) (Blk.setRow ((((HK.out _ hB1).2.1).alloc _).farRow (by omega) _) _)
        ⟨k, ln, q, q + n, 0, 0, _, rfl, below_setRow (below_setRow ((HK.out _ hB1).2.2.1.alloc (by have := (HK.out _ hB1).2.2.2; omega) _) (Nat.le_refl _) _) (by omega) _, by omega, by omega, by omega, by omega, ?_⟩
      constructor
      · rintro ⟨_, h4, h5⟩; exact T.2 h4 (by omega)
      · intro hn'; have := T.1 hn'; exact ⟨rfl, this.1, by omega⟩

theorem name_any (s : ByteArray) (hs : s.size ≤ 140737488351232) (w : World) :
    Calls Tryd.prog 32 #[.string s] w fun e w' => e = .returned (.bool (isName s.data.toList)) ∧ Below w.heap.size w w' := by
  have C : Hid (∀ W, Calls Tryd.prog 38 #[.string s, .int .i64 0, .bool false] W (NextPost s W)) := by
    intro W
    rcases Nat.lt_or_ge 65536 s.size with h | h
    · exact Next_long s h W
    · exact Next_any s h W
  go_enter Tryd.func32, Tryd.ntmps32
  go_wp2_with (go_at_call 38; ((with_reducible refine (C.out _).mono ?_); rintro e w1 ⟨k, ln, a, z, fe, fl, t, rfl, hB, ha0, ha1, hz0, hz1, hk⟩; have Hk := Lib.hid hk; clear hk))
  all_goals
    go_ret
    refine ⟨ret_bool ?_, ((Below.refl _ _).trans hB).alloc (by have := hB.size; omega) _ |>.alloc (by have := hB.size; simp; omega) _⟩
    rw [Bool.eq_iff_iff, ← Hk.out]
    simp [*]
end Go.Proofs.YtdmiakfgemeelaaDoor
