/- The contract of lex.number. -/
import Derived.Test.YtdmiakfgemeelaaDoorLex2
import Derived.Deep.DeepCutAuto
namespace Go.Proofs.YtdmiakfgemeelaaDoor
set_option linter.unusedSimpArgs false
set_option linter.unusedVariables false
open Go.RowKit

theorem or32_all : ∀ n : Fin 256, (bits .or .u8 (n.val : Int) 32 == 101) = decide ((UInt8.ofNat n.val) ||| 32 = 101) := by decide +kernel
theorem or32 (c : UInt8) : (bits .or .u8 (c.toNat : Int) 32 == 101) = decide (c ||| 32 = 101) := by
  have h := or32_all ⟨c.toNat, c.toNat_lt⟩
  simpa using h
theorem cons_of (r : ByteArray) (h : 0 < r.size) : r.data.toList = r[0] :: r.data.toList.drop 1 := by
  have h1 : 0 < r.data.toList.length := by simpa using h
  conv => lhs; rw [← List.drop_zero (l := r.data.toList), List.drop_eq_getElem_cons h1]
  rfl
theorem cons_of2 (r : ByteArray) (h : 1 < r.size) : r.data.toList = r[0] :: r[1] :: r.data.toList.drop 2 := by
  have h1 : 1 < r.data.toList.length := by simpa using h
  have h2 : r.data.toList.drop 1 = r[1] :: r.data.toList.drop 2 := by rw [List.drop_eq_getElem_cons h1]; rfl
  have h3 := cons_of r (by omega)
  rw [h2] at h3
  exact h3
theorem power_nil (r : ByteArray) (h : r.toList = []) : powerL r.data.toList = 0 := by
  rw [ByteArray.toList_eq] at h; rw [h]; rfl
theorem power_no (r : ByteArray) (h : 0 < r.size) (h2 : (bits .or .u8 (r[0].toNat : Int) 32 == 101) = false) : powerL r.data.toList = 0 := by
  rw [or32] at h2
  rw [cons_of r h]
  have h2 := of_decide_eq_false h2
  simp [powerL, h2]
theorem power_one (r : ByteArray) (h : r.size = 1) (h2 : (bits .or .u8 (r[0].toNat : Int) 32 == 101) = true) :
    powerL r.data.toList = if 0 < ((r.data.toList.drop 1).takeWhile isDigit).length then 1 + ((r.data.toList.drop 1).takeWhile isDigit).length else 0 := by
  rw [or32] at h2
  have h2 := of_decide_eq_true h2
  have hn : r.data.toList.drop 1 = [] := List.drop_eq_nil_of_le (by simp; omega)
  rw [cons_of r (by omega), hn]
  simp [powerL, h2]
theorem power_two (r : ByteArray) (h : 1 < r.size) (h2 : (bits .or .u8 (r[0].toNat : Int) 32 == 101) = true) :
    powerL r.data.toList = if r[1] = 43 ∨ r[1] = 45 then
      (if 0 < ((r.data.toList.drop 2).takeWhile isDigit).length then 2 + ((r.data.toList.drop 2).takeWhile isDigit).length else 0)
      else (if 0 < ((r.data.toList.drop 1).takeWhile isDigit).length then 1 + ((r.data.toList.drop 1).takeWhile isDigit).length else 0) := by
  rw [or32] at h2
  have h2 := of_decide_eq_true h2
  rw [cons_of2 r h]
  by_cases c : r[1] = 43 ∨ r[1] = 45 <;> simp [powerL, h2, c]
theorem dots_le (l : Bytes) : dots l ≤ l.length := by
  unfold dots
  have := tw_le isDigit l
  split
  · rename_i h
    simp at h
    obtain ⟨r, hr⟩ := hp1 h.1
    have h1 := congrArg List.length hr
    have h2 := tw_le isDigit (l.drop ((l.takeWhile isDigit).length + 1))
    simp at h1 h2
    omega
  · omega

set_option maxHeartbeats 800000 in
theorem number_any (s : ByteArray) (hs : s.size ≤ 140737488351232) (w : World) :
    Calls Tryd.prog 56 #[.string s] w fun e w' => e = .returned (.int .i64 (numberL s.data.toList : Nat)) ∧ w = w' := by
  have HL := Lib.hid (data_len s)
  obtain ⟨n, hn⟩ : ∃ n, n = (s.data.toList.takeWhile isDigit).length := ⟨_, rfl⟩
  have hn1 : n ≤ s.size := by rw [hn, ← HL.out]; exact tw_le _ _
  obtain ⟨k, hk⟩ : ∃ k, k = ((s.data.toList.drop (n + 1)).takeWhile isDigit).length := ⟨_, rfl⟩
  have hk1 : n + 1 ≤ s.size → n + 1 + k ≤ s.size := by intro h; have := tw_le isDigit (s.data.toList.drop (n + 1)); rw [← hk] at this; simp at this; omega
  have Hn := Lib.hid hn
  have Hk := Lib.hid hk
  have Hk1 := Lib.hid hk1
  have C0 := Lib.hid (fun W => (run_any 54 isDigit digit_asks s hs W))
  rw [← hn] at C0
  clear hn hk hk1
  go_enter Tryd.func56, Tryd.ntmps56
  go_upto_if 13 with (first | (go_at_call 48; ((with_reducible refine (C0.out _).mono ?_); rintro e w' ⟨rfl, rfl⟩)) | (go_at_call 47; ((with_reducible refine (hp_at s _ n _).mono ?_); rintro e w' ⟨rfl, rfl⟩)))
  go_cut [3] (fun s3 wx => s3 = .int .i64 (dots s.data.toList : Nat) ∧ wx = w)
  case first =>
    by_cases hd : Lib.hasPrefix (s.data.toList.drop n) [46] = true
    · have hb : n + 1 ≤ s.size := by
        obtain ⟨r, hr⟩ := hp1 hd
        have e1 := congrArg List.length hr
        rw [List.length_drop, HL.out, List.length_cons] at e1
        omega
      have hk1 := Hk1.out hb
      have Hd := Lib.hid hd
      have C1 := Lib.hid (fun W => run_at 54 isDigit digit_asks s hs (n + 1) W)
      rw [← Hk.out] at C1
      go_wp2_with (go_at_call 48; ((with_reducible refine (C1.out _).mono ?_); rintro e w' ⟨rfl, rfl⟩))
      · have hq : 0 < n + k := by omega
        go_meet
        case rel => exact ⟨by unfold dots; rw [← Hn.out, ← Hk.out, Hd.out, if_pos (by simp; omega)]; go_num, rfl⟩
      · have hq : ¬ 0 < n + k := by omega
        go_meet
        case rel => exact ⟨by unfold dots; rw [← Hn.out, ← Hk.out, if_neg (by simp; omega)], rfl⟩
      · exact absurd (Hd.out.symm.trans ‹_›) (by simp)
    · go_wp2_with fail
      go_meet
      case rel => exact ⟨by unfold dots; rw [← Hn.out, if_neg (by simp [hd])], rfl⟩
  case rest =>
    obtain ⟨rfl, rfl⟩ := hcut
    have hm : dots s.data.toList ≤ s.size := by rw [← HL.out]; exact dots_le _
    generalize hmm : dots s.data.toList = m at hm ⊢
    have Hm := Lib.hid hmm
    clear hmm hn1 Hn Hk Hk1 C0
    by_cases h0 : m = 0
    · subst h0
      go_wp2_with fail
      go_ret
      exact ⟨ret_int (by simp [numberL, Hm.out]), rfl⟩
    have hpos : 0 < m := by omega
    have HN := Lib.hid (show numberL s.data.toList = m + powerL (s.extract m s.size).data.toList by unfold numberL; rw [Hm.out, if_neg h0, ext_end])
    have hz : (s.extract m s.size).size ≤ 140737488351232 := by rw [ByteArray.size_extract]; omega
    go_upto_region 9 with fail
    generalize hr : s.extract m s.size = r at HN hz ⊢
    have Hz := Lib.hid hz
    obtain ⟨x1, hx1⟩ : ∃ x, x = ((r.data.toList.drop 1).takeWhile isDigit).length := ⟨_, rfl⟩
    obtain ⟨x2, hx2⟩ : ∃ x, x = ((r.data.toList.drop 2).takeWhile isDigit).length := ⟨_, rfl⟩
    have q1 : x1 ≤ 140737488351232 := by rw [hx1]; exact Nat.le_trans (tw_le _ _) (by simp; omega)
    have q2 : x2 ≤ 140737488351232 := by rw [hx2]; exact Nat.le_trans (tw_le _ _) (by simp; omega)
    have C1 := Lib.hid (fun W => run_at 54 isDigit digit_asks r hz 1 W)
    have C2 := Lib.hid (fun W => run_at 54 isDigit digit_asks r hz 2 W)
    rw [← hx1] at C1
    rw [← hx2] at C2
    obtain ⟨y, hy⟩ : ∃ y, y = powerL r.data.toList := ⟨_, rfl⟩
    rw [← hy] at HN
    by_cases z0 : r.size = 0
    · have e : r.toList = [] := by rw [ByteArray.toList_eq]; exact List.eq_nil_of_length_eq_zero (by simpa using z0)
      have P0 := Lib.hid (hy.trans (power_nil r e))
      clear hr hx1 hx2 hy
      go_wp2_with fail
      go_ret
      exact ⟨ret_int (by rw [HN.out, P0.out]; rfl), rfl⟩
    have hne : ¬ r.toList = [] := fun e => z0 (by rw [ByteArray.toList_eq] at e; have := congrArg List.length e; simpa using this)
    have hne2 : (!r.toList.isEmpty) = true := by simpa using hne
    by_cases hb : (bits BinOp.or IntKind.u8 (r[0].toNat : Int) 32 == 101) = true
    case neg =>
      have hb := Bool.eq_false_iff.2 hb
      have P0 := Lib.hid (hy.trans (power_no r (by omega) hb))
      clear hr hx1 hx2 hy
      go_wp2_with fail
      all_goals
        go_ret
        exact ⟨ret_int (by rw [HN.out, P0.out]; rfl), rfl⟩
    by_cases z1 : r.size = 1
    · have P1 := Lib.hid (hy.trans (power_one r z1 hb))
      rw [← hx1] at P1
      have z2 : ¬ 1 < r.size := by omega
      have z3 : 0 < r.size := by omega
      clear hr hx1 hx2 hy z1
      go_wp2_with (go_at_call 48; (first | ((with_reducible refine (C1.out _).mono ?_); rintro e w' ⟨rfl, rfl⟩) | ((with_reducible refine (C2.out _).mono ?_); rintro e w' ⟨rfl, rfl⟩)))
      all_goals
        go_ret
        refine ⟨ret_int ?_, rfl⟩
        have P := P1.out
        have N := HN.out
        split at P <;> omega
    have z2 : 1 < r.size := by omega
    have P2 := Lib.hid (hy.trans (power_two r z2 hb))
    rw [← hx1, ← hx2] at P2
    by_cases hs2 : r[1] = 43 ∨ r[1] = 45
    · have P := P2.out
      rw [if_pos hs2] at P
      have PP := Lib.hid P
      have hi : (r[1].toNat : Int) = 43 ∨ (r[1].toNat : Int) = 45 := hs2.imp (fun e => (u8_eq _ 43 (by omega)).1 e) (fun e => (u8_eq _ 45 (by omega)).1 e)
      clear P hr hx1 hx2 hy hs2
      have HI := Lib.hid hi
      rcases hi with hi | hi
      all_goals
        go_wp2_with (go_at_call 48; (first | ((with_reducible refine (C1.out _).mono ?_); rintro e w' ⟨rfl, rfl⟩) | ((with_reducible refine (C2.out _).mono ?_); rintro e w' ⟨rfl, rfl⟩)))
        all_goals
          go_ret
          refine ⟨ret_int ?_, rfl⟩
          have P := PP.out
          have N := HN.out
          split at P <;> omega
    · have P := P2.out
      rw [if_neg hs2] at P
      have PP := Lib.hid P
      have h43 : ((r[1].toNat : Int) == 43) = false := beq_eq_false_iff_ne.2 fun e => hs2 (Or.inl ((u8_eq _ 43 (by omega)).2 e))
      have h45 : ((r[1].toNat : Int) == 45) = false := beq_eq_false_iff_ne.2 fun e => hs2 (Or.inr ((u8_eq _ 45 (by omega)).2 e))
      clear P hr hx1 hx2 hy hs2
      go_wp2_with (go_at_call 48; (first | ((with_reducible refine (C1.out _).mono ?_); rintro e w' ⟨rfl, rfl⟩) | ((with_reducible refine (C2.out _).mono ?_); rintro e w' ⟨rfl, rfl⟩)))
      all_goals
        go_ret
        refine ⟨ret_int ?_, rfl⟩
        have P := PP.out
        have N := HN.out
        split at P <;> omega
end Go.Proofs.YtdmiakfgemeelaaDoor
