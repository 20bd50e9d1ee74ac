/- winnowerkit.hugeExprs, hugeStmts, Huge: where they answer no, the parts are counted. -/
import Derived.Test.YtdmiakfgemeelaaDoorTreeLaw
namespace Go.Proofs.YtdmiakfgemeelaaDoor
set_option linter.unusedSimpArgs false
set_option linter.unusedVariables false
open Go.RowKit

/-- What a count may end in: no: all parts are counted, and they are not too many. -/
def Counted (B nb : Nat) (W : World) (n many cnt : Int) (r : Ending) (w' : World) : Prop :=
  ∃ (b : Bool) (n' : Int), r = .returned (.bool b) ∧ Blk w' nb 3 #[.int .i64 n'] ∧ (b = false → n' = n + cnt ∧ n' ≤ many) ∧ Below B W w'

set_option maxRecDepth 100000 in
set_option maxHeartbeats 1000000 in
theorem hugeE_any (many : Int) (hm0 : 0 ≤ many) (hm1 : many ≤ 1000000) (B nb : Nat) (hnb : B ≤ nb) :
    ∀ (N : Nat) (es : List Ex), szEs es < N → ∀ (A : Option Addr) (c : Nat) (levels n : Int) (W : World), 0 ≤ levels → levels ≤ 1000000 → 0 ≤ n → n ≤ many → es.length ≤ 140737488351232 → ExsIn W B A 0 es → Blk W nb 3 #[.int .i64 n] →
      Calls Tryd.prog 24 #[.slice A es.length c, .int .i64 levels, .int .i64 many, .pointer (some ⟨nb, 0, none⟩)] W (Counted B nb W n many (szEs es)) := by
  intro N
  induction N with
  | zero => intro es h; omega
  | succ N IH =>
    intro es hN A c levels n W hl0 hl1 hn0 hn1 hlen hin hb
    have c0 : W.cell? ⟨nb, 0, none⟩ = some (.int .i64 n) := hb.cell 0
    have f0 : W.frozen? ⟨nb, 0, none⟩ = false := hb.frozen 0
    have HB := Lib.hid hb
    have HI := Lib.hid hin
    have HN := Lib.hid hN
    have IH' := Lib.hid IH
    clear hb hin hN IH
    have hset : ∀ v, Blk (W.setCell ⟨nb, 0, none⟩ (.int .i64 v)) nb 3 #[.int .i64 v] := fun v => HB.out.set_ 0 _
    have hbel : ∀ v, Below B W (W.setCell ⟨nb, 0, none⟩ v) := fun v => (Below.refl _ _).setCell hnb _
    have HS := Lib.hid hset
    have HL := Lib.hid hbel
    clear hset hbel
    obtain ⟨L, hL⟩ : ∃ L, L = es.length := ⟨_, rfl⟩
    rw [← hL] at hlen ⊢
    have HLn := Lib.hid hL
    clear hL
    by_cases hbig : many < n + L
    · go_enter Tryd.func24, Tryd.ntmps24
      go_wp2
      go_ret
      exact ⟨true, _, rfl, HS.out _, fun h => (by cases h), HL.out _⟩
    · by_cases h0 : L = 0
      · subst h0
        have hes : es = [] := List.length_eq_zero_iff.1 HLn.out.symm
        have h1 : ¬ many < n := by omega
        go_enter Tryd.func24, Tryd.ntmps24
        go_wp2_with fail
        go_loop [9] (fun x => x = .int .i64 0) (fun _ => 0)
        case atStart => rfl
        case round =>
          subst hrel
          go_wp2_with fail
          go_ret
          exact ⟨false, _, rfl, HS.out _, fun _ => ⟨by simp [szEs, hes], by omega⟩, HL.out _⟩
      · have h0' : 0 < L := by omega
        by_cases hlev : levels < 1
        · go_enter Tryd.func24, Tryd.ntmps24
          go_wp2_with fail
          go_ret
          exact ⟨true, _, rfl, HS.out _, fun h => (by cases h), HL.out _⟩
        · go_enter Tryd.func24, Tryd.ntmps24
          go_wp2_with fail
          generalize hW1 : W.setCell _ _ = W1
          have hb1 : Blk W1 nb 3 #[.int .i64 (n + L)] := hW1 ▸ HS.out _
          have hB1 : Below B W W1 := hW1 ▸ HL.out _
          clear hW1
          have HB1 := Lib.hid hB1
          have Hb1 := Lib.hid hb1
          clear hB1 hb1 c0 f0
          go_loopw [9] (fun x wr => ∃ (i : Nat) (m : Int), x = .int .i64 i ∧ i ≤ L ∧ m = n + L + kidSum (es.take i) ∧ m ≤ many ∧ Blk wr nb 3 #[.int .i64 m] ∧ Below B W wr) (fun x _ => L - (intOf x).toNat)
          case atStart => exact ⟨0, _, rfl, by omega, by simp [kidSum], by omega, Hb1.out, HB1.out⟩
          case round =>
            obtain ⟨i, m, rfl, hi, hm, hmm, hbr, hBr⟩ := hrel
            have HM := Lib.hid hm
            have HBr := Lib.hid hBr
            have Hbr := Lib.hid hbr
            have hmn : 0 ≤ m := by omega
            clear hbr hm
            by_cases hlt : i < L
            · have hlt' : i < es.length := by have := HLn.out; omega
              obtain ⟨b, o, rfl, hbB, hx⟩ := (HI.out.below hBr).at_ i hlt'
              rw [Nat.zero_add] at hx
              obtain ⟨A3, k3, q0, q1, q2, q3, hkids, hok⟩ := hx.parts
              have hC := IH'.out es[i].kids (by have := szEs_at es i hlt'; have := HN.out; omega) A3 k3 (levels - 1) m wr (by omega) (by omega) hmn hmm hok.2.2.2.2.2 hkids Hbr.out
              have hss := hok.2.2.1
              have HC := Lib.hid hC
              have HT := Lib.hid (kidSum_take es i hlt')
              clear hx hC hkids hBr hok q0 q2
              generalize es[i].kids = kids at *
              generalize es[i].s = str at *
              go_wp2_with fail
              · (with_reducible refine HC.out.mono ?_)
                rintro r w2 ⟨b2, n2, rfl, hb2, hc2, hB2⟩
                have Hb2 := Lib.hid hb2
                have Hc2 := Lib.hid hc2
                have HB2 := Lib.hid hB2
                clear hb2 hc2 hB2 q1 q3
                cases b2 with
                | true =>
                  go_wp2_with fail
                  go_ret
                  exact ⟨true, n2, rfl, Hb2.out, fun h => (by cases h), HBr.out.trans HB2.out⟩
                | false =>
                  go_wp2_with fail
                  go_roundw
                  case rel =>
                    have hh := Hc2.out (by simp)
                    have h1 := HM.out
                    have h2 := HT.out
                    exact ⟨i + 1, n2, by go_num, by omega, by rw [h2]; omega, hh.2, Hb2.out, HBr.out.trans HB2.out⟩
                  case measure => simp [intOf]; omega
              · go_ret
                exact ⟨true, m, rfl, Hbr.out, fun h => (by cases h), HBr.out⟩
            · have hie : i = L := by omega
              subst hie
              go_wp2_with fail
              go_ret
              have h1 := HM.out
              have h2 := HLn.out
              have h3 := szEs_sum es
              rw [h2, List.take_length] at h1
              exact ⟨false, m, rfl, Hbr.out, fun _ => ⟨by omega, hmm⟩, HBr.out⟩

set_option maxRecDepth 100000 in
set_option maxHeartbeats 2000000 in
theorem hugeS_any (many : Int) (hm0 : 0 ≤ many) (hm1 : many ≤ 1000000) (B nb : Nat) (hnb : B ≤ nb) :
    ∀ (N : Nat) (es : List St), szSs es < N → ∀ (A : Option Addr) (c : Nat) (levels n : Int) (W : World), 0 ≤ levels → levels ≤ 1000000 → 0 ≤ n → n ≤ many → es.length ≤ 140737488351232 → StsIn W B A 0 es → Blk W nb 3 #[.int .i64 n] →
      Calls Tryd.prog 25 #[.slice A es.length c, .int .i64 levels, .int .i64 many, .pointer (some ⟨nb, 0, none⟩)] W (Counted B nb W n many (cntSs es)) := by
  intro N
  induction N with
  | zero => intro es h; omega
  | succ N IH =>
    intro es hN A c levels n W hl0 hl1 hn0 hn1 hlen hin hb
    have c0 : W.cell? ⟨nb, 0, none⟩ = some (.int .i64 n) := hb.cell 0
    have f0 : W.frozen? ⟨nb, 0, none⟩ = false := hb.frozen 0
    have HB := Lib.hid hb
    have HI := Lib.hid hin
    have HN := Lib.hid hN
    have IH' := Lib.hid IH
    clear hb hin hN IH
    have hset : ∀ v, Blk (W.setCell ⟨nb, 0, none⟩ (.int .i64 v)) nb 3 #[.int .i64 v] := fun v => HB.out.set_ 0 _
    have hbel : ∀ v, Below B W (W.setCell ⟨nb, 0, none⟩ v) := fun v => (Below.refl _ _).setCell hnb _
    have HS := Lib.hid hset
    have HL := Lib.hid hbel
    clear hset hbel
    obtain ⟨L, hL⟩ : ∃ L, L = es.length := ⟨_, rfl⟩
    rw [← hL] at hlen ⊢
    have HLn := Lib.hid hL
    clear hL
    by_cases hbig : many < n + L
    · go_enter Tryd.func25, Tryd.ntmps25
      go_wp2
      go_ret
      exact ⟨true, _, rfl, HS.out _, fun h => (by cases h), HL.out _⟩
    · by_cases h0 : L = 0
      · subst h0
        have hes : es = [] := List.length_eq_zero_iff.1 HLn.out.symm
        have h1 : ¬ many < n := by omega
        go_enter Tryd.func25, Tryd.ntmps25
        go_wp2_with fail
        go_loop [9] (fun x => x = .int .i64 0) (fun _ => 0)
        case atStart => rfl
        case round =>
          subst hrel
          go_wp2_with fail
          go_ret
          exact ⟨false, _, rfl, HS.out _, fun _ => ⟨by simp [cntSs, hes], by omega⟩, HL.out _⟩
      · have h0' : 0 < L := by omega
        by_cases hlev : levels < 1
        · go_enter Tryd.func25, Tryd.ntmps25
          go_wp2_with fail
          go_ret
          exact ⟨true, _, rfl, HS.out _, fun h => (by cases h), HL.out _⟩
        · go_enter Tryd.func25, Tryd.ntmps25
          go_wp2_with fail
          generalize hW1 : W.setCell _ _ = W1
          have hb1 : Blk W1 nb 3 #[.int .i64 (n + L)] := hW1 ▸ HS.out _
          have hB1 : Below B W W1 := hW1 ▸ HL.out _
          clear hW1
          have HB1 := Lib.hid hB1
          have Hb1 := Lib.hid hb1
          clear hB1 hb1 c0 f0
          go_loopw [9] (fun x wr => ∃ (i : Nat) (m : Int), x = .int .i64 i ∧ i ≤ L ∧ m = n + L + partSum (es.take i) ∧ m ≤ many ∧ Blk wr nb 3 #[.int .i64 m] ∧ Below B W wr) (fun x _ => L - (intOf x).toNat)
          case atStart => exact ⟨0, _, rfl, by omega, by simp [partSum], by omega, Hb1.out, HB1.out⟩
          case round =>
            obtain ⟨i, m, rfl, hi, hm, hmm, hbr, hBr⟩ := hrel
            have HM := Lib.hid hm
            have HBr := Lib.hid hBr
            have Hbr := Lib.hid hbr
            have hmn : 0 ≤ m := by omega
            clear hbr hm
            by_cases hlt : i < L
            · have hlt' : i < es.length := by have := HLn.out; omega
              obtain ⟨b, o, rfl, hbB, hx⟩ := (HI.out.below hBr).at_ i hlt'
              rw [Nat.zero_add] at hx
              have HX := Lib.hid hx
              have HZ := Lib.hid (szSs_at es i hlt')
              have HT := Lib.hid (partSum_take es i hlt')
              clear hx hBr
              generalize es[i] = x at *
              have hq : ∀ w2, Below B wr w2 → ∃ A1 c1 A2 c2 A3 c3, w2.cell? ⟨b, o + i * 7 + 3, none⟩ = some (.slice A1 x.exprs.length c1) ∧ w2.cell? ⟨b, o + i * 7 + 4, none⟩ = some (.slice A2 x.body.length c2) ∧ w2.cell? ⟨b, o + i * 7 + 5, none⟩ = some (.slice A3 x.els.length c3) ∧
                  ExsIn w2 B A1 0 x.exprs ∧ StsIn w2 B A2 0 x.body ∧ StsIn w2 B A3 0 x.els ∧ x.exprs.length ≤ 140737488351232 ∧ x.body.length ≤ 140737488351232 ∧ x.els.length ≤ 140737488351232 := fun w2 h2 => by
                obtain ⟨A1, c1, A2, c2, A3, c3, -, -, -, z3, z4, z5, -, y1, y2, y3, ok⟩ := (HX.out.below hbB h2).parts
                exact ⟨A1, c1, A2, c2, A3, c3, z3, z4, z5, y1, y2, y3, ok.2.2.2.2.2.1, ok.2.2.2.2.2.2.1, ok.2.2.2.2.2.2.2⟩
              have HQ := Lib.hid hq
              clear hq
              obtain ⟨A1, k1, -, -, -, -, q1, -, -, hex, -, -, hl1, -, -⟩ := HQ.out wr (Below.refl _ _)
              have HC := Lib.hid (hugeE_any many hm0 hm1 B nb hnb _ x.exprs (Nat.lt_succ_self _) A1 k1 (levels - 1) m wr (by omega) (by omega) hmn hmm hl1 hex Hbr.out)
              clear hex
              go_wp2_with fail
              (with_reducible refine HC.out.mono ?_)
              rintro r w2 ⟨b2, n2, rfl, hb2, hc2, hB2⟩
              have Hb2 := Lib.hid hb2
              have Hc2 := Lib.hid hc2
              have HB2 := Lib.hid hB2
              clear hb2 hc2 hB2 q1
              cases b2 with
              | true =>
                go_wp2_with fail
                go_ret
                exact ⟨true, n2, rfl, Hb2.out, fun h => (by cases h), HBr.out.trans HB2.out⟩
              | false =>
                obtain ⟨hn2, hn2m⟩ := Hc2.out (by simp)
                have HN2 := Lib.hid hn2
                have hn20 : 0 ≤ n2 := by omega
                clear hn2
                obtain ⟨-, -, A2, k2, -, -, -, q2, -, -, hbd, -, -, hl2, -⟩ := HQ.out w2 HB2.out
                have HC2 := Lib.hid (IH'.out x.body (by have := HZ.out.1; have := HN.out; omega) A2 k2 (levels - 1) n2 w2 (by omega) (by omega) hn20 hn2m hl2 hbd Hb2.out)
                clear hbd
                go_wp2_with fail
                (with_reducible refine HC2.out.mono ?_)
                rintro r w3 ⟨b3, n3, rfl, hb3, hc3, hB3⟩
                have Hb3 := Lib.hid hb3
                have Hc3 := Lib.hid hc3
                have HB3 := Lib.hid (HB2.out.trans hB3)
                clear hb3 hc3 hB3 q2
                cases b3 with
                | true =>
                  go_wp2_with fail
                  go_ret
                  exact ⟨true, n3, rfl, Hb3.out, fun h => (by cases h), HBr.out.trans HB3.out⟩
                | false =>
                  obtain ⟨hn3, hn3m⟩ := Hc3.out (by simp)
                  have HN3 := Lib.hid hn3
                  have hn30 : 0 ≤ n3 := by omega
                  clear hn3
                  obtain ⟨-, -, -, -, A3, k3, -, -, q3, -, -, hel, -, -, hl3⟩ := HQ.out w3 HB3.out
                  have HC3 := Lib.hid (IH'.out x.els (by have := HZ.out.2; have := HN.out; omega) A3 k3 (levels - 1) n3 w3 (by omega) (by omega) hn30 hn3m hl3 hel Hb3.out)
                  clear hel
                  go_wp2_with fail
                  (with_reducible refine HC3.out.mono ?_)
                  rintro r w4 ⟨b4, n4, rfl, hb4, hc4, hB4⟩
                  have Hb4 := Lib.hid hb4
                  have Hc4 := Lib.hid hc4
                  have HB4 := Lib.hid (HB3.out.trans hB4)
                  clear hb4 hc4 hB4 q3
                  cases b4 with
                  | true =>
                    go_wp2_with fail
                    go_ret
                    exact ⟨true, n4, rfl, Hb4.out, fun h => (by cases h), HBr.out.trans HB4.out⟩
                  | false =>
                    go_wp2_with fail
                    go_roundw
                    case rel =>
                      obtain ⟨hn4, hn4m⟩ := Hc4.out (by simp)
                      have h1 := HM.out
                      have h2 := HT.out
                      have h3 := HN2.out
                      have h4 := HN3.out
                      exact ⟨i + 1, n4, by go_num, by omega, by rw [h2]; omega, hn4m, Hb4.out, HBr.out.trans HB4.out⟩
                    case measure => simp [intOf]; omega
            · have hie : i = L := by omega
              subst hie
              go_wp2_with fail
              go_ret
              have h1 := HM.out
              have h2 := HLn.out
              have h3 := cntSs_sum es
              rw [h2, List.take_length] at h1
              exact ⟨false, m, rfl, Hbr.out, fun _ => ⟨by omega, hmm⟩, HBr.out⟩

theorem ItsIn.more {w : World} {B B' i : Nat} {A : Option Addr} {l : List It} (h : ItsIn w B A i l) (hB : B ≤ B') : ItsIn w B' A i l := h.keep (fun _ _ _ => rfl) hB

/-- .. of a program. -/
def Huged (cnt many : Int) (w : World) (r : Ending) (w' : World) : Prop := ∃ b, r = .returned (.bool b) ∧ (b = false → cnt ≤ many) ∧ Below w.heap.size w w'

set_option maxRecDepth 100000 in
set_option maxHeartbeats 1000000 in
theorem Huge_any (A : Option Addr) (c : Nat) (its : List It) (w : World) (hin : ItsIn w w.heap.size A 0 its) (hl : its.length ≤ 140737488351232) (levels many : Int) (hl0 : 0 ≤ levels) (hl1 : levels ≤ 1000000) (hm0 : 0 ≤ many) (hm1 : many ≤ 1000000) :
    Calls Tryd.prog 10 #[.agg #[.slice A its.length c], .int .i64 levels, .int .i64 many] w (Huged (cntIts its) many w) := by
  have HI := Lib.hid hin
  clear hin
  obtain ⟨L, hL⟩ : ∃ L, L = its.length := ⟨_, rfl⟩
  rw [← hL] at hl ⊢
  have HLn := Lib.hid hL
  clear hL
  go_enter Tryd.func10, Tryd.ntmps10
  go_wp2_with fail
  obtain ⟨h0, e0⟩ : ∃ h0, h0 = w.heap.size := ⟨_, rfl⟩
  have b0 := (Blk.new w 39 #[.slice A L c]).alloc (.cells #[.int .i64 0] 3)
  have b1 := Blk.new (w.alloc (.cells #[.slice A L c] 39)) 3 #[.int .i64 0]
  have hB : Below w.heap.size w ((w.alloc (.cells #[.slice A L c] 39)).alloc (.cells #[.int .i64 0] 3)) := ((Below.refl _ _).alloc (Nat.le_refl _) _).alloc (by simp) _
  rw [show (w.alloc (.cells #[.slice A L c] 39)).heap.size = w.heap.size + 1 by simp] at b1
  generalize hW1 : (w.alloc (.cells #[.slice A L c] 39)).alloc (.cells #[.int .i64 0] 3) = W1 at b0 b1 hB ⊢
  clear hW1
  rw [← e0] at b0 b1 hB ⊢
  have H0 := Lib.hid b0
  have H1 := Lib.hid b1
  have HB := Lib.hid hB
  rw [← e0] at HI
  have E0 := Lib.hid e0
  clear b0 b1 hB e0
  go_loopw [8] (fun x wr => ∃ (i : Nat) (m : Int), x = .int .i64 i ∧ i ≤ L ∧ m = cntIts (its.take i) ∧ m ≤ many ∧ Blk wr (h0 + 1) 3 #[.int .i64 m] ∧ Below (h0 + 1) W1 wr) (fun x _ => L - (intOf x).toNat)
  case atStart => exact ⟨0, _, rfl, by omega, by simp [cntIts], by omega, H1.out, Below.refl _ _⟩
  case round =>
    obtain ⟨i, m, rfl, hi, hm, hmm, hbr, hBr⟩ := hrel
    have hp0 := (H0.out.below hBr (by omega)).cell 0
    simp only [List.size_toArray, List.length_cons, List.length_nil, Nat.lt_add_one, getElem?_pos, List.getElem_toArray, List.getElem_cons_zero, Nat.reduceAdd, Nat.lt_add_left_iff_pos, Nat.zero_add] at hp0
    have HM := Lib.hid hm
    have HBr := Lib.hid hBr
    have Hbr := Lib.hid hbr
    have hmn : 0 ≤ m := by omega
    clear hbr hm
    by_cases hlt : i < L
    · have hlt' : i < its.length := by have := HLn.out; omega
      obtain ⟨b, o, rfl, hbB, hx⟩ := ((HI.out.below HB.out).more (Nat.le_succ h0)).at_ i hlt'
      rw [Nat.zero_add] at hx
      have HX := Lib.hid hx
      have HT := Lib.hid (cntIts_take its i hlt')
      clear hx hBr
      generalize its[i] = x at *
      have hq : ∀ w2, Below (h0 + 1) W1 w2 → ∃ A1 c1 A2 c2 A3 c3, w2.cell? ⟨b, o + i * 7 + 2, none⟩ = some (.slice A1 x.params.length c1) ∧ w2.cell? ⟨b, o + i * 7 + 3, none⟩ = some (.slice A2 x.exprs.length c2) ∧ w2.cell? ⟨b, o + i * 7 + 5, none⟩ = some (.slice A3 x.body.length c3) ∧
          ExsIn w2 (h0 + 1) A2 0 x.exprs ∧ StsIn w2 (h0 + 1) A3 0 x.body ∧ x.params.length ≤ 140737488351232 ∧ x.exprs.length ≤ 140737488351232 ∧ x.body.length ≤ 140737488351232 ∧ w2.cell? ⟨h0, 0, none⟩ = some (.slice (some ⟨b, o, none⟩) L c) := fun w2 h2 => by
        obtain ⟨ho, A1, c1, A2, c2, A3, c3, hc, -, h3, h4⟩ := HX.out.below hbB h2
        exact ⟨A1, c1, A2, c2, A3, c3, hc.params, hc.exprs, hc.body, h3, h4, ho.2.2.2.1, ho.2.2.2.2.2.1, ho.2.2.2.2.2.2, (H0.out.below h2 (by omega)).cell 0⟩
      have HQ := Lib.hid hq
      clear hq
      obtain ⟨-, -, A2, k2, -, -, -, q1, -, hex, -, -, hl2, -, -⟩ := HQ.out wr HBr.out
      have HC := Lib.hid (hugeE_any many hm0 hm1 (h0 + 1) (h0 + 1) (Nat.le_refl _) _ x.exprs (Nat.lt_succ_self _) A2 k2 levels m wr hl0 hl1 hmn hmm hl2 hex Hbr.out)
      clear hex
      go_wp2_with fail
      (with_reducible refine HC.out.mono ?_)
      rintro r w2 ⟨b2, n2, rfl, hb2, hc2, hB2⟩
      have Hb2 := Lib.hid hb2
      have Hc2 := Lib.hid hc2
      have HB2 := Lib.hid (HBr.out.trans hB2)
      clear hb2 hc2 hB2 q1 hp0
      cases b2 with
      | true =>
        go_wp2_with fail
        go_ret
        exact ⟨true, rfl, fun h => (by cases h), by rw [← E0.out]; exact HB.out.trans (HB2.out.mono (by omega))⟩
      | false =>
        obtain ⟨hn2, hn2m⟩ := Hc2.out (by simp)
        have HN2 := Lib.hid hn2
        have hn20 : 0 ≤ n2 := by omega
        clear hn2
        obtain ⟨-, -, -, -, A3, k3, -, -, q3, -, hbd, -, -, hl3, q0⟩ := HQ.out w2 HB2.out
        have HC2 := Lib.hid (hugeS_any many hm0 hm1 (h0 + 1) (h0 + 1) (Nat.le_refl _) _ x.body (Nat.lt_succ_self _) A3 k3 levels n2 w2 hl0 hl1 hn20 hn2m hl3 hbd Hb2.out)
        clear hbd
        go_wp2_with fail
        (with_reducible refine HC2.out.mono ?_)
        rintro r w3 ⟨b3, n3, rfl, hb3, hc3, hB3⟩
        have Hb3 := Lib.hid hb3
        have Hc3 := Lib.hid hc3
        have HB3 := Lib.hid (HB2.out.trans hB3)
        clear hb3 hc3 hB3 q3 q0
        cases b3 with
        | true =>
          go_wp2_with fail
          go_ret
          exact ⟨true, rfl, fun h => (by cases h), by rw [← E0.out]; exact HB.out.trans (HB3.out.mono (by omega))⟩
        | false =>
          obtain ⟨hn3, hn3m⟩ := Hc3.out (by simp)
          have HN3 := Lib.hid hn3
          clear hn3
          obtain ⟨A1, k1, -, -, -, -, q2, -, -, -, -, hl1', -, -, q0⟩ := HQ.out w3 HB3.out
          generalize x.params.length = pl at *
          by_cases hpl : many < (pl : Int)
          · go_wp2_with fail
            go_ret
            exact ⟨true, rfl, fun h => (by cases h), by rw [← E0.out]; exact HB.out.trans (HB3.out.mono (by omega))⟩
          · go_wp2_with fail
            go_roundw
            case rel =>
              have h1 := HM.out
              have h2 := HT.out
              have h3 := HN2.out
              have h4 := HN3.out
              refine ⟨i + 1, n3, by go_num, by omega, ?_, hn3m, Hb3.out, HB3.out⟩
              rw [h2]; unfold cntIt; omega
            case measure => simp [intOf]; omega
    · have hie : i = L := by omega
      subst hie
      by_cases hbig : many < (i : Int)
      · go_wp2_with fail
        go_ret
        exact ⟨true, by first | rfl | simp, fun h => (by cases h), by rw [← E0.out]; exact HB.out.trans (HBr.out.mono (by omega))⟩
      · go_wp2_with fail
        go_ret
        have h1 := HM.out
        have h2 := HLn.out
        rw [h2, List.take_length] at h1
        exact ⟨false, by first | rfl | simp, fun _ => by omega, by rw [← E0.out]; exact HB.out.trans (HBr.out.mono (by omega))⟩
end Go.Proofs.YtdmiakfgemeelaaDoor
