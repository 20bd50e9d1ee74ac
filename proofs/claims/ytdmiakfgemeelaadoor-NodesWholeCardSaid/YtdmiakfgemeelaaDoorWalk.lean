/- The walk over trees, (*nodes.walk).exprs and .stmts, for any state that the closures keep. -/
import Derived.Test.YtdmiakfgemeelaaDoorNodes1
import Derived.Test.YtdmiakfgemeelaaDoorTreeS
import Derived.Shelf.Abstract
import Derived.StillTailTactics
namespace Go.Proofs.YtdmiakfgemeelaaDoor
set_option linter.unusedSimpArgs false
set_option linter.unusedVariables false
open Go.RowKit

section
variable {σ : Type} (fE : σ → Ex → Int → σ) (fS : σ → St → Int → σ) (most : Int)
mutual
def wE (deep : Int) (st : σ) : Ex → σ
  | .mk k s n kids => wEs (deep + 1) (fE st (.mk k s n kids) deep) kids
def wEs (deep : Int) (st : σ) : List Ex → σ
  | [] => st
  | e :: es => if most < deep then st else wEs deep (wE deep st e) es
end
mutual
def wS (deep : Int) (st : σ) : St → σ
  | .mk k s n exprs body els line => wSs (deep + 1) (wSs (deep + 1) (wEs fE most (deep + 1) (fS st (.mk k s n exprs body els line) deep) exprs) body) els
def wSs (deep : Int) (st : σ) : List St → σ
  | [] => st
  | e :: es => if most < deep then st else wSs deep (wS deep st e) es
end
theorem wEs_gt {deep : Int} (h : most < deep) (st : σ) (es : List Ex) : wEs fE most deep st es = st := by cases es <;> simp [wEs, h]
theorem wEs_le {deep : Int} (h : ¬ most < deep) : ∀ (es : List Ex) (st : σ), wEs fE most deep st es = es.foldl (wE fE most deep) st
  | [], _ => by simp [wEs]
  | e :: es, st => by simp only [wEs, h, if_false, List.foldl_cons]; exact wEs_le h es _
theorem wSs_gt {deep : Int} (h : most < deep) (st : σ) (es : List St) : wSs fE fS most deep st es = st := by cases es <;> simp [wSs, h]
theorem wSs_le {deep : Int} (h : ¬ most < deep) : ∀ (es : List St) (st : σ), wSs fE fS most deep st es = es.foldl (wS fE fS most deep) st
  | [], _ => by simp [wSs]
  | e :: es, st => by simp only [wSs, h, if_false, List.foldl_cons]; exact wSs_le h es _
end

mutual
def szE : Ex → Nat | .mk _ _ _ kids => szEs kids + 1
def szEs : List Ex → Nat | [] => 0 | e :: es => szE e + szEs es
end
mutual
def szS : St → Nat | .mk _ _ _ _ body els _ => szSs body + szSs els + 1
def szSs : List St → Nat | [] => 0 | e :: es => szS e + szSs es
end
theorem szEs_at : ∀ (es : List Ex) (i : Nat) (h : i < es.length), szEs es[i].kids < szEs es
  | .mk k s n kids :: es, 0, _ => by simp [szEs, szE, Ex.kids]; omega
  | e :: es, i + 1, h => by
    have := szEs_at es i (by simpa using h)
    simp only [List.getElem_cons_succ, szEs]; omega
theorem szSs_at : ∀ (es : List St) (i : Nat) (h : i < es.length), szSs es[i].body < szSs es ∧ szSs es[i].els < szSs es
  | .mk k s n e1 e2 e3 ln :: es, 0, _ => by simp [szSs, szS, St.body, St.els]; omega
  | e :: es, i + 1, h => by
    have := szSs_at es i (by simpa using h)
    simp only [List.getElem_cons_succ, szSs]; omega
theorem foldl_take {α β : Type} (f : β → α → β) (b : β) (l : List α) (i : Nat) (h : i < l.length) : (l.take (i + 1)).foldl f b = f ((l.take i).foldl f b) l[i] := by
  rw [List.take_succ_eq_append_getElem h, List.foldl_append]; rfl

theorem ExsInS.at0 {w : World} {S : Nat → Prop} {b o i : Nat} {es : List Ex} (h : ExsInS w S (some ⟨b, o, none⟩) 0 es) (hi : i < es.length) : ExInS w S b (o + i * 4) (es[i]'hi) := by
  obtain ⟨b', o', h1, _, h2⟩ := h.at_ i hi
  rw [Nat.zero_add] at h2
  cases h1
  exact h2
theorem StsInS.at0 {w : World} {S : Nat → Prop} {b o i : Nat} {es : List St} (h : StsInS w S (some ⟨b, o, none⟩) 0 es) (hi : i < es.length) : StInS w S b (o + i * 7) (es[i]'hi) := by
  obtain ⟨b', o', h1, _, h2⟩ := h.at_ i hi
  rw [Nat.zero_add] at h2
  cases h1
  exact h2

theorem ExInS.kidsAt {w : World} {S : Nat → Prop} {b o : Nat} : ∀ {e : Ex}, ExInS w S b o e → ∃ A c, w.cell? ⟨b, o + 3, none⟩ = some (.slice A e.kids.length c) ∧ ExsInS w S A 0 e.kids ∧ e.kids.length ≤ 140737488351232
  | .mk k s n kids, h => by
    simp only [ExInS] at h
    obtain ⟨h0, A, c, h1, h2, h3, h4, h5⟩ := h
    exact ⟨A, c, h4, h5, h0.2.2.2.2.2⟩
theorem StInS.partsAt {w : World} {S : Nat → Prop} {b o : Nat} : ∀ {e : St}, StInS w S b o e → ∃ A1 c1 A2 c2 A3 c3, w.cell? ⟨b, o + 3, none⟩ = some (.slice A1 e.exprs.length c1) ∧ w.cell? ⟨b, o + 4, none⟩ = some (.slice A2 e.body.length c2) ∧ w.cell? ⟨b, o + 5, none⟩ = some (.slice A3 e.els.length c3) ∧
      ExsInS w S A1 0 e.exprs ∧ StsInS w S A2 0 e.body ∧ StsInS w S A3 0 e.els ∧ e.exprs.length ≤ 140737488351232 ∧ e.body.length ≤ 140737488351232 ∧ e.els.length ≤ 140737488351232
  | .mk k s n e1 e2 e3 ln, h => by
    simp only [StInS] at h
    obtain ⟨h0, A1, c1, A2, c2, A3, c3, h1, h2, h3, h4, h5, h6, h7, h8, h9, h10⟩ := h
    exact ⟨A1, c1, A2, c2, A3, c3, h4, h5, h6, h8, h9, h10, h0.2.2.2.2.2.1, h0.2.2.2.2.2.2.1, h0.2.2.2.2.2.2.2⟩

/-- What a closure owes that is told each expression. -/
structure TellsE {σ : Type} (S : Nat → Prop) (wb : Nat) (fe fs : Value) (most : Int) (Inv : σ → World → Prop) (fE : σ → Ex → Int → σ) (g : Nat) (lb : Array Value) : Prop where
  isFn : fe = .func (.func g) #[] lb
  eg : ∀ args w, (callFunc g args).run Tryd.prog w = .ok (.enter g args) w
  own : ∀ st W, Inv st W → Blk W wb 59 #[fe, fs, .int .i64 most]
  drew : ∀ st W, Inv st W → Inv st W.drew
  call : ∀ st W b o e deep, Inv st W → S b → ExInS W S b o e → 1 ≤ deep → deep ≤ most →
    Calls Tryd.prog g (#[.pointer (some ⟨b, o, none⟩), .int .i64 deep] ++ lb) W fun r w' => (∃ v, r = .returned v) ∧ Inv (fE st e deep) w' ∧ KeptS S W w'

set_option maxHeartbeats 1000000 in
set_option maxRecDepth 100000 in
theorem exprs_any {σ : Type} {S : Nat → Prop} {wb : Nat} {fe fs : Value} {most : Int} {Inv : σ → World → Prop} {fE : σ → Ex → Int → σ} {g : Nat} {lb : Array Value} (T : TellsE S wb fe fs most Inv fE g lb) (hm : most ≤ 1000000) :
    ∀ (N : Nat) (es : List Ex), szEs es < N → ∀ (st : σ) (W : World) (A : Option Addr) (c : Nat) (deep : Int), Inv st W → ExsInS W S A 0 es → es.length ≤ 140737488351232 → 1 ≤ deep → deep ≤ most + 1 →
      Calls Tryd.prog 20 #[.pointer (some ⟨wb, 0, none⟩), .slice A es.length c, .int .i64 deep] W fun r w' => (∃ v, r = .returned v) ∧ Inv (wEs fE most deep st es) w' ∧ KeptS S W w' := by
  intro N
  induction N with
  | zero => intro es h; omega
  | succ N IH =>
    intro es hN st W A c deep hI hA hl hd1 hd2
    obtain ⟨hfn, eg, own, hdrew, call⟩ := T
    subst hfn
    by_cases hd : most < deep
    · rw [wEs_gt _ _ hd]
      have c2 : W.cell? ⟨wb, 2, none⟩ = some (.int .i64 most) := (own _ _ hI).cell 2
      have HI := Lib.hid hI
      clear IH hA hI
      cases es with
      | nil =>
        go_enter Tryd.func20, Tryd.ntmps20
        go_wp2_with fail
        go_loop [9] (fun x => x = .int .i64 0) (fun _ => 0)
        case atStart => rfl
        case round =>
          subst hrel
          go_wp2_with fail
          first | go_end0 | (simp only [Exit.inBlock, Exit.then]; refine bodyPost_ret (results_none rfl _ _ _) rfl ?_) | refine bodyPost_ret (results_none rfl _ _ _) rfl ?_
          exact ⟨⟨_, rfl⟩, HI.out, KeptS.refl⟩
      | cons e es =>
        simp only [List.length_cons] at hl ⊢
        go_enter Tryd.func20, Tryd.ntmps20
        go_wp2_with fail
        go_loop [9] (fun x => x = .int .i64 0) (fun _ => 0)
        case atStart => rfl
        case round =>
          subst hrel
          go_wp2_with fail
          first | go_end0 | (simp only [Exit.inBlock, Exit.then]; refine bodyPost_ret (results_none rfl _ _ _) rfl ?_) | refine bodyPost_ret (results_none rfl _ _ _) rfl ?_
          exact ⟨⟨_, rfl⟩, HI.out, KeptS.refl⟩
    · have hd' : deep ≤ most := by omega
      rw [wEs_le _ _ hd]
      have HA := Lib.hid hA
      have HI := Lib.hid hI
      clear hA hI
      go_enter Tryd.func20, Tryd.ntmps20
      go_wp2_with fail
      go_loopw [9] (fun x wr => ∃ i : Nat, x = .int .i64 i ∧ i ≤ es.length ∧ Inv ((es.take i).foldl (wE fE most deep) st) wr ∧ KeptS S W wr) (fun x _ => es.length - (intOf x).toNat)
      case atStart => exact ⟨0, rfl, by omega, HI.out, KeptS.refl⟩
      case round =>
        obtain ⟨i, rfl, hi, hIr, hB⟩ := hrel
        have HB := Lib.hid hB
        have HIr := Lib.hid hIr
        clear hB
        have c2 : wr.cell? ⟨wb, 2, none⟩ = some (.int .i64 most) := (own _ _ hIr).cell 2
        have c0 : wr.cell? ⟨wb, 0, none⟩ = some (.func (.func g) #[] lb) := (own _ _ hIr).cell 0
        clear hIr
        by_cases hlt : i < es.length
        · obtain ⟨b, o, rfl, hb, hx⟩ := HA.out.at_ i hlt
          have CE := Lib.hid (fun W2 hI2 hx2 => call ((es.take i).foldl (wE fE most deep) st) W2 b (o + i * 4) (es[i]'hlt) deep hI2 hb hx2 hd1 hd')
          have hwb : wr.frozen? ⟨wb, 0, none⟩ = false := (own _ _ HIr.out).frozen 0
          go_wp2_with fail
          go_still_tail 8, (by kernel_rfl)
          have HId : Hid (Inv ((es.take i).foldl (wE fE most deep) st) wr.drew) := hdrew _ _ HIr.out
          have HBd : Hid (KeptS S W wr.drew) := HB.out.drew
          clear HIr HB c2 c0 hwb hdrew
          change wpList _ _ _ _ _ wr.drew
          generalize wr.drew = wd at HId HBd ⊢
          have HX := Lib.hid ((HA.out.kept HBd.out).at0 hlt)
          have hsz := szEs_at es i hlt
          have hkd := Lib.hid (fun W2 A2 c2 h1 h2 h3 => IH (es[i]'hlt).kids (by omega) (fE ((es.take i).foldl (wE fE most deep) st) (es[i]'hlt) deep) W2 A2 c2 (deep + 1) h1 h2 h3 (by omega) (by omega))
          clear IH hsz call own HA HI
          go_wp2_with (first
            | (go_at_fn g; ((with_reducible refine (CE.out _ HId.out HX.out).mono ?_); rintro e w1 ⟨⟨u, rfl⟩, hI1, hB1⟩; obtain ⟨A3, c3, h3, hk3, hl3⟩ := (HX.out.kept hB1 hb).kidsAt; have HI1 := Lib.hid hI1; have HK3 := Lib.hid hk3; have HB1 := Lib.hid (HBd.out.trans hB1); clear hI1 hk3 hB1))
            | (go_at_call 20; ((with_reducible refine (hkd.out _ _ _ HI1.out HK3.out hl3).mono ?_); rintro e w2 ⟨⟨u2, rfl⟩, hI2, hB2⟩)))
          go_roundw
          case rel =>
            refine ⟨i + 1, by go_num, by omega, ?_, HB1.out.trans hB2⟩
            rw [foldl_take _ _ _ _ hlt]
            obtain ⟨x, hx⟩ : ∃ x, x = es[i]'hlt := ⟨_, rfl⟩
            rw [← hx] at hI2 ⊢
            obtain ⟨k, s, n, kids⟩ := x
            simp only [wE]
            exact hI2
          case measure => simp [intOf]; omega
        · have hie : i = es.length := by omega
          subst hie
          go_wp2_with fail
          first | go_end0 | (simp only [Exit.inBlock, Exit.then]; refine bodyPost_ret (results_none rfl _ _ _) rfl ?_) | refine bodyPost_ret (results_none rfl _ _ _) rfl ?_
          refine ⟨⟨_, rfl⟩, ?_, HB.out⟩
          have := HIr.out
          rw [List.take_length] at this
          exact this

structure TellsS {σ : Type} (S : Nat → Prop) (fs : Value) (most : Int) (Inv : σ → World → Prop) (fS : σ → St → Int → σ) (g : Nat) (lb : Array Value) : Prop where
  isFn : fs = .func (.func g) #[] lb
  eg : ∀ args w, (callFunc g args).run Tryd.prog w = .ok (.enter g args) w
  call : ∀ st W b o e deep, Inv st W → S b → StInS W S b o e → 1 ≤ deep → deep ≤ most →
    Calls Tryd.prog g (#[.pointer (some ⟨b, o, none⟩), .int .i64 deep] ++ lb) W fun r w' => (∃ v, r = .returned v) ∧ Inv (fS st e deep) w' ∧ KeptS S W w'

set_option maxRecDepth 100000 in
theorem stmts_any {σ : Type} {S : Nat → Prop} {wb : Nat} {fe fs : Value} {most : Int} {Inv : σ → World → Prop} {fE : σ → Ex → Int → σ} {fS : σ → St → Int → σ} {g g2 : Nat} {lb lb2 : Array Value}
    (T : TellsE S wb fe fs most Inv fE g lb) (TS : TellsS S fs most Inv fS g2 lb2) (hm : most ≤ 1000000) :
    ∀ (N : Nat) (es : List St), szSs es < N → ∀ (st : σ) (W : World) (A : Option Addr) (c : Nat) (deep : Int), Inv st W → StsInS W S A 0 es → es.length ≤ 140737488351232 → 1 ≤ deep → deep ≤ most + 1 →
      Calls Tryd.prog 21 #[.pointer (some ⟨wb, 0, none⟩), .slice A es.length c, .int .i64 deep] W fun r w' => (∃ v, r = .returned v) ∧ Inv (wSs fE fS most deep st es) w' ∧ KeptS S W w' := by
  intro N
  have CX := Lib.hid (exprs_any T hm)
  induction N with
  | zero => intro es h; omega
  | succ N IH =>
    intro es hN st W A c deep hI hA hl hd1 hd2
    obtain ⟨_, _, own, hdrew, _⟩ := T
    obtain ⟨hfn, eg, call⟩ := TS
    subst hfn
    by_cases hd : most < deep
    · rw [wSs_gt _ _ _ hd]
      have c2 : W.cell? ⟨wb, 2, none⟩ = some (.int .i64 most) := (own _ _ hI).cell 2
      have HI := Lib.hid hI
      clear IH hA hI CX
      cases es with
      | nil =>
        go_enter Tryd.func21, Tryd.ntmps21
        go_wp2_with fail
        go_loop [9] (fun x => x = .int .i64 0) (fun _ => 0)
        case atStart => rfl
        case round =>
          subst hrel
          go_wp2_with fail
          first | go_end0 | (simp only [Exit.inBlock, Exit.then]; refine bodyPost_ret (results_none rfl _ _ _) rfl ?_) | refine bodyPost_ret (results_none rfl _ _ _) rfl ?_
          exact ⟨⟨_, rfl⟩, HI.out, KeptS.refl⟩
      | cons e es =>
        simp only [List.length_cons] at hl ⊢
        go_enter Tryd.func21, Tryd.ntmps21
        go_wp2_with fail
        go_loop [9] (fun x => x = .int .i64 0) (fun _ => 0)
        case atStart => rfl
        case round =>
          subst hrel
          go_wp2_with fail
          first | go_end0 | (simp only [Exit.inBlock, Exit.then]; refine bodyPost_ret (results_none rfl _ _ _) rfl ?_) | refine bodyPost_ret (results_none rfl _ _ _) rfl ?_
          exact ⟨⟨_, rfl⟩, HI.out, KeptS.refl⟩
    · have hd' : deep ≤ most := by omega
      rw [wSs_le _ _ _ hd]
      have HA := Lib.hid hA
      have HI := Lib.hid hI
      clear hA hI
      go_enter Tryd.func21, Tryd.ntmps21
      go_wp2_with fail
      go_loopw [9] (fun x wr => ∃ i : Nat, x = .int .i64 i ∧ i ≤ es.length ∧ Inv ((es.take i).foldl (wS fE fS most deep) st) wr ∧ KeptS S W wr) (fun x _ => es.length - (intOf x).toNat)
      case atStart => exact ⟨0, rfl, by omega, HI.out, KeptS.refl⟩
      case round =>
        obtain ⟨i, rfl, hi, hIr, hB⟩ := hrel
        have HB := Lib.hid hB
        have HIr := Lib.hid hIr
        clear hB
        have c2 : wr.cell? ⟨wb, 2, none⟩ = some (.int .i64 most) := (own _ _ hIr).cell 2
        have c1 : wr.cell? ⟨wb, 1, none⟩ = some (.func (.func g2) #[] lb2) := (own _ _ hIr).cell 1
        clear hIr
        by_cases hlt : i < es.length
        · obtain ⟨b, o, rfl, hb, hx⟩ := HA.out.at_ i hlt
          obtain ⟨s0, hs0⟩ : ∃ s0, s0 = (es.take i).foldl (wS fE fS most deep) st := ⟨_, rfl⟩
          obtain ⟨x0, hx0⟩ : ∃ x0, x0 = es[i]'hlt := ⟨_, rfl⟩
          have CE := Lib.hid (fun W2 hI2 hx2 => call s0 W2 b (o + i * 7) x0 deep hI2 hb hx2 hd1 hd')
          have hwb : wr.frozen? ⟨wb, 1, none⟩ = false := (own _ _ HIr.out).frozen 1
          go_wp2_with fail
          go_still_tail 8, (by kernel_rfl)
          have HId : Hid (Inv s0 wr.drew) := by rw [hs0]; exact hdrew _ _ HIr.out
          have HBd : Hid (KeptS S W wr.drew) := HB.out.drew
          have hgl : (es.take (i + 1)).foldl (wS fE fS most deep) st = wS fE fS most deep s0 x0 := by rw [foldl_take _ _ _ _ hlt, hs0, hx0]
          have HGL := Lib.hid hgl
          clear HIr HB c2 c1 hwb hdrew hgl
          change wpList _ _ _ _ _ wr.drew
          generalize wr.drew = wd at HId HBd ⊢
          have HX : Hid (StInS wd S b (o + i * 7) x0) := by rw [hx0]; exact (HA.out.kept HBd.out).at0 hlt
          have hsz := szSs_at es i hlt
          rw [← hx0] at hsz
          have hk1 := Lib.hid (fun st W2 A2 c2 h1 h2 h3 => CX.out _ x0.exprs (Nat.lt_succ_self _) st W2 A2 c2 (deep + 1) h1 h2 h3 (by omega) (by omega))
          have hk2 := Lib.hid (fun st W2 A2 c2 h1 h2 h3 => IH x0.body (by omega) st W2 A2 c2 (deep + 1) h1 h2 h3 (by omega) (by omega))
          have hk3 := Lib.hid (fun st W2 A2 c2 h1 h2 h3 => IH x0.els (by omega) st W2 A2 c2 (deep + 1) h1 h2 h3 (by omega) (by omega))
          clear IH hsz call own HA HI CX hs0 hx0
          go_wp2_with (first
            | (go_at_fn g2; ((with_reducible refine (CE.out _ HId.out HX.out).mono ?_); rintro e w1 ⟨⟨u, rfl⟩, hI1, hB1⟩; obtain ⟨A1, c1, A2, c2, A3, c3, h1, -, -, hp1, -, -, hl1, -, -⟩ := (HX.out.kept hB1 hb).partsAt; have HX1 := Lib.hid (HX.out.kept hB1 hb); have HI1 := Lib.hid hI1; have HP1 := Lib.hid hp1; have HB1 := Lib.hid (HBd.out.trans hB1); clear hI1 hp1 hB1))
            | (go_at_call 20; ((with_reducible refine (hk1.out _ _ _ _ HI1.out HP1.out hl1).mono ?_); rintro e w2 ⟨⟨u2, rfl⟩, hI2, hB2⟩; obtain ⟨A4, c4, A5, c5, A6, c6, -, h5, -, -, hp5, -, -, hl5, -⟩ := (HX1.out.kept hB2 hb).partsAt; have HX2 := Lib.hid (HX1.out.kept hB2 hb); have HI2 := Lib.hid hI2; have HP5 := Lib.hid hp5; have HB2 := Lib.hid (HB1.out.trans hB2); clear hI2 hp5 hB2))
            | (go_at_call 21; ((with_reducible refine (hk2.out _ _ _ _ HI2.out HP5.out hl5).mono ?_); rintro e w3 ⟨⟨u3, rfl⟩, hI3, hB3⟩; obtain ⟨A7, c7, A8, c8, A9, c9, -, -, h9, -, -, hp9, -, -, hl9⟩ := (HX2.out.kept hB3 hb).partsAt; have HI3 := Lib.hid hI3; have HP9 := Lib.hid hp9; have HB3 := Lib.hid (HB2.out.trans hB3); clear hI3 hp9 hB3))
            | (go_at_call 21; ((with_reducible refine (hk3.out _ _ _ _ HI3.out HP9.out hl9).mono ?_); rintro e w4 ⟨⟨u4, rfl⟩, hI4, hB4⟩)))
          go_roundw
          case rel =>
            refine ⟨i + 1, by go_num, by omega, ?_, HB3.out.trans hB4⟩
            rw [HGL.out]
            obtain ⟨k, s, n, e1, e2, e3, ln⟩ := x0
            simp only [wS]
            exact hI4
          case measure => simp [intOf]; omega
        · have hie : i = es.length := by omega
          subst hie
          go_wp2_with fail
          first | go_end0 | (simp only [Exit.inBlock, Exit.then]; refine bodyPost_ret (results_none rfl _ _ _) rfl ?_) | refine bodyPost_ret (results_none rfl _ _ _) rfl ?_
          refine ⟨⟨_, rfl⟩, ?_, HB.out⟩
          have := HIr.out
          rw [List.take_length] at this
          exact this
end Go.Proofs.YtdmiakfgemeelaaDoor
