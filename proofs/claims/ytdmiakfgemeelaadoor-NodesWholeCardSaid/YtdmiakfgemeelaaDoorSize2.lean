/- nodes.Size. -/
import Derived.Test.YtdmiakfgemeelaaDoorSize1
namespace Go.Proofs.YtdmiakfgemeelaaDoor
set_option linter.unusedSimpArgs false
set_option linter.unusedVariables false
open Go.RowKit

def stepE (st : Int × Int) (_ : Ex) (deep : Int) : Int × Int := sizeStep st deep
def stepS (st : Int × Int) (_ : St) (deep : Int) : Int × Int := sizeStep st deep
def sizeIt (st : Int × Int) (x : It) : Int × Int := wSs stepE stepS 61 1 (wEs stepE 61 1 st x.exprs) x.body
def sizeP (its : List It) : Int × Int := its.foldl sizeIt (0, 0)

theorem InvC.below {L : List (Nat × Obj)} {wb nb db cb : Nat} {fe fs : Value} {most : Int} {st : Int × Int} {W w' : World} (h : InvC L wb nb db cb fe fs most st W) (hb : Below W.heap.size W w') : InvC L wb nb db cb fe fs most st w' :=
  ⟨fun p hp => (hb.block p.1 (Array.getElem?_eq_some_iff.1 (h.ext p hp)).1).trans (h.ext p hp), h.own.below hb h.own.lt, h.n.below hb h.n.lt, h.d.below hb h.d.lt, h.c.below hb h.c.lt⟩

theorem InvC.more {L : List (Nat × Obj)} {wb nb db cb : Nat} {fe fs : Value} {most : Int} {st : Int × Int} {W : World} (h : InvC L wb nb db cb fe fs most st W) (p : Nat × Obj) (hp : W.heap[p.1]? = some p.2) : InvC (p :: L) wb nb db cb fe fs most st W :=
  ⟨fun q hq => by rcases List.mem_cons.1 hq with rfl | hq; exact hp; exact h.ext q hq, h.own, h.n, h.d, h.c⟩
theorem InvC.less {L : List (Nat × Obj)} {wb nb db cb : Nat} {fe fs : Value} {most : Int} {st : Int × Int} {W : World} {p : Nat × Obj} (h : InvC (p :: L) wb nb db cb fe fs most st W) : InvC L wb nb db cb fe fs most st W :=
  ⟨fun q hq => h.ext q (List.mem_cons_of_mem _ hq), h.own, h.n, h.d, h.c⟩

theorem ApartC.more {L : List (Nat × Obj)} {S : Nat → Prop} {wb nb db cb : Nat} (D : ApartC L S wb nb db cb) (p : Nat × Obj) (h1 : p.1 ≠ nb) (h2 : p.1 ≠ db) : ApartC (p :: L) S wb nb db cb :=
  ⟨fun q hq => by rcases List.mem_cons.1 hq with rfl | hq; exact ⟨h1, h2⟩; exact D.l q hq, D.low1, D.low2, D.wn, D.wd, D.nd, D.cn, D.cd⟩

theorem tellsE_size {L : List (Nat × Obj)} {S : Nat → Prop} {wb nb db cb : Nat} {fs : Value} {most : Int} (hm : most ≤ 1000000) (D : ApartC L S wb nb db cb) :
    TellsE S wb (.func (.func 27) #[] #[.pointer (some ⟨cb, 0, none⟩)]) fs most (InvC L wb nb db cb (.func (.func 27) #[] #[.pointer (some ⟨cb, 0, none⟩)]) fs most) stepE 27 #[.pointer (some ⟨cb, 0, none⟩)] where
  isFn := rfl
  eg := Tryd.call27
  own := fun _ _ h => h.own
  drew := fun _ _ h => h.drew
  call := fun st W b o e deep hI _ _ h1 h2 => told2_any D st W _ deep h1 (by omega) hI
theorem tellsS_size {L : List (Nat × Obj)} {S : Nat → Prop} {wb nb db cb : Nat} {fe : Value} {most : Int} (hm : most ≤ 1000000) (D : ApartC L S wb nb db cb) :
    TellsS S (.func (.func 28) #[] #[.pointer (some ⟨cb, 0, none⟩)]) most (InvC L wb nb db cb fe (.func (.func 28) #[] #[.pointer (some ⟨cb, 0, none⟩)]) most) stepS 28 #[.pointer (some ⟨cb, 0, none⟩)] where
  isFn := rfl
  eg := Tryd.call28
  call := fun st W b o e deep hI _ _ h1 h2 => told3_any D st W _ deep h1 (by omega) hI

theorem blk5 (w : World) (t0 t1 t2 t3 t4 : TypeId) (c0 c1 c2 c3 c4 : Array Value) :
    ∀ W, W = ((((w.alloc (.cells c0 t0)).alloc (.cells c1 t1)).alloc (.cells c2 t2)).alloc (.cells c3 t3)).alloc (.cells c4 t4) →
      Blk W w.heap.size t0 c0 ∧ Blk W (w.heap.size + 1) t1 c1 ∧ Blk W (w.heap.size + 1 + 1) t2 c2 ∧ Blk W (w.heap.size + 1 + 1 + 1) t3 c3 ∧ Blk W (w.heap.size + 1 + 1 + 1 + 1) t4 c4 ∧ Below w.heap.size w W := by
  rintro W rfl
  refine ⟨((((Blk.new w t0 c0).alloc _).alloc _).alloc _).alloc _, ?_, ?_, ?_, ?_, ?_⟩
  · have := ((((Blk.new (w.alloc (.cells c0 t0)) t1 c1).alloc (.cells c2 t2)).alloc (.cells c3 t3)).alloc (.cells c4 t4))
    simpa using this
  · have := (((Blk.new ((w.alloc (.cells c0 t0)).alloc (.cells c1 t1)) t2 c2).alloc (.cells c3 t3)).alloc (.cells c4 t4))
    simpa using this
  · have := ((Blk.new (((w.alloc (.cells c0 t0)).alloc (.cells c1 t1)).alloc (.cells c2 t2)) t3 c3).alloc (.cells c4 t4))
    simpa using this
  · have := (Blk.new ((((w.alloc (.cells c0 t0)).alloc (.cells c1 t1)).alloc (.cells c2 t2)).alloc (.cells c3 t3)) t4 c4)
    simpa using this
  · repeat' first | exact Below.refl _ _ | refine Below.alloc ?_ (by simp <;> omega) _

set_option maxRecDepth 100000 in
set_option maxHeartbeats 1000000 in
theorem Size_any (A : Option Addr) (c : Nat) (its : List It) (w : World) (hin : ItsIn w w.heap.size A 0 its) (hl : its.length ≤ 140737488351232) :
    Calls Tryd.prog 11 #[.agg #[.slice A its.length c]] w fun r w' => r = .returned (.tuple #[.int .i64 (sizeP its).1, .int .i64 (sizeP its).2]) ∧ Below w.heap.size w w' := by
  have hmf : ∀ (fn : Fn) (first cap : Array Value) (w : World), (Instr.makeFunc fn first cap).run Tryd.prog w = .ok (.func fn first cap) w := fun _ _ _ _ => rfl
  have hst : ∀ (a : Addr) (fn : Fn) (first cap : Array Value) (w : World) (m : Mode), (store a (.func fn first cap) m).run Tryd.prog w = stored Tryd.prog w a (.func fn first cap) m := fun a fn first cap w m => run_store Tryd.prog w a (.func fn first cap) m rfl
  have HI := Lib.hid hin
  clear hin
  go_enter Tryd.func11, Tryd.ntmps11
  go_upto_region 4 with (fail)
  clear hmf hst
  generalize hW4 : World.alloc _ _ = W4
  obtain ⟨b0, b1, b2, b3, b4, hB4⟩ := blk5 w _ _ _ _ _ _ _ _ _ _ W4 hW4.symm
  clear hW4
  generalize e0 : w.heap.size = h0 at *
  generalize e1 : h0 + 1 = h1 at *
  generalize e2 : h1 + 1 = h2 at *
  generalize e3 : h2 + 1 = h3 at *
  generalize e4 : h3 + 1 = h4 at *
  have D : ApartC [(h0, .cells #[.slice A its.length c] 39)] (· < h0) h4 h1 h2 h3 := ⟨fun p hp => by simp at hp; subst hp; simp; omega, by omega, by omega, by omega, by omega, by omega, by omega, by omega⟩
  have hI0 : InvC [(h0, .cells #[.slice A its.length c] 39)] h4 h1 h2 h3 _ _ 61 (0, 0) W4 := ⟨fun p hp => by simp at hp; subst hp; exact b0, b4, b1, b2, b3⟩
  have c0 : W4.cell? ⟨h0, 0, none⟩ = some (.slice A its.length c) := b0.cell 0
  have hz4 := b4.lt
  clear b0 b1 b2 b3 b4
  go_wp2_with fail
  go_loopw [18] (fun x wr => ∃ i : Nat, x = .int .i64 i ∧ i ≤ its.length ∧ InvC [(h0, .cells #[.slice A its.length c] 39)] h4 h1 h2 h3 (.func (.func 27) #[] #[.pointer (some ⟨h3, 0, none⟩)]) (.func (.func 28) #[] #[.pointer (some ⟨h3, 0, none⟩)]) 61 ((its.take i).foldl sizeIt (0, 0)) wr ∧ Below h0 w wr ∧ h4 < wr.heap.size) (fun x _ => its.length - (intOf x).toNat)
  case atStart => exact ⟨0, rfl, by omega, hI0, hB4, hz4⟩
  case round =>
    obtain ⟨i, rfl, hi, hIr, hBr, hz⟩ := hrel
    have HB := Lib.hid hBr
    by_cases hlt : i < its.length
    · obtain ⟨b, o, rfl, hb, hx⟩ := (HI.out.below hBr).at_ i hlt
      rw [Nat.zero_add] at hx
      obtain ⟨x, hxe⟩ : ∃ x, x = its[i]'hlt := ⟨_, rfl⟩
      rw [← hxe] at hx
      have HXE := Lib.hid hxe
      obtain ⟨s0, hs0⟩ : ∃ s0, s0 = (its.take i).foldl sizeIt (0, 0) := ⟨_, rfl⟩
      rw [← hs0] at hIr
      have HS0 := Lib.hid hs0
      obtain ⟨ho, A1, c1, A2, c2, A3, c3, ⟨k0, k1, k2, k3, k4, k5, k6⟩, -, he, hst⟩ := hx
      obtain ⟨gi, hgi⟩ : ∃ gi, gi = wr.heap.size := ⟨_, rfl⟩
      obtain ⟨ob, hob⟩ : ∃ ob, ob = Obj.cells #[.int .u8 x.k, .string x.name, .slice A1 x.params.length c1, .slice A2 x.exprs.length c2, .bool x.hasBody, .slice A3 x.body.length c3, .int .i64 x.line] 35 := ⟨_, rfl⟩
      have D' := D.more (gi, ob) (by simp; omega) (by simp; omega)
      have HIw : Hid (InvC _ _ _ _ _ _ _ _ _ (wr.alloc ob)) := (hIr.below ((Below.refl _ _).alloc (Nat.le_refl _) _)).more (gi, ob) (by rw [hgi]; exact heap_alloc_new wr ob)
      have HBw : Hid (KeptS (· < h0) wr (wr.alloc ob)) := KeptS.of_below ((Below.refl _ _).alloc (Nat.le_refl _) _) (fun b hb => by show b < wr.heap.size; have : b < h0 := hb; omega)
      have CE := Lib.hid (fun W2 h h' => exprs_any (tellsE_size (fs := .func (.func 28) #[] #[.pointer (some ⟨h3, 0, none⟩)]) (show (61 : Int) ≤ 1000000 by omega) D') (by omega) _ x.exprs (Nat.lt_succ_self _) s0 W2 A2 c2 1 h ((ExsIn.toS (fun _ h => h) he).kept h') ho.2.2.2.2.2.1 (by omega) (by omega))
      have CS := Lib.hid (fun s W2 h h' => stmts_any (tellsE_size (fs := .func (.func 28) #[] #[.pointer (some ⟨h3, 0, none⟩)]) (show (61 : Int) ≤ 1000000 by omega) D') (tellsS_size (by omega) D') (by omega) _ x.body (Nat.lt_succ_self _) s W2 A3 c3 1 h ((StsIn.toS (fun _ h => h) hst).kept h') ho.2.2.2.2.2.2 (by omega) (by omega))
      have hcells : ∀ W2, InvC [(gi, ob), (h0, .cells #[.slice (some ⟨b, o, none⟩) its.length c] 39)] h4 h1 h2 h3 (.func (.func 27) #[] #[.pointer (some ⟨h3, 0, none⟩)]) (.func (.func 28) #[] #[.pointer (some ⟨h3, 0, none⟩)]) 61 s0 W2 → W2.cell? ⟨gi, 3, none⟩ = some (.slice A2 x.exprs.length c2) :=
        fun W2 h => by have := h.ext (gi, ob) (by simp); rw [hob] at this; exact Blk.cell (w := W2) (g := gi) this 3
      have hcells5 : ∀ s W2, InvC [(gi, ob), (h0, .cells #[.slice (some ⟨b, o, none⟩) its.length c] 39)] h4 h1 h2 h3 (.func (.func 27) #[] #[.pointer (some ⟨h3, 0, none⟩)]) (.func (.func 28) #[] #[.pointer (some ⟨h3, 0, none⟩)]) 61 s W2 → W2.cell? ⟨gi, 5, none⟩ = some (.slice A3 x.body.length c3) :=
        fun s W2 h => by have := h.ext (gi, ob) (by simp); rw [hob] at this; exact Blk.cell (w := W2) (g := gi) this 5
      have HC5 := Lib.hid hcells5
      have HOB := Lib.hid hob
      have HGI := Lib.hid hgi
      clear hob hgi hxe hs0
      go_upto_region 7 with (fail)
      rw [← HOB.out, ← HGI.out]
      generalize wr.alloc ob = wa at HIw HBw ⊢
      have q3 := hcells wa HIw.out
      clear hcells hcells5 k0 k1 k2 k3 k4 k5 k6 he hst c0 hIr hI0
      go_wp2_with (first
        | (go_at_call 20; ((with_reducible refine (CE.out _ HIw.out HBw.out).mono ?_); rintro e w1 ⟨⟨u, rfl⟩, hI1, hB1⟩; have HI1 := Lib.hid hI1; have HB1 := Lib.hid (HBw.out.trans hB1); have q5 := HC5.out _ _ hI1; clear hI1 hB1))
        | (go_at_call 21; ((with_reducible refine (CS.out _ _ HI1.out HB1.out).mono ?_); rintro e w2 ⟨⟨u2, rfl⟩, hI2, hB2⟩)))
      go_roundw
      case rel =>
        have hB3 := (HB1.out.trans hB2).below (fun b hb => hb)
        refine ⟨i + 1, by go_num, by omega, ?_, HB.out.trans hB3, by have := hB3.size; omega⟩
        rw [foldl_take _ _ _ _ hlt, ← HS0.out, ← HXE.out]
        exact hI2.less
      case measure => simp [intOf]; omega
    · have hie : i = its.length := by omega
      subst hie
      rw [List.take_length] at hIr
      have n0 : wr.cell? ⟨h1, 0, none⟩ = some (.int .i64 (sizeP its).1) := hIr.n.cell 0
      have d0 : wr.cell? ⟨h2, 0, none⟩ = some (.int .i64 (sizeP its).2) := hIr.d.cell 0
      clear hIr hI0
      obtain ⟨q, hq⟩ : ∃ q, q = sizeP its := ⟨_, rfl⟩
      rw [← hq] at n0 d0
      have HQ := Lib.hid hq
      clear hq
      go_wp2_with fail
      go_quiet (fail)
      go_wp2_with fail
      go_ret2
      exact ⟨by rw [← HQ.out]; rfl, by rw [e0]; exact below_drewN HB.out _⟩
end Go.Proofs.YtdmiakfgemeelaaDoor
