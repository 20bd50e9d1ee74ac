/- nodes.Expr. -/
import Derived.Test.YtdmiakfgemeelaaDoorNodes5
namespace Go.Proofs.YtdmiakfgemeelaaDoor
set_option linter.unusedSimpArgs false
set_option linter.unusedVariables false
open Go.RowKit

def goodE (st : Bool) (e : Ex) (deep : Int) : Bool := st && decide (deep ≤ 60) && aloneB e
def exprB (e : Ex) : Bool := wEs goodE 61 1 true [e]

theorem below_of_ext {L : List (Nat × Obj)} {S : Nat → Prop} {B wb gb ab mb : Nat} {fe fs : Value} {most : Int} {st : Bool} {W : World} (hS : ∀ k, S k → k < B ∨ ∃ p ∈ L, p.1 = k)
    (hI : InvG L B wb gb ab mb fe fs most st W) : ∀ k, S k → k < W.heap.size := fun k hk => by
  rcases hS k hk with h | ⟨p, hp, rfl⟩
  · have := hI.size; omega
  · exact (Array.getElem?_eq_some_iff.1 (hI.ext p hp)).1

theorem tellsE_expr {L : List (Nat × Obj)} {S : Nat → Prop} {B wb gb ab mb : Nat} {fs : Value} {most : Int} (hm : most ≤ 1000000) (D : Apart L B wb gb ab mb) (hS : ∀ k, S k → k < B ∨ ∃ p ∈ L, p.1 = k) (hSg : ¬ S gb) :
    TellsE S wb (.func (.func 22) #[] #[.pointer (some ⟨gb, 0, none⟩), .pointer (some ⟨ab, 0, none⟩)]) fs most
      (InvG L B wb gb ab mb (.func (.func 22) #[] #[.pointer (some ⟨gb, 0, none⟩), .pointer (some ⟨ab, 0, none⟩)]) fs most) goodE 22 #[.pointer (some ⟨gb, 0, none⟩), .pointer (some ⟨ab, 0, none⟩)] where
  isFn := rfl
  eg := Tryd.call22
  own := fun _ _ h => h.own
  drew := fun _ _ h => h.drew
  call := fun st W b o e deep hI hb hx h1 h2 => expr1_any D hm st W b o e deep hI (below_of_ext hS hI) hSg hb hx h1 h2

theorem blkK (w w1 : World) (t0 t1 tA tB : TypeId) (c0 c1 cA cB : Array Value) (ob : Obj) (hm : w1.heap[((w.alloc (.cells c0 t0)).alloc (.cells c1 t1)).heap.size]? = some ob)
    (hB : Below ((w.alloc (.cells c0 t0)).alloc (.cells c1 t1)).heap.size ((w.alloc (.cells c0 t0)).alloc (.cells c1 t1)) w1) (W : World) (hW : W = (w1.alloc (.cells cA tA)).alloc (.cells cB tB)) :
    Blk W w.heap.size t0 c0 ∧ Blk W (w.heap.size + 1) t1 c1 ∧ W.heap[w.heap.size + 1 + 1]? = some ob ∧ Blk W w1.heap.size tA cA ∧ Blk W (w1.heap.size + 1) tB cB ∧ Below w.heap.size w W ∧ w.heap.size + 1 + 1 < w1.heap.size := by
  subst hW
  have hz : ((w.alloc (.cells c0 t0)).alloc (.cells c1 t1)).heap.size = w.heap.size + 1 + 1 := by simp
  rw [hz] at hm hB
  have hlt : w.heap.size + 1 + 1 < w1.heap.size := (Array.getElem?_eq_some_iff.1 hm).1
  refine ⟨((((Blk.new w t0 c0).alloc _).below hB (by omega)).alloc _).alloc _, ?_, ?_, (Blk.new w1 tA cA).alloc _, ?_, ?_, hlt⟩
  · have := Blk.new (w.alloc (.cells c0 t0)) t1 c1
    rw [show (w.alloc (.cells c0 t0)).heap.size = w.heap.size + 1 by simp] at this
    exact ((this.below hB (by omega)).alloc _).alloc _
  · rw [Below.heap_alloc _ _ _ (by simp; omega), Below.heap_alloc _ _ _ (by omega)]
    exact hm
  · have := Blk.new (w1.alloc (.cells cA tA)) tB cB
    rw [show (w1.alloc (.cells cA tA)).heap.size = w1.heap.size + 1 by simp] at this
    exact this
  · exact (((((Below.refl _ _).alloc (Nat.le_refl _) _).alloc (by simp) _).trans (hB.mono (by omega))).alloc (by omega) _).alloc (by simp; omega) _

set_option maxRecDepth 100000 in
set_option maxHeartbeats 1000000 in
theorem Expr_any (A : Option Addr) (c : Nat) (e : Ex) (w : World) (ho : exOk e.k e.s e.n e.kids.length) (hk : ExsIn w w.heap.size A 0 e.kids) (hT : Tab w.heap.size w) :
    Calls Tryd.prog 8 #[exV A c e] w fun r w' => r = .returned (.bool (exprB e)) ∧ Below w.heap.size w w' := by
  have hmf : ∀ (fn : Fn) (first cap : Array Value) (w : World), (Instr.makeFunc fn first cap).run Tryd.prog w = .ok (.func fn first cap) w := fun _ _ _ _ => rfl
  have HK := Lib.hid hk
  have HT := Lib.hid hT
  have HO := Lib.hid ho
  have HE : Hid (∀ k s n kids, e = .mk k s n kids → True) := fun _ _ _ _ _ => trivial
  clear hk hT ho HE
  unfold exV
  obtain ⟨v, hv⟩ : ∃ v, v = exprB e := ⟨_, rfl⟩
  rw [← hv]
  have HV := Lib.hid hv
  clear hv
  go_enter Tryd.func8, Tryd.ntmps8
  go_upto_region 4 with (go_at_call 14; ((with_reducible refine (kinds_any _).mono ?_); rintro e1 w1 ⟨rfl, hm1, hB1⟩))
  clear hmf
  generalize hW4 : World.alloc _ _ = W4
  obtain ⟨b0, b1, hm, bA, bB, hB4, hz⟩ := blkK w w1 _ _ _ _ _ _ _ _ _ hm1 hB1 W4 hW4.symm
  clear hW4 hm1 hB1
  generalize e0 : w.heap.size = h0 at *
  generalize e1 : h0 + 1 = h1 at *
  generalize e2 : h1 + 1 = h2 at *
  generalize e3 : w1.heap.size = h3 at *
  generalize e4 : h3 + 1 = h4 at *
  have c0 := b0.cell 0
  have c1 := b0.cell 1
  have c2 := b0.cell 2
  have c3 := b0.cell 3
  have hz4 := bB.lt
  have B0 := Lib.hid b0
  have B1 := Lib.hid b1
  have BA := Lib.hid bA
  have BB := Lib.hid bB
  have HM := Lib.hid hm
  clear b0 b1 bA bB hm e3
  have CX : Hid (Calls Tryd.prog 20 #[.pointer (some ⟨h4, 0, none⟩), .slice (some ⟨W4.heap.size, 0, none⟩) 1 1, .int .i64 1] (W4.alloc (.cells #[.int .u8 e.k, .string e.s, .int .u64 e.n, .slice A e.kids.length c] 27))
      fun r w' => (∃ u, r = .returned u) ∧ w'.cell? ⟨h1, 0, none⟩ = some (.bool v) ∧ Below h0 w w') := by
    obtain ⟨hs, hhs⟩ : ∃ hs, hs = W4.heap.size := ⟨_, rfl⟩
    obtain ⟨ob, hob⟩ : ∃ ob, ob = Obj.cells #[.int .u8 e.k, .string e.s, .int .u64 e.n, .slice A e.kids.length c] 27 := ⟨_, rfl⟩
    have hnew : (W4.alloc ob).heap[hs]? = some ob := by rw [hhs]; exact heap_alloc_new W4 ob
    have hBa : Below h0 w (W4.alloc ob) := hB4.alloc (by omega) _
    have D : Apart [(hs, ob)] h0 h4 h1 h3 h2 := ⟨fun p hp => by simp at hp; subst hp; simp; omega, by omega, by omega, by omega, by omega⟩
    have hI : InvG [(hs, ob)] h0 h4 h1 h3 h2 (.func (.func 22) #[] #[.pointer (some ⟨h1, 0, none⟩), .pointer (some ⟨h3, 0, none⟩)]) .nilFunc 61 true (W4.alloc ob) :=
      ⟨fun p hp => by simp at hp; subst hp; exact hnew, BB.out.alloc _, B1.out.alloc _, BA.out.alloc _, (Below.heap_alloc _ _ _ (by omega)).trans HM.out, HT.out.on hBa, by have := hBa.size; omega⟩
    have T := tellsE_expr (fs := .nilFunc) (S := fun b => b < h0 ∨ b = hs) (show (61 : Int) ≤ 1000000 by omega) D (fun k hk => hk.imp id (fun h => ⟨(hs, ob), by simp, h.symm⟩)) (by omega)
    have hkk : ExsInS (W4.alloc ob) (fun b => b < h0 ∨ b = hs) A 0 e.kids := ExsIn.toS (fun b hb => .inl hb) (HK.out.below hBa)
    have hcell := fun i => Blk.cell (w := W4.alloc ob) (g := hs) (by rw [hob] at hnew ⊢; exact hnew) i
    have hex : ExsInS (W4.alloc ob) (fun b => b < h0 ∨ b = hs) (some ⟨hs, 0, none⟩) 0 [e] := by
      simp only [ExsInS]
      refine ⟨⟨hs, 0, rfl, .inr rfl, ?_⟩, trivial⟩
      have ho := HO.out
      clear hI T D
      obtain ⟨k, s, n, kids⟩ := e
      simp only [ExInS]
      exact ⟨ho, A, c, hcell 0, hcell 1, hcell 2, hcell 3, hkk⟩
    rw [← hhs, ← hob]
    refine (exprs_any T (by omega) _ [e] (Nat.lt_succ_self _) true _ (some ⟨hs, 0, none⟩) 1 1 hI hex (by simp) (by omega) (by omega)).mono ?_
    rintro r w2 ⟨hr, hI2, hB2⟩
    refine ⟨hr, ?_, hBa.trans (hB2.below (fun b hb => .inl hb))⟩
    rw [HV.out]
    exact hI2.good.cell 0
  go_wp2_with (go_at_call 20; ((with_reducible refine CX.out.mono ?_); rintro e9 w2 ⟨⟨u, rfl⟩, hc2, hB2⟩))
  go_ret
  exact ⟨rfl, by rw [e0]; exact hB2⟩
end Go.Proofs.YtdmiakfgemeelaaDoor
