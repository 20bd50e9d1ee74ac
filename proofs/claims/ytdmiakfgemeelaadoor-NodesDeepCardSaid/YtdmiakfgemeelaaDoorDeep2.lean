/- NodesDeep: the walk. -/
import Derived.Test.YtdmiakfgemeelaaDoorDeep1
import Derived.Test.YtdmiakfgemeelaaDoorDeepLaw
namespace Go.Proofs.YtdmiakfgemeelaaDoor
set_option linter.unusedSimpArgs false
set_option linter.unusedVariables false
open Go.RowKit

mutual
theorem ExInS.to {w w' : World} {S S' : Nat → Prop} {b : Nat} (hS : ∀ b, S b → S' b) (hc : ∀ b o v, S b → w.cell? ⟨b, o, none⟩ = some v → w'.cell? ⟨b, o, none⟩ = some v) (hb : S b) : ∀ {o : Nat} {e : Ex}, ExInS w S b o e → ExInS w' S' b o e
  | o, .mk k s n kids, h => by
    simp only [ExInS] at h ⊢
    obtain ⟨h0, A, c, h1, h2, h3, h4, h5⟩ := h
    exact ⟨h0, A, c, hc _ _ _ hb h1, hc _ _ _ hb h2, hc _ _ _ hb h3, hc _ _ _ hb h4, ExsInS.to hS hc h5⟩
theorem ExsInS.to {w w' : World} {S S' : Nat → Prop} (hS : ∀ b, S b → S' b) (hc : ∀ b o v, S b → w.cell? ⟨b, o, none⟩ = some v → w'.cell? ⟨b, o, none⟩ = some v) : ∀ {A : Option Addr} {i : Nat} {es : List Ex}, ExsInS w S A i es → ExsInS w' S' A i es
  | _, _, [], _ => by simp only [ExsInS]
  | A, i, e :: es, h => by
    simp only [ExsInS] at h ⊢
    obtain ⟨⟨b, o, h1, h2, h3⟩, h4⟩ := h
    exact ⟨⟨b, o, h1, hS b h2, ExInS.to hS hc h2 h3⟩, ExsInS.to hS hc h4⟩
end

/-- The chain of XNot's: the row of its head, the kids elsewhere. -/
def Chain (W : World) (h0 : Nat) (e : Ex) : Prop := ∃ A c, Blk W h0 27 #[.int .u8 e.k, .string e.s, .int .u64 e.n, .slice A e.kids.length c] ∧ ExsInS W (fun b => b ≠ h0 ∧ b < W.heap.size) A 0 e.kids

theorem notN_ok (k : Nat) : exOk (notN k).k (notN k).s (notN k).n (notN k).kids.length := by
  cases k with
  | zero => exact ⟨by show (0 : Int) ≤ 1; omega, by show (1 : Int) ≤ 255; omega, by show (0 : Nat) ≤ _; omega, by show (0 : Int) ≤ 0; omega, by show (0 : Int) ≤ _; omega, by show (0 : Nat) ≤ _; omega⟩
  | succ k => exact ⟨by show (0 : Int) ≤ 11; omega, by show (11 : Int) ≤ 255; omega, by show (0 : Nat) ≤ _; omega, by show (0 : Int) ≤ 0; omega, by show (0 : Int) ≤ _; omega, by show (1 : Nat) ≤ _; omega⟩

theorem chain_step {W : World} {h0 : Nat} {k : Nat} {A : Option Addr} {c : Nat}
    (hb : Blk W h0 27 #[.int .u8 (notN k).k, .string (notN k).s, .int .u64 (notN k).n, .slice A (notN k).kids.length c]) (hk : ExsInS W (fun b => b ≠ h0 ∧ b < W.heap.size) A 0 (notN k).kids) :
    Chain ((W.alloc (.cells #[.int .u8 (notN k).k, .string (notN k).s, .int .u64 (notN k).n, .slice A (notN k).kids.length c] 27)).setRow h0 #[.int .u8 11, .string ⟨#[]⟩, .int .u64 0, .slice (some ⟨W.heap.size, 0, none⟩) 1 1]) h0 (notN (k + 1)) := by
  obtain ⟨ob, hob⟩ : ∃ ob, ob = #[Value.int .u8 (notN k).k, .string (notN k).s, .int .u64 (notN k).n, .slice A (notN k).kids.length c] := ⟨_, rfl⟩
  rw [← hob] at hb ⊢
  have hlt := hb.lt
  have b1 := (hb.alloc (.cells ob 27)).setRow #[.int .u8 11, .string ⟨#[]⟩, .int .u64 0, .slice (some ⟨W.heap.size, 0, none⟩) 1 1]
  have b2 := (Blk.new W 27 ob).farRow (show W.heap.size ≠ h0 by omega) #[.int .u8 11, .string ⟨#[]⟩, .int .u64 0, .slice (some ⟨W.heap.size, 0, none⟩) 1 1]
  refine ⟨some ⟨W.heap.size, 0, none⟩, 1, b1, ?_⟩
  have hz : W.heap.size < ((W.alloc (.cells ob 27)).setRow h0 #[.int .u8 11, .string ⟨#[]⟩, .int .u64 0, .slice (some ⟨W.heap.size, 0, none⟩) 1 1]).heap.size := b2.lt
  generalize hW1 : (W.alloc (.cells ob 27)).setRow h0 #[.int .u8 11, .string ⟨#[]⟩, .int .u64 0, .slice (some ⟨W.heap.size, 0, none⟩) 1 1] = W1 at b1 b2 hz ⊢
  have hkk : ExsInS W1 (fun b => b ≠ h0 ∧ b < W1.heap.size) A 0 (notN k).kids := by
    refine hk.to (fun b h => ⟨h.1, by have := h.2; omega⟩) (fun b o v h hv => ?_)
    rw [← hv, ← hW1]
    refine World.cell?_of_block (w := W) ?_
    show ((W.alloc (.cells ob 27)).setRow h0 _).heap[b]? = W.heap[b]?
    simp only [World.setRow, Array.getElem?_modify]
    rw [if_neg (fun e => h.1 e.symm)]
    exact Below.heap_alloc W _ b h.2
  show ExsInS W1 _ _ 0 [notN k]
  simp only [ExsInS]
  refine ⟨⟨W.heap.size, 0, rfl, ⟨by omega, hz⟩, ?_⟩, trivial⟩
  have ho := notN_ok k
  subst hob
  generalize notN k = e at *
  obtain ⟨k', s, n, kids⟩ := e
  simp only [ExInS]
  exact ⟨ho, A, c, b2.cell 0, b2.cell 1, b2.cell 2, b2.cell 3, hkk⟩
end Go.Proofs.YtdmiakfgemeelaaDoor
