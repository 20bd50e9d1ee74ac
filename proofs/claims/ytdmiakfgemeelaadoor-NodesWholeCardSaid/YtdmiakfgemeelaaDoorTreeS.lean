/- How trees lie in memory, in blocks of a set S; what keeps those blocks. No program is in sight. -/
import Derived.Test.YtdmiakfgemeelaaDoorTree
namespace Go.Proofs.YtdmiakfgemeelaaDoor
set_option linter.unusedSimpArgs false
set_option linter.unusedVariables false
open Go.RowKit

mutual
/-- At block b, from cell o on, lies that expression; all of it in blocks of S. -/
def ExInS (w : World) (S : Nat → Prop) (b o : Nat) : Ex → Prop
  | .mk k s n kids => exOk k s n kids.length ∧ ∃ A c, w.cell? ⟨b, o, none⟩ = some (.int .u8 k) ∧ w.cell? ⟨b, o + 1, none⟩ = some (.string s) ∧ w.cell? ⟨b, o + 2, none⟩ = some (.int .u64 n) ∧ w.cell? ⟨b, o + 3, none⟩ = some (.slice A kids.length c) ∧ ExsInS w S A 0 kids
/-- From element i on lie those expressions. -/
def ExsInS (w : World) (S : Nat → Prop) (A : Option Addr) (i : Nat) : List Ex → Prop
  | [] => True
  | e :: es => (∃ b o, A = some ⟨b, o, none⟩ ∧ S b ∧ ExInS w S b (o + i * 4) e) ∧ ExsInS w S A (i + 1) es
end
mutual
/-- A statement likewise. -/
def StInS (w : World) (S : Nat → Prop) (b o : Nat) : St → Prop
  | .mk k s n exprs body els line => stOk k s n exprs.length body.length els.length ∧ ∃ A1 c1 A2 c2 A3 c3, w.cell? ⟨b, o, none⟩ = some (.int .u8 k) ∧ w.cell? ⟨b, o + 1, none⟩ = some (.string s) ∧ w.cell? ⟨b, o + 2, none⟩ = some (.int .i64 n) ∧
      w.cell? ⟨b, o + 3, none⟩ = some (.slice A1 exprs.length c1) ∧ w.cell? ⟨b, o + 4, none⟩ = some (.slice A2 body.length c2) ∧ w.cell? ⟨b, o + 5, none⟩ = some (.slice A3 els.length c3) ∧ w.cell? ⟨b, o + 6, none⟩ = some (.int .i64 line) ∧
      ExsInS w S A1 0 exprs ∧ StsInS w S A2 0 body ∧ StsInS w S A3 0 els
def StsInS (w : World) (S : Nat → Prop) (A : Option Addr) (i : Nat) : List St → Prop
  | [] => True
  | e :: es => (∃ b o, A = some ⟨b, o, none⟩ ∧ S b ∧ StInS w S b (o + i * 7) e) ∧ StsInS w S A (i + 1) es
end


/-- Whatever is kept: the blocks of S, and what stands outside of memory. -/
structure KeptS (S : Nat → Prop) (W w' : World) : Prop where
  os : w'.os = W.os
  tape : w'.tape = W.tape
  output : w'.output = W.output
  size : W.heap.size ≤ w'.heap.size
  block : ∀ k, S k → w'.heap[k]? = W.heap[k]?

section
variable {S : Nat → Prop} {W w1 w2 : World}
theorem KeptS.refl : KeptS S W W := ⟨rfl, rfl, rfl, Nat.le_refl _, fun _ _ => rfl⟩
theorem KeptS.trans (h : KeptS S W w1) (k : KeptS S w1 w2) : KeptS S W w2 := ⟨k.os.trans h.os, k.tape.trans h.tape, k.output.trans h.output, Nat.le_trans h.size k.size, fun b hb => (k.block b hb).trans (h.block b hb)⟩
theorem KeptS.drew (h : KeptS S W w1) : KeptS S W w1.drew := ⟨h.os, h.tape, h.output, h.size, h.block⟩
theorem KeptS.of_below {B : Nat} (h : Below B W w1) (hS : ∀ b, S b → b < B) : KeptS S W w1 := ⟨h.os, h.tape, h.output, h.size, fun b hb => h.block b (hS b hb)⟩
theorem KeptS.below {B : Nat} (h : KeptS S W w1) (hS : ∀ b, b < B → S b) : Below B W w1 := ⟨h.os, h.tape, h.output, h.size, fun b hb => h.block b (hS b hb)⟩
theorem KeptS.setCell (h : KeptS S W w1) {p : Addr} (hp : ¬ S p.block) (u : Value) : KeptS S W (w1.setCell p u) :=
  ⟨h.os, h.tape, h.output, by simpa using h.size, fun b hb => (Below.heap_setCell w1 p u b (fun e => hp (e ▸ hb))).trans (h.block b hb)⟩
theorem KeptS.cell (h : KeptS S W w1) {b : Nat} (hb : S b) (o : Nat) : w1.cell? ⟨b, o, none⟩ = W.cell? ⟨b, o, none⟩ := World.cell?_of_block (w := W) (h.block b hb)
end

mutual
theorem ExInS.kept {w w' : World} {S : Nat → Prop} {b : Nat} (hk : KeptS S w w') (hb : S b) : ∀ {o : Nat} {e : Ex}, ExInS w S b o e → ExInS w' S b o e
  | o, .mk k s n kids, h => by
    simp only [ExInS] at h ⊢
    obtain ⟨h0, A, c, h1, h2, h3, h4, h5⟩ := h
    exact ⟨h0, A, c, by rw [hk.cell hb]; exact h1, by rw [hk.cell hb]; exact h2, by rw [hk.cell hb]; exact h3, by rw [hk.cell hb]; exact h4, ExsInS.kept hk h5⟩
theorem ExsInS.kept {w w' : World} {S : Nat → Prop} (hk : KeptS S w w') : ∀ {A : Option Addr} {i : Nat} {es : List Ex}, ExsInS w S A i es → ExsInS w' S A i es
  | _, _, [], _ => by simp only [ExsInS]
  | A, i, e :: es, h => by
    simp only [ExsInS] at h ⊢
    obtain ⟨⟨b, o, h1, h2, h3⟩, h4⟩ := h
    exact ⟨⟨b, o, h1, h2, ExInS.kept hk h2 h3⟩, ExsInS.kept hk h4⟩
end
mutual
theorem StInS.kept {w w' : World} {S : Nat → Prop} {b : Nat} (hk : KeptS S w w') (hb : S b) : ∀ {o : Nat} {e : St}, StInS w S b o e → StInS w' S b o e
  | o, .mk k s n e1 e2 e3 ln, h => by
    simp only [StInS] at h ⊢
    obtain ⟨h0, A1, c1, A2, c2, A3, c3, h1, h2, h3, h4, h5, h6, h7, h8, h9, h10⟩ := h
    exact ⟨h0, A1, c1, A2, c2, A3, c3, by rw [hk.cell hb]; exact h1, by rw [hk.cell hb]; exact h2, by rw [hk.cell hb]; exact h3, by rw [hk.cell hb]; exact h4, by rw [hk.cell hb]; exact h5, by rw [hk.cell hb]; exact h6, by rw [hk.cell hb]; exact h7, ExsInS.kept hk h8, StsInS.kept hk h9, StsInS.kept hk h10⟩
theorem StsInS.kept {w w' : World} {S : Nat → Prop} (hk : KeptS S w w') : ∀ {A : Option Addr} {i : Nat} {es : List St}, StsInS w S A i es → StsInS w' S A i es
  | _, _, [], _ => by simp only [StsInS]
  | A, i, e :: es, h => by
    simp only [StsInS] at h ⊢
    obtain ⟨⟨b, o, h1, h2, h3⟩, h4⟩ := h
    exact ⟨⟨b, o, h1, h2, StInS.kept hk h2 h3⟩, StsInS.kept hk h4⟩
end
mutual
theorem ExInS.toB {w : World} {S : Nat → Prop} {B b : Nat} (hS : ∀ b, S b → b < B) : ∀ {o : Nat} {e : Ex}, ExInS w S b o e → ExIn w B b o e
  | o, .mk k s n kids, h => by
    simp only [ExInS] at h
    simp only [ExIn]
    obtain ⟨h0, A, c, h1, h2, h3, h4, h5⟩ := h
    exact ⟨h0, A, c, h1, h2, h3, h4, ExsInS.toB hS h5⟩
theorem ExsInS.toB {w : World} {S : Nat → Prop} {B : Nat} (hS : ∀ b, S b → b < B) : ∀ {A : Option Addr} {i : Nat} {es : List Ex}, ExsInS w S A i es → ExsIn w B A i es
  | _, _, [], _ => by simp only [ExsIn]
  | A, i, e :: es, h => by
    simp only [ExsInS] at h
    simp only [ExsIn]
    obtain ⟨⟨b, o, h1, h2, h3⟩, h4⟩ := h
    exact ⟨⟨b, o, h1, hS b h2, ExInS.toB hS h3⟩, ExsInS.toB hS h4⟩
end
mutual
theorem StInS.toB {w : World} {S : Nat → Prop} {B b : Nat} (hS : ∀ b, S b → b < B) : ∀ {o : Nat} {e : St}, StInS w S b o e → StIn w B b o e
  | o, .mk k s n e1 e2 e3 ln, h => by
    simp only [StInS] at h
    simp only [StIn]
    obtain ⟨h0, A1, c1, A2, c2, A3, c3, h1, h2, h3, h4, h5, h6, h7, h8, h9, h10⟩ := h
    exact ⟨h0, A1, c1, A2, c2, A3, c3, h1, h2, h3, h4, h5, h6, h7, ExsInS.toB hS h8, StsInS.toB hS h9, StsInS.toB hS h10⟩
theorem StsInS.toB {w : World} {S : Nat → Prop} {B : Nat} (hS : ∀ b, S b → b < B) : ∀ {A : Option Addr} {i : Nat} {es : List St}, StsInS w S A i es → StsIn w B A i es
  | _, _, [], _ => by simp only [StsIn]
  | A, i, e :: es, h => by
    simp only [StsInS] at h
    simp only [StsIn]
    obtain ⟨⟨b, o, h1, h2, h3⟩, h4⟩ := h
    exact ⟨⟨b, o, h1, hS b h2, StInS.toB hS h3⟩, StsInS.toB hS h4⟩
end
mutual
theorem ExIn.toS {w : World} {S : Nat → Prop} {B b : Nat} (hS : ∀ b, b < B → S b) : ∀ {o : Nat} {e : Ex}, ExIn w B b o e → ExInS w S b o e
  | o, .mk k s n kids, h => by
    simp only [ExIn] at h
    simp only [ExInS]
    obtain ⟨h0, A, c, h1, h2, h3, h4, h5⟩ := h
    exact ⟨h0, A, c, h1, h2, h3, h4, ExsIn.toS hS h5⟩
theorem ExsIn.toS {w : World} {S : Nat → Prop} {B : Nat} (hS : ∀ b, b < B → S b) : ∀ {A : Option Addr} {i : Nat} {es : List Ex}, ExsIn w B A i es → ExsInS w S A i es
  | _, _, [], _ => by simp only [ExsInS]
  | A, i, e :: es, h => by
    simp only [ExsIn] at h
    simp only [ExsInS]
    obtain ⟨⟨b, o, h1, h2, h3⟩, h4⟩ := h
    exact ⟨⟨b, o, h1, hS b h2, ExIn.toS hS h3⟩, ExsIn.toS hS h4⟩
end
mutual
theorem StIn.toS {w : World} {S : Nat → Prop} {B b : Nat} (hS : ∀ b, b < B → S b) : ∀ {o : Nat} {e : St}, StIn w B b o e → StInS w S b o e
  | o, .mk k s n e1 e2 e3 ln, h => by
    simp only [StIn] at h
    simp only [StInS]
    obtain ⟨h0, A1, c1, A2, c2, A3, c3, h1, h2, h3, h4, h5, h6, h7, h8, h9, h10⟩ := h
    exact ⟨h0, A1, c1, A2, c2, A3, c3, h1, h2, h3, h4, h5, h6, h7, ExsIn.toS hS h8, StsIn.toS hS h9, StsIn.toS hS h10⟩
theorem StsIn.toS {w : World} {S : Nat → Prop} {B : Nat} (hS : ∀ b, b < B → S b) : ∀ {A : Option Addr} {i : Nat} {es : List St}, StsIn w B A i es → StsInS w S A i es
  | _, _, [], _ => by simp only [StsInS]
  | A, i, e :: es, h => by
    simp only [StsIn] at h
    simp only [StsInS]
    obtain ⟨⟨b, o, h1, h2, h3⟩, h4⟩ := h
    exact ⟨⟨b, o, h1, hS b h2, StIn.toS hS h3⟩, StsIn.toS hS h4⟩
end

theorem ExsInS.at_ {w : World} {S : Nat → Prop} {A : Option Addr} : ∀ {i : Nat} {es : List Ex}, ExsInS w S A i es → ∀ j (hj : j < es.length), ∃ b o, A = some ⟨b, o, none⟩ ∧ S b ∧ ExInS w S b (o + (i + j) * 4) es[j]
  | _, [], _, j, hj => by simp at hj
  | i, e :: es, h, 0, _ => by
    simp only [ExsInS] at h
    exact h.1
  | i, e :: es, h, j + 1, hj => by
    simp only [ExsInS] at h
    have := ExsInS.at_ h.2 j (by simpa using hj)
    rw [show i + 1 + j = i + (j + 1) by omega] at this
    exact this
theorem StsInS.at_ {w : World} {S : Nat → Prop} {A : Option Addr} : ∀ {i : Nat} {es : List St}, StsInS w S A i es → ∀ j (hj : j < es.length), ∃ b o, A = some ⟨b, o, none⟩ ∧ S b ∧ StInS w S b (o + (i + j) * 7) es[j]
  | _, [], _, j, hj => by simp at hj
  | i, e :: es, h, 0, _ => by
    simp only [StsInS] at h
    exact h.1
  | i, e :: es, h, j + 1, hj => by
    simp only [StsInS] at h
    have := StsInS.at_ h.2 j (by simpa using hj)
    rw [show i + 1 + j = i + (j + 1) by omega] at this
    exact this
end Go.Proofs.YtdmiakfgemeelaaDoor
