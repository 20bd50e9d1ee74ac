/- Expressions, statements, items as Lean data, and how they lie in memory. No program is in sight. -/
import Derived.Test.YtdmiakfgemeelaaDoorMem
namespace Go.Proofs.YtdmiakfgemeelaaDoor
set_option linter.unusedSimpArgs false
set_option linter.unusedVariables false
open Go.RowKit

inductive Ex where
  | mk (k : Int) (s : ByteArray) (n : Int) (kids : List Ex)
inductive St where
  | mk (k : Int) (s : ByteArray) (n : Int) (exprs : List Ex) (body els : List St) (line : Int)
structure It where
  k : Int
  name : ByteArray
  params : List ByteArray
  exprs : List Ex
  hasBody : Bool
  body : List St
  line : Int

def Ex.k : Ex → Int | .mk k _ _ _ => k
def Ex.s : Ex → ByteArray | .mk _ s _ _ => s
def Ex.n : Ex → Int | .mk _ _ n _ => n
def Ex.kids : Ex → List Ex | .mk _ _ _ l => l
def St.k : St → Int | .mk k _ _ _ _ _ _ => k
def St.s : St → ByteArray | .mk _ s _ _ _ _ _ => s
def St.n : St → Int | .mk _ _ n _ _ _ _ => n
def St.exprs : St → List Ex | .mk _ _ _ l _ _ _ => l
def St.body : St → List St | .mk _ _ _ _ l _ _ => l
def St.els : St → List St | .mk _ _ _ _ _ l _ => l
def St.line : St → Int | .mk _ _ _ _ _ _ n => n

def exOk (k : Int) (s : ByteArray) (n : Int) (len : Nat) : Prop := 0 ≤ k ∧ k ≤ 255 ∧ s.size ≤ 140737488351232 ∧ 0 ≤ n ∧ n ≤ 18446744073709551615 ∧ len ≤ 140737488351232
def stOk (k : Int) (s : ByteArray) (n : Int) (l1 l2 l3 : Nat) : Prop := 0 ≤ k ∧ k ≤ 255 ∧ s.size ≤ 140737488351232 ∧ -9223372036854775808 ≤ n ∧ n ≤ 9223372036854775807 ∧ l1 ≤ 140737488351232 ∧ l2 ≤ 140737488351232 ∧ l3 ≤ 140737488351232

mutual
/-- At block b, from cell o on, lies that expression; all of it below block B. -/
def ExIn (w : World) (B b o : Nat) : Ex → Prop
  | .mk k s n kids => exOk k s n kids.length ∧ ∃ A c, w.cell? ⟨b, o, none⟩ = some (.int .u8 k) ∧ w.cell? ⟨b, o + 1, none⟩ = some (.string s) ∧ w.cell? ⟨b, o + 2, none⟩ = some (.int .u64 n) ∧ w.cell? ⟨b, o + 3, none⟩ = some (.slice A kids.length c) ∧ ExsIn w B A 0 kids
/-- From element i on lie those expressions. -/
def ExsIn (w : World) (B : Nat) (A : Option Addr) (i : Nat) : List Ex → Prop
  | [] => True
  | e :: es => (∃ b o, A = some ⟨b, o, none⟩ ∧ b < B ∧ ExIn w B b (o + i * 4) e) ∧ ExsIn w B A (i + 1) es
end
mutual
/-- A statement likewise. -/
def StIn (w : World) (B b o : Nat) : St → Prop
  | .mk k s n exprs body els line => stOk k s n exprs.length body.length els.length ∧ ∃ A1 c1 A2 c2 A3 c3, w.cell? ⟨b, o, none⟩ = some (.int .u8 k) ∧ w.cell? ⟨b, o + 1, none⟩ = some (.string s) ∧ w.cell? ⟨b, o + 2, none⟩ = some (.int .i64 n) ∧
      w.cell? ⟨b, o + 3, none⟩ = some (.slice A1 exprs.length c1) ∧ w.cell? ⟨b, o + 4, none⟩ = some (.slice A2 body.length c2) ∧ w.cell? ⟨b, o + 5, none⟩ = some (.slice A3 els.length c3) ∧ w.cell? ⟨b, o + 6, none⟩ = some (.int .i64 line) ∧
      ExsIn w B A1 0 exprs ∧ StsIn w B A2 0 body ∧ StsIn w B A3 0 els
def StsIn (w : World) (B : Nat) (A : Option Addr) (i : Nat) : List St → Prop
  | [] => True
  | e :: es => (∃ b o, A = some ⟨b, o, none⟩ ∧ b < B ∧ StIn w B b (o + i * 7) e) ∧ StsIn w B A (i + 1) es
end

mutual
theorem ExIn.keep {w w' : World} {B B' b : Nat} (hk : ∀ b o, b < B → w'.cell? ⟨b, o, none⟩ = w.cell? ⟨b, o, none⟩) (hB : B ≤ B') (hb : b < B) : ∀ {o : Nat} {e : Ex}, ExIn w B b o e → ExIn w' B' b o e
  | o, .mk k s n kids, h => by
    simp only [ExIn] at h ⊢
    obtain ⟨h0, A, c, h1, h2, h3, h4, h5⟩ := h
    exact ⟨h0, A, c, by rw [hk _ _ hb]; exact h1, by rw [hk _ _ hb]; exact h2, by rw [hk _ _ hb]; exact h3, by rw [hk _ _ hb]; exact h4, ExsIn.keep hk hB h5⟩
theorem ExsIn.keep {w w' : World} {B B' : Nat} (hk : ∀ b o, b < B → w'.cell? ⟨b, o, none⟩ = w.cell? ⟨b, o, none⟩) (hB : B ≤ B') : ∀ {A : Option Addr} {i : Nat} {es : List Ex}, ExsIn w B A i es → ExsIn w' B' A i es
  | _, _, [], _ => by simp only [ExsIn]
  | A, i, e :: es, h => by
    simp only [ExsIn] at h ⊢
    obtain ⟨⟨b, o, h1, h2, h3⟩, h4⟩ := h
    exact ⟨⟨b, o, h1, by omega, ExIn.keep hk hB h2 h3⟩, ExsIn.keep hk hB h4⟩
end
mutual
theorem StIn.keep {w w' : World} {B B' b : Nat} (hk : ∀ b o, b < B → w'.cell? ⟨b, o, none⟩ = w.cell? ⟨b, o, none⟩) (hB : B ≤ B') (hb : b < B) : ∀ {o : Nat} {e : St}, StIn w B b o e → StIn w' B' b o e
  | o, .mk k s n e1 e2 e3 ln, h => by
    simp only [StIn] at h ⊢
    obtain ⟨h0, A1, c1, A2, c2, A3, c3, h1, h2, h3, h4, h5, h6, h7, h8, h9, h10⟩ := h
    exact ⟨h0, A1, c1, A2, c2, A3, c3, by rw [hk _ _ hb]; exact h1, by rw [hk _ _ hb]; exact h2, by rw [hk _ _ hb]; exact h3, by rw [hk _ _ hb]; exact h4, by rw [hk _ _ hb]; exact h5, by rw [hk _ _ hb]; exact h6, by rw [hk _ _ hb]; exact h7, ExsIn.keep hk hB h8, StsIn.keep hk hB h9, StsIn.keep hk hB h10⟩
theorem StsIn.keep {w w' : World} {B B' : Nat} (hk : ∀ b o, b < B → w'.cell? ⟨b, o, none⟩ = w.cell? ⟨b, o, none⟩) (hB : B ≤ B') : ∀ {A : Option Addr} {i : Nat} {es : List St}, StsIn w B A i es → StsIn w' B' A i es
  | _, _, [], _ => by simp only [StsIn]
  | A, i, e :: es, h => by
    simp only [StsIn] at h ⊢
    obtain ⟨⟨b, o, h1, h2, h3⟩, h4⟩ := h
    exact ⟨⟨b, o, h1, by omega, StIn.keep hk hB h2 h3⟩, StsIn.keep hk hB h4⟩
end
theorem ExIn.below {w w' : World} {B b o : Nat} {e : Ex} (h : ExIn w B b o e) (hb : b < B) (hw : Below B w w') : ExIn w' B b o e := h.keep (below_cells hw).1 (Nat.le_refl _) hb
theorem ExsIn.below {w w' : World} {B i : Nat} {A : Option Addr} {es : List Ex} (h : ExsIn w B A i es) (hw : Below B w w') : ExsIn w' B A i es := h.keep (below_cells hw).1 (Nat.le_refl _)
theorem StIn.below {w w' : World} {B b o : Nat} {e : St} (h : StIn w B b o e) (hb : b < B) (hw : Below B w w') : StIn w' B b o e := h.keep (below_cells hw).1 (Nat.le_refl _) hb
theorem StsIn.below {w w' : World} {B i : Nat} {A : Option Addr} {es : List St} (h : StsIn w B A i es) (hw : Below B w w') : StsIn w' B A i es := h.keep (below_cells hw).1 (Nat.le_refl _)
theorem ExsIn.more {w : World} {B B' i : Nat} {A : Option Addr} {es : List Ex} (h : ExsIn w B A i es) (hB : B ≤ B') : ExsIn w B' A i es := h.keep (fun _ _ _ => rfl) hB
theorem StsIn.more {w : World} {B B' i : Nat} {A : Option Addr} {es : List St} (h : StsIn w B A i es) (hB : B ≤ B') : StsIn w B' A i es := h.keep (fun _ _ _ => rfl) hB

theorem ExsIn.at_ {w : World} {B : Nat} {A : Option Addr} : ∀ {i : Nat} {es : List Ex}, ExsIn w B A i es → ∀ j (hj : j < es.length), ∃ b o, A = some ⟨b, o, none⟩ ∧ b < B ∧ ExIn w B b (o + (i + j) * 4) es[j]
  | _, [], _, j, hj => by simp at hj
  | i, e :: es, h, 0, _ => by
    simp only [ExsIn] at h
    exact h.1
  | i, e :: es, h, j + 1, hj => by
    simp only [ExsIn] at h
    have := ExsIn.at_ h.2 j (by simpa using hj)
    rw [show i + 1 + j = i + (j + 1) by omega] at this
    exact this
theorem StsIn.at_ {w : World} {B : Nat} {A : Option Addr} : ∀ {i : Nat} {es : List St}, StsIn w B A i es → ∀ j (hj : j < es.length), ∃ b o, A = some ⟨b, o, none⟩ ∧ b < B ∧ StIn w B b (o + (i + j) * 7) es[j]
  | _, [], _, j, hj => by simp at hj
  | i, e :: es, h, 0, _ => by
    simp only [StsIn] at h
    exact h.1
  | i, e :: es, h, j + 1, hj => by
    simp only [StsIn] at h
    have := StsIn.at_ h.2 j (by simpa using hj)
    rw [show i + 1 + j = i + (j + 1) by omega] at this
    exact this
end Go.Proofs.YtdmiakfgemeelaaDoor
