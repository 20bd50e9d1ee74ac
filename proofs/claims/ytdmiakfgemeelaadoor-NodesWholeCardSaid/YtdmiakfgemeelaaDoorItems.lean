/- Items in memory; nodes.item. -/
import Derived.Test.YtdmiakfgemeelaaDoorNodes5
namespace Go.Proofs.YtdmiakfgemeelaaDoor
set_option linter.unusedSimpArgs false
set_option linter.unusedVariables false
open Go.RowKit

/-- From element i on lie those texts. -/
def NamesIn (w : World) (B : Nat) (A : Option Addr) (i : Nat) : List ByteArray → Prop
  | [] => True
  | s :: l => (∃ b o, A = some ⟨b, o, none⟩ ∧ b < B ∧ w.cell? ⟨b, o + i, none⟩ = some (.string s)) ∧ NamesIn w B A (i + 1) l
def itOk (x : It) : Prop := 0 ≤ x.k ∧ x.k ≤ 255 ∧ x.name.size ≤ 140737488351232 ∧ x.params.length ≤ 140737488351232 ∧ (∀ s ∈ x.params, s.size ≤ 140737488351232) ∧ x.exprs.length ≤ 140737488351232 ∧ x.body.length ≤ 140737488351232
structure ItCells (w : World) (b o : Nat) (x : It) (A1 : Option Addr) (c1 : Nat) (A2 : Option Addr) (c2 : Nat) (A3 : Option Addr) (c3 : Nat) : Prop where
  k : w.cell? ⟨b, o, none⟩ = some (.int .u8 x.k)
  name : w.cell? ⟨b, o + 1, none⟩ = some (.string x.name)
  params : w.cell? ⟨b, o + 2, none⟩ = some (.slice A1 x.params.length c1)
  exprs : w.cell? ⟨b, o + 3, none⟩ = some (.slice A2 x.exprs.length c2)
  has : w.cell? ⟨b, o + 4, none⟩ = some (.bool x.hasBody)
  body : w.cell? ⟨b, o + 5, none⟩ = some (.slice A3 x.body.length c3)
  line : w.cell? ⟨b, o + 6, none⟩ = some (.int .i64 x.line)
def ItIn (w : World) (B b o : Nat) (x : It) : Prop := itOk x ∧ ∃ A1 c1 A2 c2 A3 c3, ItCells w b o x A1 c1 A2 c2 A3 c3 ∧ NamesIn w B A1 0 x.params ∧ ExsIn w B A2 0 x.exprs ∧ StsIn w B A3 0 x.body
def ItsIn (w : World) (B : Nat) (A : Option Addr) (i : Nat) : List It → Prop
  | [] => True
  | x :: l => (∃ b o, A = some ⟨b, o, none⟩ ∧ b < B ∧ ItIn w B b (o + i * 7) x) ∧ ItsIn w B A (i + 1) l

section
variable {w w' : World} {B B' : Nat}
theorem NamesIn.keep (hk : ∀ b o, b < B → w'.cell? ⟨b, o, none⟩ = w.cell? ⟨b, o, none⟩) (hB : B ≤ B') {A : Option Addr} : ∀ {l : List ByteArray} {i : Nat}, NamesIn w B A i l → NamesIn w' B' A i l
  | [], _, _ => trivial
  | s :: l, i, h => by
    obtain ⟨⟨b, o, h1, h2, h3⟩, h4⟩ := h
    exact ⟨⟨b, o, h1, by omega, by rw [hk _ _ h2]; exact h3⟩, NamesIn.keep hk hB h4⟩
theorem NamesIn.at_ {A : Option Addr} : ∀ {l : List ByteArray} {i : Nat}, NamesIn w B A i l → ∀ j (hj : j < l.length), ∃ b o, A = some ⟨b, o, none⟩ ∧ b < B ∧ w.cell? ⟨b, o + (i + j), none⟩ = some (.string l[j])
  | [], _, _, j, hj => by simp at hj
  | s :: l, i, h, 0, _ => h.1
  | s :: l, i, h, j + 1, hj => by
    have := NamesIn.at_ h.2 j (by simpa using hj)
    rw [show i + 1 + j = i + (j + 1) by omega] at this
    exact this
theorem ItIn.keep (hk : ∀ b o, b < B → w'.cell? ⟨b, o, none⟩ = w.cell? ⟨b, o, none⟩) (hB : B ≤ B') {b o : Nat} {x : It} (hb : b < B) (h : ItIn w B b o x) : ItIn w' B' b o x := by
  obtain ⟨h0, A1, c1, A2, c2, A3, c3, ⟨k0, k1, k2, k3, k4, k5, k6⟩, h1, h2, h3⟩ := h
  exact ⟨h0, A1, c1, A2, c2, A3, c3, ⟨by rw [hk _ _ hb]; exact k0, by rw [hk _ _ hb]; exact k1, by rw [hk _ _ hb]; exact k2, by rw [hk _ _ hb]; exact k3, by rw [hk _ _ hb]; exact k4, by rw [hk _ _ hb]; exact k5, by rw [hk _ _ hb]; exact k6⟩, h1.keep hk hB, h2.keep hk hB, h3.keep hk hB⟩
theorem ItsIn.keep (hk : ∀ b o, b < B → w'.cell? ⟨b, o, none⟩ = w.cell? ⟨b, o, none⟩) (hB : B ≤ B') {A : Option Addr} : ∀ {l : List It} {i : Nat}, ItsIn w B A i l → ItsIn w' B' A i l
  | [], _, _ => trivial
  | s :: l, i, h => by
    obtain ⟨⟨b, o, h1, h2, h3⟩, h4⟩ := h
    exact ⟨⟨b, o, h1, by omega, h3.keep hk hB h2⟩, ItsIn.keep hk hB h4⟩
theorem ItsIn.at_ {A : Option Addr} : ∀ {l : List It} {i : Nat}, ItsIn w B A i l → ∀ j (hj : j < l.length), ∃ b o, A = some ⟨b, o, none⟩ ∧ b < B ∧ ItIn w B b (o + (i + j) * 7) l[j]
  | [], _, _, j, hj => by simp at hj
  | s :: l, i, h, 0, _ => h.1
  | s :: l, i, h, j + 1, hj => by
    have := ItsIn.at_ h.2 j (by simpa using hj)
    rw [show i + 1 + j = i + (j + 1) by omega] at this
    exact this
theorem NamesIn.below {A : Option Addr} {l : List ByteArray} {i : Nat} (h : NamesIn w B A i l) (hw : Below B w w') : NamesIn w' B A i l := h.keep (below_cells hw).1 (Nat.le_refl _)
theorem ItIn.below {b o : Nat} {x : It} (h : ItIn w B b o x) (hb : b < B) (hw : Below B w w') : ItIn w' B b o x := h.keep (below_cells hw).1 (Nat.le_refl _) hb
theorem ItsIn.below {A : Option Addr} {l : List It} {i : Nat} (h : ItsIn w B A i l) (hw : Below B w w') : ItsIn w' B A i l := h.keep (below_cells hw).1 (Nat.le_refl _)
theorem ItsIn.at0 {b o i : Nat} {l : List It} (h : ItsIn w B (some ⟨b, o, none⟩) 0 l) (hi : i < l.length) : b < B ∧ ItIn w B b (o + i * 7) (l[i]'hi) := by
  obtain ⟨b', o', h1, hb, h2⟩ := h.at_ i hi
  rw [Nat.zero_add] at h2
  cases h1
  exact ⟨hb, h2⟩
end

theorem notName_any (s : ByteArray) (hs : s.size ≤ 140737488351232) (w : World) :
    Calls Tryd.prog 37 #[.string s] w fun e w' => e = .returned (.bool (!isName s.data.toList)) ∧ Below w.heap.size w w' := by
  have C := Lib.hid (fun W => name_any s hs W)
  go_enter Tryd.func37, Tryd.ntmps37
  go_wp2_with (go_at_call 32; ((with_reducible refine (C.out _).mono ?_); rintro e w1 ⟨rfl, hB⟩))
  go_ret
  exact ⟨rfl, hB⟩

theorem indexFunc_any (A : Option Addr) (c : Nat) (l : List ByteArray) (B : Nat) (W : World) (hB : B ≤ W.heap.size) (hl : l.length ≤ 140737488351232) (hs : ∀ s ∈ l, s.size ≤ 140737488351232) (hin : NamesIn W B A 0 l) :
    Calls Tryd.prog 42 #[.slice A l.length c, .func (.func 37) #[] #[]] W fun e w' => ∃ r : Int, e = .returned (.int .i64 r) ∧ decide (0 ≤ r) = (l.any fun s => !isName s.data.toList) ∧ Below W.heap.size W w' := by
  have HI := Lib.hid hin
  clear hin
  go_enter Tryd.func42, Tryd.ntmps42
  go_wp2_with fail
  go_loopw [8] (fun x wr => ∃ i : Nat, x = .int .i64 i ∧ i ≤ l.length ∧ (l.take i).all (fun s => isName s.data.toList) = true ∧ Below W.heap.size W wr) (fun x _ => l.length - (intOf x).toNat)
  case atStart => exact ⟨0, rfl, by omega, rfl, Below.refl _ _⟩
  case round =>
    obtain ⟨i, rfl, hi, hall, hBr⟩ := hrel
    have HB := Lib.hid hBr
    have HA := Lib.hid hall
    clear hBr hall
    by_cases hlt : i < l.length
    · obtain ⟨b, o, rfl, hb, hx⟩ := (HI.out.below (HB.out.mono hB)).at_ i hlt
      rw [Nat.zero_add] at hx
      obtain ⟨s, hse⟩ : ∃ s, s = l[i]'hlt := ⟨_, rfl⟩
      rw [← hse] at hx
      have hss : s.size ≤ 140737488351232 := hs s (by rw [hse]; exact List.getElem_mem hlt)
      have HS := Lib.hid hse
      have C := Lib.hid (fun W => notName_any s hss W)
      obtain ⟨v, hv⟩ : ∃ v, v = isName s.data.toList := ⟨_, rfl⟩
      rw [← hv] at C
      have HV := Lib.hid hv
      clear hse hv hs
      cases v with
      | false =>
        go_wp2_with (go_at_call 37; ((with_reducible refine (C.out _).mono ?_); rintro e w1 ⟨rfl, hB1⟩))
        go_ret
        refine ⟨_, rfl, ?_, HB.out.trans (hB1.mono HB.out.size)⟩
        have : (l.any fun s => !isName s.data.toList) = true := List.any_eq_true.2 ⟨s, by rw [HS.out]; exact List.getElem_mem hlt, by rw [← HV.out]; rfl⟩
        rw [this]
        exact decide_eq_true (by omega)
      | true =>
        go_wp2_with (go_at_call 37; ((with_reducible refine (C.out _).mono ?_); rintro e w1 ⟨rfl, hB1⟩))
        go_roundw
        case rel =>
          refine ⟨i + 1, by go_num, by omega, ?_, HB.out.trans (hB1.mono HB.out.size)⟩
          rw [List.take_succ_eq_append_getElem hlt, List.all_append, HA.out, ← HS.out]
          simp [← HV.out]
        case measure => simp [intOf]; omega
    · have hie : i = l.length := by omega
      subst hie
      rw [List.take_length] at HA
      go_wp2_with fail
      go_ret
      refine ⟨_, rfl, ?_, HB.out⟩
      have : (l.any fun s => !isName s.data.toList) = false := by
        rw [Bool.eq_false_iff]
        intro h
        obtain ⟨s, h1, h2⟩ := List.any_eq_true.1 h
        rw [List.all_eq_true.1 HA.out s h1] at h2
        cases h2
      rw [this]
      rfl

theorem containsFunc_any (A : Option Addr) (c : Nat) (l : List ByteArray) (B : Nat) (W : World) (hB : B ≤ W.heap.size) (hl : l.length ≤ 140737488351232) (hs : ∀ s ∈ l, s.size ≤ 140737488351232) (hin : NamesIn W B A 0 l) :
    Calls Tryd.prog 36 #[.slice A l.length c, .func (.func 37) #[] #[]] W fun e w' => e = .returned (.bool (l.any fun s => !isName s.data.toList)) ∧ Below W.heap.size W w' := by
  have C := Lib.hid (indexFunc_any A c l B W hB hl hs hin)
  clear hin hs
  go_enter Tryd.func36, Tryd.ntmps36
  go_wp2_with (go_at_call 42; ((with_reducible refine C.out.mono ?_); rintro e w1 ⟨r, rfl, hr, hB1⟩))
  go_ret
  exact ⟨rfl, hB1⟩

def itemP (k l1 l2 l3 : Int) (em nm any hb : Bool) : Bool :=
  let bare := em && decide (l1 = 0)
  if k = 1 ∨ k = 2 then bare && decide (l2 = 0) && !hb
  else if k = 3 then bare && decide (l2 ≤ 2) && (hb || (decide (0 < l2) && decide (l3 = 0)))
  else if k = 4 then nm && decide (l1 ≤ 20) && !any && decide (l2 = 0) && !hb
  else false
def itemB (x : It) : Bool := itemP x.k x.params.length x.exprs.length x.body.length x.name.toList.isEmpty (isName x.name.data.toList) (x.params.any fun s => !isName s.data.toList) x.hasBody

set_option maxRecDepth 100000 in
set_option maxHeartbeats 4000000 in
theorem item_1 (x : It) (hk : x.k = 1) (B b o : Nat) (W : World) (hb : b < B) (hB : B ≤ W.heap.size) (hx : ItIn W B b o x) :
    Calls Tryd.prog 19 #[.pointer (some ⟨b, o, none⟩)] W fun r w' => r = .returned (.bool (itemB x)) ∧ Below W.heap.size W w' := by
  obtain ⟨ho, A1, c1, A2, c2, A3, c3, hc, hp, he, hs⟩ := hx
  obtain ⟨v, hv⟩ : ∃ v, v = itemB x := ⟨_, rfl⟩
  rw [← hv]
  have CN := Lib.hid (fun W2 => name_any x.name ho.2.2.1 W2)
  have CF := Lib.hid (fun W2 (h : Below W.heap.size W W2) => containsFunc_any A1 c1 x.params B W2 (Nat.le_trans hB h.size) ho.2.2.2.1 ho.2.2.2.2.1 (hp.below (h.mono hB)))
  have HC : Hid (∀ w1, Below W.heap.size W w1 → ItCells w1 b o x A1 c1 A2 c2 A3 c3) := fun w1 h => by
    have hk := fun o => (below_cells h).1 b o (by omega)
    exact ⟨by rw [hk]; exact hc.k, by rw [hk]; exact hc.name, by rw [hk]; exact hc.params, by rw [hk]; exact hc.exprs, by rw [hk]; exact hc.has, by rw [hk]; exact hc.body, by rw [hk]; exact hc.line⟩
  unfold itemB at hv
  obtain ⟨k0, k1, k2, k3, k4, k5, k6⟩ := hc
  have ho1 := ho.2.2.2.1
  have ho2 := ho.2.2.2.2.2.1
  have ho3 := ho.2.2.2.2.2.2
  generalize (x.params.any fun s => !isName s.data.toList) = any at hv CF
  generalize isName x.name.data.toList = nm at hv CN
  clear ho hp he hs
  obtain ⟨k, name, params, exprs, hasB, body, line⟩ := x
  simp only at *
  subst hk
  have HV := Lib.hid hv
  clear hv CN CF HC k6
  cases hasB
  all_goals go_enter Tryd.func19, Tryd.ntmps19
  all_goals go_wp2_with (fail)
  all_goals
    go_ret
    refine ⟨ret_bool ?_, (Below.refl _ _)⟩
    rw [HV.out, Bool.eq_iff_iff]
    simp [itemP, *] <;> (try intros) <;> (try omega)

set_option maxRecDepth 100000 in
set_option maxHeartbeats 4000000 in
theorem item_2 (x : It) (hk : x.k = 2) (B b o : Nat) (W : World) (hb : b < B) (hB : B ≤ W.heap.size) (hx : ItIn W B b o x) :
    Calls Tryd.prog 19 #[.pointer (some ⟨b, o, none⟩)] W fun r w' => r = .returned (.bool (itemB x)) ∧ Below W.heap.size W w' := by
  obtain ⟨ho, A1, c1, A2, c2, A3, c3, hc, hp, he, hs⟩ := hx
  obtain ⟨v, hv⟩ : ∃ v, v = itemB x := ⟨_, rfl⟩
  rw [← hv]
  have CN := Lib.hid (fun W2 => name_any x.name ho.2.2.1 W2)
  have CF := Lib.hid (fun W2 (h : Below W.heap.size W W2) => containsFunc_any A1 c1 x.params B W2 (Nat.le_trans hB h.size) ho.2.2.2.1 ho.2.2.2.2.1 (hp.below (h.mono hB)))
  have HC : Hid (∀ w1, Below W.heap.size W w1 → ItCells w1 b o x A1 c1 A2 c2 A3 c3) := fun w1 h => by
    have hk := fun o => (below_cells h).1 b o (by omega)
    exact ⟨by rw [hk]; exact hc.k, by rw [hk]; exact hc.name, by rw [hk]; exact hc.params, by rw [hk]; exact hc.exprs, by rw [hk]; exact hc.has, by rw [hk]; exact hc.body, by rw [hk]; exact hc.line⟩
  unfold itemB at hv
  obtain ⟨k0, k1, k2, k3, k4, k5, k6⟩ := hc
  have ho1 := ho.2.2.2.1
  have ho2 := ho.2.2.2.2.2.1
  have ho3 := ho.2.2.2.2.2.2
  generalize (x.params.any fun s => !isName s.data.toList) = any at hv CF
  generalize isName x.name.data.toList = nm at hv CN
  clear ho hp he hs
  obtain ⟨k, name, params, exprs, hasB, body, line⟩ := x
  simp only at *
  subst hk
  have HV := Lib.hid hv
  clear hv CN CF HC k6
  cases hasB
  all_goals go_enter Tryd.func19, Tryd.ntmps19
  all_goals go_wp2_with (fail)
  all_goals
    go_ret
    refine ⟨ret_bool ?_, (Below.refl _ _)⟩
    rw [HV.out, Bool.eq_iff_iff]
    simp [itemP, *] <;> (try intros) <;> (try omega)

set_option maxRecDepth 100000 in
set_option maxHeartbeats 4000000 in
theorem item_3 (x : It) (hk : x.k = 3) (B b o : Nat) (W : World) (hb : b < B) (hB : B ≤ W.heap.size) (hx : ItIn W B b o x) :
    Calls Tryd.prog 19 #[.pointer (some ⟨b, o, none⟩)] W fun r w' => r = .returned (.bool (itemB x)) ∧ Below W.heap.size W w' := by
  obtain ⟨ho, A1, c1, A2, c2, A3, c3, hc, hp, he, hs⟩ := hx
  obtain ⟨v, hv⟩ : ∃ v, v = itemB x := ⟨_, rfl⟩
  rw [← hv]
  have CN := Lib.hid (fun W2 => name_any x.name ho.2.2.1 W2)
  have CF := Lib.hid (fun W2 (h : Below W.heap.size W W2) => containsFunc_any A1 c1 x.params B W2 (Nat.le_trans hB h.size) ho.2.2.2.1 ho.2.2.2.2.1 (hp.below (h.mono hB)))
  have HC : Hid (∀ w1, Below W.heap.size W w1 → ItCells w1 b o x A1 c1 A2 c2 A3 c3) := fun w1 h => by
    have hk := fun o => (below_cells h).1 b o (by omega)
    exact ⟨by rw [hk]; exact hc.k, by rw [hk]; exact hc.name, by rw [hk]; exact hc.params, by rw [hk]; exact hc.exprs, by rw [hk]; exact hc.has, by rw [hk]; exact hc.body, by rw [hk]; exact hc.line⟩
  unfold itemB at hv
  obtain ⟨k0, k1, k2, k3, k4, k5, k6⟩ := hc
  have ho1 := ho.2.2.2.1
  have ho2 := ho.2.2.2.2.2.1
  have ho3 := ho.2.2.2.2.2.2
  generalize (x.params.any fun s => !isName s.data.toList) = any at hv CF
  generalize isName x.name.data.toList = nm at hv CN
  clear ho hp he hs
  obtain ⟨k, name, params, exprs, hasB, body, line⟩ := x
  simp only at *
  subst hk
  have HV := Lib.hid hv
  clear hv CN CF HC k6
  cases hasB
  all_goals go_enter Tryd.func19, Tryd.ntmps19
  all_goals go_wp2_with (fail)
  all_goals
    go_ret
    refine ⟨ret_bool ?_, (Below.refl _ _)⟩
    rw [HV.out, Bool.eq_iff_iff]
    simp [itemP, *] <;> (try intros) <;> (try omega)

set_option maxRecDepth 100000 in
set_option maxHeartbeats 4000000 in
theorem item_no (x : It) (g1 : x.k ≠ 1) (g2 : x.k ≠ 2) (g3 : x.k ≠ 3) (g4 : x.k ≠ 4) (B b o : Nat) (W : World) (hb : b < B) (hB : B ≤ W.heap.size) (hx : ItIn W B b o x) :
    Calls Tryd.prog 19 #[.pointer (some ⟨b, o, none⟩)] W fun r w' => r = .returned (.bool (itemB x)) ∧ Below W.heap.size W w' := by
  obtain ⟨ho, A1, c1, A2, c2, A3, c3, hc, hp, he, hs⟩ := hx
  obtain ⟨v, hv⟩ : ∃ v, v = itemB x := ⟨_, rfl⟩
  rw [← hv]
  have CN := Lib.hid (fun W2 => name_any x.name ho.2.2.1 W2)
  have CF := Lib.hid (fun W2 (h : Below W.heap.size W W2) => containsFunc_any A1 c1 x.params B W2 (Nat.le_trans hB h.size) ho.2.2.2.1 ho.2.2.2.2.1 (hp.below (h.mono hB)))
  have HC : Hid (∀ w1, Below W.heap.size W w1 → ItCells w1 b o x A1 c1 A2 c2 A3 c3) := fun w1 h => by
    have hk := fun o => (below_cells h).1 b o (by omega)
    exact ⟨by rw [hk]; exact hc.k, by rw [hk]; exact hc.name, by rw [hk]; exact hc.params, by rw [hk]; exact hc.exprs, by rw [hk]; exact hc.has, by rw [hk]; exact hc.body, by rw [hk]; exact hc.line⟩
  unfold itemB at hv
  obtain ⟨k0, k1, k2, k3, k4, k5, k6⟩ := hc
  have ho1 := ho.2.2.2.1
  have ho2 := ho.2.2.2.2.2.1
  have ho3 := ho.2.2.2.2.2.2
  generalize (x.params.any fun s => !isName s.data.toList) = any at hv CF
  generalize isName x.name.data.toList = nm at hv CN
  clear ho hp he hs
  obtain ⟨k, name, params, exprs, hasB, body, line⟩ := x
  simp only at *
  have HV := Lib.hid hv
  clear hv CN CF HC k6
  cases hasB
  all_goals go_enter Tryd.func19, Tryd.ntmps19
  all_goals go_wp2_with (fail)
  all_goals
    go_ret
    refine ⟨ret_bool ?_, (Below.refl _ _)⟩
    rw [HV.out, Bool.eq_iff_iff]
    simp [itemP, *] <;> (try intros) <;> (try omega)

set_option maxRecDepth 100000 in
set_option maxHeartbeats 4000000 in
theorem item_4 (x : It) (hk : x.k = 4) (B b o : Nat) (W : World) (hb : b < B) (hB : B ≤ W.heap.size) (hx : ItIn W B b o x) :
    Calls Tryd.prog 19 #[.pointer (some ⟨b, o, none⟩)] W fun r w' => r = .returned (.bool (itemB x)) ∧ Below W.heap.size W w' := by
  obtain ⟨ho, A1, c1, A2, c2, A3, c3, hc, hp, he, hs⟩ := hx
  obtain ⟨v, hv⟩ : ∃ v, v = itemB x := ⟨_, rfl⟩
  rw [← hv]
  have CN := Lib.hid (fun W2 => name_any x.name ho.2.2.1 W2)
  have CF := Lib.hid (fun W2 (h : Below W.heap.size W W2) => containsFunc_any A1 c1 x.params B W2 (Nat.le_trans hB h.size) ho.2.2.2.1 ho.2.2.2.2.1 (hp.below (h.mono hB)))
  have HC : Hid (∀ w1, Below W.heap.size W w1 → ItCells w1 b o x A1 c1 A2 c2 A3 c3) := fun w1 h => by
    have hk := fun o => (below_cells h).1 b o (by omega)
    exact ⟨by rw [hk]; exact hc.k, by rw [hk]; exact hc.name, by rw [hk]; exact hc.params, by rw [hk]; exact hc.exprs, by rw [hk]; exact hc.has, by rw [hk]; exact hc.body, by rw [hk]; exact hc.line⟩
  unfold itemB at hv
  obtain ⟨k0, k1, k2, k3, k4, k5, k6⟩ := hc
  have ho1 := ho.2.2.2.1
  have ho2 := ho.2.2.2.2.2.1
  have ho3 := ho.2.2.2.2.2.2
  generalize (x.params.any fun s => !isName s.data.toList) = any at hv CF
  generalize isName x.name.data.toList = nm at hv CN
  clear ho hp he hs
  obtain ⟨k, name, params, exprs, hasB, body, line⟩ := x
  simp only at *
  subst hk
  have HV := Lib.hid hv
  clear hv  k6
  cases nm
  all_goals cases any
  all_goals cases hasB
  all_goals go_enter Tryd.func19, Tryd.ntmps19
  all_goals go_wp2_with (first
    | (go_at_call 32; ((with_reducible refine (CN.out _).mono ?_); rintro e w1 ⟨rfl, hB1⟩; obtain ⟨z0, z1, z2, z3, z4, z5, -⟩ := HC.out _ hB1; have HB1 := Lib.hid hB1; clear hB1; clear k0 k1 k2 k3 k4 k5))
    | (go_at_call 36; ((with_reducible refine (CF.out _ HB1.out).mono ?_); rintro e w2 ⟨rfl, hB2⟩; have hB3 := HB1.out.trans (hB2.mono HB1.out.size); obtain ⟨y0, y1, y2, y3, y4, y5, -⟩ := HC.out _ hB3; have HB1 := Lib.hid hB3; clear hB2 hB3; clear z0 z1 z2 z3 z4 z5)))
  all_goals
    go_ret
    refine ⟨ret_bool ?_, HB1.out⟩
    rw [HV.out, Bool.eq_iff_iff]
    simp [itemP, *] <;> (try intros) <;> (try omega)

theorem item_any (x : It) (B b o : Nat) (W : World) (hb : b < B) (hB : B ≤ W.heap.size) (hx : ItIn W B b o x) :
    Calls Tryd.prog 19 #[.pointer (some ⟨b, o, none⟩)] W fun r w' => r = .returned (.bool (itemB x)) ∧ Below W.heap.size W w' := by
  by_cases g1 : x.k = 1
  · exact item_1 x g1 B b o W hb hB hx
  by_cases g2 : x.k = 2
  · exact item_2 x g2 B b o W hb hB hx
  by_cases g3 : x.k = 3
  · exact item_3 x g3 B b o W hb hB hx
  by_cases g4 : x.k = 4
  · exact item_4 x g4 B b o W hb hB hx
  exact item_no x g1 g2 g3 g4 B b o W hb hB hx
end Go.Proofs.YtdmiakfgemeelaaDoor
