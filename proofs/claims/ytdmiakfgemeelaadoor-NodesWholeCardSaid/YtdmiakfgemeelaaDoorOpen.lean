/- The argument's data, opened: a program's items, statements and expressions lie in memory. -/
import Derived.Test.YtdmiakfgemeelaaDoorItems
import Derived.Deep.Slices
import Derived.Deep.Fields
import Derived.ChangeSame
import Derived.OpenShut
namespace Go.Proofs.YtdmiakfgemeelaaDoor
set_option linter.unusedSimpArgs false
set_option linter.unusedVariables false
open Go.RowKit Go.ChangeShapes Go.WideShapes Go.Deep

/-- Whatever a datum holds is within the form's reach. -/
def Slight {H : Type} (P : Program) (t : TypeId) (d : DataW H) : Prop := ∀ n ∈ d.weights P t, n ≤ reachBytes

section
variable {H : Type} {enc : TypeId × Value → H} {P : Program} {w : World} {base : Nat} {spare : Nat → Bool} {held : Bool}

theorem weightsAll_mem {e : TypeId} {d : DataW H} : ∀ {l : List (DataW H)}, d ∈ l → ∀ n ∈ d.weights P e, n ∈ DataW.weightsAll P e l
  | [], h, _, _ => by cases h
  | x :: r, h, n, hn => by
    simp only [DataW.weightsAll, List.mem_append]
    rcases List.mem_cons.1 h with rfl | h
    · exact .inl hn
    · exact .inr (weightsAll_mem h n hn)
theorem weightsEach_mem {t : TypeId} {d : DataW H} : ∀ {ts : List TypeId} {l : List (DataW H)} {j : Nat}, ts[j]? = some t → l[j]? = some d → ∀ n ∈ d.weights P t, n ∈ DataW.weightsEach P ts l
  | [], _, _, h, _, _, _ => by simp at h
  | _ :: _, [], _, _, h, _, _ => by simp at h
  | t' :: ts, x :: l, 0, h1, h2, n, hn => by
    simp only [List.getElem?_cons_zero, Option.some.injEq] at h1 h2
    subst h1 h2
    simp only [DataW.weightsEach, List.mem_append]
    exact .inl hn
  | t' :: ts, x :: l, j + 1, h1, h2, n, hn => by
    simp only [List.getElem?_cons_succ] at h1 h2
    simp only [DataW.weightsEach, List.mem_append]
    exact .inr (weightsEach_mem h1 h2 n hn)

theorem Slight.slice {t e : TypeId} {elems spare' : List (DataW H)} (ht : P.underlying t = some (.slice e)) (h : Slight P t (.slice elems spare')) :
    elems.length * P.bytesOf e ≤ reachBytes ∧ ∀ d ∈ elems, Slight P e d := by
  unfold Slight at h
  simp only [DataW.weights, ht] at h
  refine ⟨?_, fun d hd n hn => h n ?_⟩
  · have := h _ (List.mem_cons_self ..)
    exact Nat.le_trans (Nat.mul_le_mul_right _ (Nat.le_add_right _ _)) this
  · exact List.mem_cons_of_mem _ (List.mem_append_left _ (weightsAll_mem hd n hn))
theorem Slight.part {t : TypeId} {fs : Array Field} {parts : List (DataW H)} {j : Nat} {f : Field} {d : DataW H} (ht : P.underlying t = some (.struct fs)) (h : Slight P t (.agg parts)) (hf : fs[j]? = some f) (hd : parts[j]? = some d) : Slight P f.type d := by
  unfold Slight at h
  simp only [DataW.weights, ht] at h
  exact fun n hn => h n (weightsEach_mem (j := j) (by simp [hf]) hd n hn)
theorem Slight.string {t : TypeId} {l : List UInt8} (h : Slight P t (DataW.lit (H := H) (.string l))) : l.length ≤ 140737488351232 := by
  have := h l.length (by simp [DataW.weights])
  unfold reachBytes at this
  omega

/-- A slice of structs of one-cell fields, opened. -/
theorem open_fields {t e : TypeId} {fs : Array Field} {fuel : Nat} {cs : List Value} {x : DataW H × List MemPlace} (ht : P.underlying t = some (.slice e)) (he : P.underlying e = some (.struct fs))
    (hone : oneCellFields P fs = true) (hC : P.cellsOf e = fs.size) (h : DataW.trod enc P w base spare held fuel t cs = some x) :
    (cs = [.slice none 0 0] ∧ x = (.nil, [])) ∨
    ∃ (a : Addr) (len cap n : Nat) (D rest : List (DataW H)), fuel = n + 1 ∧ cs = [.slice (some a) len cap] ∧ x.1 = .slice D rest ∧ (len ≤ cap ∧ cap ≤ maxLen) ∧ D.length = len ∧
      ∀ i, i < len → ∃ (ys : List (DataW H × List MemPlace)) (m : Nat), n = m + 1 ∧ D[i]? = some (.agg (ys.map (·.1))) ∧ ys.length = fs.size ∧
        ∀ (j : Nat) (f : Field), fs[j]? = some f → ∃ (v : Value) (y : DataW H × List MemPlace), w.cell? (a.add (i * fs.size + j)) = some v ∧ ys[j]? = some y ∧ DataW.trod enc P w base spare held m f.type [v] = some y := by
  rcases DataW.trod_slice ht h with h0 | ⟨a, len, cap, elems, rest, n, hn, hcs, hx, hb, hl, hm, hlen, hel, -, -⟩
  · exact .inl h0
  · refine .inr ⟨a, len, cap, n, elems.map (·.1), rest.map (·.1), hn, hcs, by rw [hx], ⟨hl, hm⟩, by simp [hlen], fun i hi => ?_⟩
    have hi' : i < elems.length := by omega
    have key := hel i hi
    rw [List.getElem?_eq_getElem hi', Option.bind_eq_some_iff] at key
    obtain ⟨cs', hc, ht'⟩ := key
    rw [hC] at hc
    obtain ⟨ys, m, hm', hy, hlen', hyl, hf⟩ := DataW.trod_struct he ht'
    obtain ⟨_, hcl, hat⟩ := World.cells?_some hc
    refine ⟨ys, m, hm', ?_, hyl, fun j f hj => ?_⟩
    · rw [List.getElem?_map, List.getElem?_eq_getElem hi', hy]
      rfl
    · obtain ⟨ho, hk⟩ := hone_of hone j f hj
      have hjl : j < fs.size := (Array.getElem?_eq_some_iff.1 hj).1
      have hcell := hat j hjl
      have hv : cs'[j]? = some (cs'[j]'(by omega)) := List.getElem?_eq_getElem (by omega)
      have h1 := hf j f hj
      rw [ho, hk] at h1
      have hone' : (cs'.drop j).take 1 = [cs'[j]'(by omega)] := by
        rw [List.drop_eq_getElem_cons (by omega)]
        rfl
      rw [hone'] at h1
      have hys : ys[j]? = some (ys[j]'(by omega)) := List.getElem?_eq_getElem (by omega)
      refine ⟨_, _, ?_, hys, h1.trans hys⟩
      rw [← Go.Deep.add_add, hcell, hv]
end

/-- From 'for every place an element' to a list. -/
theorem list_of {α : Type} {p : Nat → α → Prop} : ∀ (n k : Nat), (∀ i, i < n → ∃ x, p (k + i) x) → ∃ l : List α, l.length = n ∧ ∀ i (hi : i < l.length), p (k + i) l[i]
  | 0, _, _ => ⟨[], rfl, fun i hi => by simp at hi⟩
  | n + 1, k, h => by
    obtain ⟨x, hx⟩ := h 0 (by omega)
    obtain ⟨l, hl, hp⟩ := list_of (p := p) n (k + 1) (fun i hi => by
      obtain ⟨y, hy⟩ := h (i + 1) (by omega)
      exact ⟨y, by rw [show k + 1 + i = k + (i + 1) by omega]; exact hy⟩)
    refine ⟨x :: l, by simp [hl], fun i hi => ?_⟩
    cases i with
    | zero => exact hx
    | succ i =>
      have := hp i (by simpa using hi)
      rw [show k + 1 + i = k + (i + 1) by omega] at this
      exact this

theorem ExsIn.of_at {w : World} {B : Nat} {A : Option Addr} : ∀ {i : Nat} {es : List Ex}, (∀ j (hj : j < es.length), ∃ b o, A = some ⟨b, o, none⟩ ∧ b < B ∧ ExIn w B b (o + (i + j) * 4) es[j]) → ExsIn w B A i es
  | _, [], _ => by simp only [ExsIn]
  | i, e :: es, h => by
    simp only [ExsIn]
    refine ⟨h 0 (by simp), ExsIn.of_at fun j hj => ?_⟩
    have := h (j + 1) (by simpa using hj)
    rw [show i + 1 + j = i + (j + 1) by omega]
    exact this
theorem StsIn.of_at {w : World} {B : Nat} {A : Option Addr} : ∀ {i : Nat} {es : List St}, (∀ j (hj : j < es.length), ∃ b o, A = some ⟨b, o, none⟩ ∧ b < B ∧ StIn w B b (o + (i + j) * 7) es[j]) → StsIn w B A i es
  | _, [], _ => by simp only [StsIn]
  | i, e :: es, h => by
    simp only [StsIn]
    refine ⟨h 0 (by simp), StsIn.of_at fun j hj => ?_⟩
    have := h (j + 1) (by simpa using hj)
    rw [show i + 1 + j = i + (j + 1) by omega]
    exact this
theorem ItsIn.of_at {w : World} {B : Nat} {A : Option Addr} : ∀ {i : Nat} {es : List It}, (∀ j (hj : j < es.length), ∃ b o, A = some ⟨b, o, none⟩ ∧ b < B ∧ ItIn w B b (o + (i + j) * 7) es[j]) → ItsIn w B A i es
  | _, [], _ => trivial
  | i, e :: es, h => by
    refine ⟨h 0 (by simp), ItsIn.of_at fun j hj => ?_⟩
    have := h (j + 1) (by simpa using hj)
    rw [show i + 1 + j = i + (j + 1) by omega]
    exact this
theorem NamesIn.of_at {w : World} {B : Nat} {A : Option Addr} : ∀ {i : Nat} {es : List ByteArray}, (∀ j (hj : j < es.length), ∃ b o, A = some ⟨b, o, none⟩ ∧ b < B ∧ w.cell? ⟨b, o + (i + j), none⟩ = some (.string es[j])) → NamesIn w B A i es
  | _, [], _ => trivial
  | i, e :: es, h => by
    refine ⟨h 0 (by simp), NamesIn.of_at fun j hj => ?_⟩
    have := h (j + 1) (by simpa using hj)
    rw [show i + 1 + j = i + (j + 1) by omega]
    exact this

theorem addr_of {w : World} {a : Addr} {v : Value} {n : Nat} (h : w.cell? (a.add 0) = some v) : a = ⟨a.block, a.off, none⟩ ∧ a.add n = ⟨a.block, a.off + n, none⟩ ∧ a.block < w.heap.size := by
  obtain ⟨b, o, s⟩ := a
  unfold Addr.add World.cell? at h
  simp only [if_true] at h
  have hb : b < w.heap.size := by
    rcases Nat.lt_or_ge b w.heap.size with hlt | hge
    · exact hlt
    · rw [Array.getElem?_eq_none hge] at h; cases h
  have hs : s = none := by
    split at h
    · split at h
      · cases h
      · rename_i hs; simpa using hs
    · cases h
  subst hs
  refine ⟨rfl, ?_, hb⟩
  unfold Addr.add
  split
  · rename_i h; subst h; rfl
  · rfl

section
variable {H : Type} {enc : TypeId × Value → H} {w : World} {base : Nat} {spare : Nat → Bool} {held : Bool}

/-- One element's cells and readings. -/
theorem Slight.at_ {P : Program} {e : TypeId} {fs : Array Field} {ys : List (DataW H × List MemPlace)} {j : Nat} {f : Field} {y : DataW H × List MemPlace} (he : P.underlying e = some (.struct fs)) (h : Slight P e (.agg (ys.map (·.1)))) (hf : fs[j]? = some f) (hy : ys[j]? = some y) : Slight P f.type y.1 :=
  Slight.part he h hf (by rw [List.getElem?_map, hy]; rfl)

theorem open_exprs : ∀ (fuel : Nat) {v : Value} {x : DataW H × List MemPlace}, DataW.trod enc Tryd.prog w base spare held fuel 25 [v] = some x → Slight Tryd.prog 25 x.1 →
    ∃ A c es, v = .slice A es.length c ∧ ExsIn w w.heap.size A 0 es ∧ es.length ≤ 140737488351232 := by
  intro fuel
  induction fuel using Nat.strongRecOn with
  | ind fuel ih =>
    intro v x h hs
    rcases open_fields Tryd.underlying25 Tryd.underlying27 (by kernel_rfl) (by kernel_rfl) h with ⟨hv, -⟩ | ⟨a, len, cap, n, D, rest, hn, hv, hx, hlc, hD, hi⟩
    · simp only [List.cons.injEq, and_true] at hv
      exact ⟨none, 0, [], hv, by simp only [ExsIn], by simp⟩
    · simp only [List.cons.injEq, and_true] at hv
      subst hv
      rw [hx] at hs
      obtain ⟨hlen, hd⟩ := hs.slice Tryd.underlying25
      have hb : Tryd.prog.bytesOf 27 = 56 := by kernel_rfl
      rw [hb, hD] at hlen
      unfold reachBytes at hlen
      have key : ∀ i, i < len → ∃ e : Ex, ∃ b o, some a = some ⟨b, o, none⟩ ∧ b < w.heap.size ∧ ExIn w w.heap.size b (o + (0 + i) * 4) e := by
        intro i hil
        obtain ⟨ys, m, hm, hdi, hyl, hf⟩ := hi i hil
        have hsl := hd _ (List.mem_of_getElem? hdi)
        obtain ⟨z0, -, hz0, -, -⟩ := (hi 0 (by omega)).choose_spec.choose_spec.2.2.2 0 _ rfl
        obtain ⟨v0, y0, c0, g0, t0⟩ := hf 0 _ rfl
        obtain ⟨v1, y1, c1, g1, t1⟩ := hf 1 _ rfl
        obtain ⟨v2, y2, c2, g2, t2⟩ := hf 2 _ rfl
        obtain ⟨v3, y3, c3, g3, t3⟩ := hf 3 _ rfl
        rw [Nat.zero_mul] at hz0
        have ha : ∀ n, a = ⟨a.block, a.off, none⟩ ∧ a.add n = ⟨a.block, a.off + n, none⟩ ∧ a.block < w.heap.size := fun n => addr_of hz0
        rw [(ha _).2.1] at c0 c1 c2 c3
        obtain ⟨k, e0, rfl, w0⟩ := DataW.trod_int Tryd.underlying23 t0
        obtain ⟨s, e1, rfl, -⟩ := DataW.trod_string Tryd.underlying9 t1
        obtain ⟨nn, e2, rfl, w2⟩ := DataW.trod_int Tryd.underlying24 t2
        simp only [List.cons.injEq, and_true] at e0 e1 e2
        subst e0 e1 e2
        obtain ⟨A, c, es, rfl, hes, hle⟩ := ih m (by omega) t3 (Slight.at_ Tryd.underlying27 hsl rfl g3)
        have hs1 : s.data.toList.length ≤ 140737488351232 := (Slight.at_ Tryd.underlying27 hsl rfl g1).string
        have b0 := bounds_u8 w0
        have b2 := bounds_u64 w2
        refine ⟨.mk k s nn es, a.block, a.off, congrArg some (ha 0).1, (ha 0).2.2, ?_⟩
        simp only [ExIn]
        rw [Nat.zero_add]
        exact ⟨⟨b0.1, b0.2, by simpa using hs1, b2.1, b2.2, hle⟩, A, c, c0, by rw [Nat.add_assoc]; exact c1, by rw [Nat.add_assoc]; exact c2, by rw [Nat.add_assoc]; exact c3, hes⟩
      obtain ⟨es, hel, hp⟩ := list_of (p := fun i e => ∃ b o, some a = some ⟨b, o, none⟩ ∧ b < w.heap.size ∧ ExIn w w.heap.size b (o + i * 4) e) len 0 key
      refine ⟨some a, cap, es, by rw [hel], ExsIn.of_at (fun j hj => hp j hj), by omega⟩

theorem open_stmts : ∀ (fuel : Nat) {v : Value} {x : DataW H × List MemPlace}, DataW.trod enc Tryd.prog w base spare held fuel 28 [v] = some x → Slight Tryd.prog 28 x.1 →
    ∃ A c es, v = .slice A es.length c ∧ StsIn w w.heap.size A 0 es ∧ es.length ≤ 140737488351232 := by
  intro fuel
  induction fuel using Nat.strongRecOn with
  | ind fuel ih =>
    intro v x h hs
    rcases open_fields Tryd.underlying28 Tryd.underlying31 (by kernel_rfl) (by kernel_rfl) h with ⟨hv, -⟩ | ⟨a, len, cap, n, D, rest, hn, hv, hx, hlc, hD, hi⟩
    · simp only [List.cons.injEq, and_true] at hv
      exact ⟨none, 0, [], hv, by simp only [StsIn], by simp⟩
    · simp only [List.cons.injEq, and_true] at hv
      subst hv
      rw [hx] at hs
      obtain ⟨hlen, hd⟩ := hs.slice Tryd.underlying28
      have hb : Tryd.prog.bytesOf 31 = 112 := by kernel_rfl
      rw [hb, hD] at hlen
      unfold reachBytes at hlen
      have key : ∀ i, i < len → ∃ e : St, ∃ b o, some a = some ⟨b, o, none⟩ ∧ b < w.heap.size ∧ StIn w w.heap.size b (o + (0 + i) * 7) e := by
        intro i hil
        obtain ⟨ys, m, hm, hdi, hyl, hf⟩ := hi i hil
        have hsl := hd _ (List.mem_of_getElem? hdi)
        obtain ⟨z0, -, hz0, -, -⟩ := (hi 0 (by omega)).choose_spec.choose_spec.2.2.2 0 _ rfl
        obtain ⟨v0, y0, c0, g0, t0⟩ := hf 0 _ rfl
        obtain ⟨v1, y1, c1, g1, t1⟩ := hf 1 _ rfl
        obtain ⟨v2, y2, c2, g2, t2⟩ := hf 2 _ rfl
        obtain ⟨v3, y3, c3, g3, t3⟩ := hf 3 _ rfl
        obtain ⟨v4, y4, c4, g4, t4⟩ := hf 4 _ rfl
        obtain ⟨v5, y5, c5, g5, t5⟩ := hf 5 _ rfl
        obtain ⟨v6, y6, c6, g6, t6⟩ := hf 6 _ rfl
        rw [Nat.zero_mul] at hz0
        have ha : ∀ n, a = ⟨a.block, a.off, none⟩ ∧ a.add n = ⟨a.block, a.off + n, none⟩ ∧ a.block < w.heap.size := fun n => addr_of hz0
        rw [(ha _).2.1] at c0 c1 c2 c3 c4 c5 c6
        obtain ⟨k, e0, rfl, w0⟩ := DataW.trod_int Tryd.underlying29 t0
        obtain ⟨s, e1, rfl, -⟩ := DataW.trod_string Tryd.underlying9 t1
        obtain ⟨nn, e2, rfl, w2⟩ := DataW.trod_int Tryd.underlying3 t2
        obtain ⟨ln, e6, rfl, -⟩ := DataW.trod_int Tryd.underlying3 t6
        simp only [List.cons.injEq, and_true] at e0 e1 e2 e6
        subst e0 e1 e2 e6
        obtain ⟨A1, q1, l1, rfl, h1, n1⟩ := open_exprs m t3 (Slight.at_ Tryd.underlying31 hsl rfl g3)
        obtain ⟨A2, q2, l2, rfl, h2, n2⟩ := ih m (by omega) t4 (Slight.at_ Tryd.underlying31 hsl rfl g4)
        obtain ⟨A3, q3, l3, rfl, h3, n3⟩ := ih m (by omega) t5 (Slight.at_ Tryd.underlying31 hsl rfl g5)
        have hs1 : s.data.toList.length ≤ 140737488351232 := (Slight.at_ Tryd.underlying31 hsl rfl g1).string
        have b0 := bounds_u8 w0
        have b2 := bounds_i64 w2
        refine ⟨.mk k s nn l1 l2 l3 ln, a.block, a.off, congrArg some (ha 0).1, (ha 0).2.2, ?_⟩
        simp only [StIn]
        rw [Nat.zero_add]
        exact ⟨⟨b0.1, b0.2, by simpa using hs1, b2.1, b2.2, n1, n2, n3⟩, A1, q1, A2, q2, A3, q3, c0, by rw [Nat.add_assoc]; exact c1, by rw [Nat.add_assoc]; exact c2, by rw [Nat.add_assoc]; exact c3, by rw [Nat.add_assoc]; exact c4, by rw [Nat.add_assoc]; exact c5, by rw [Nat.add_assoc]; exact c6, h1, h2, h3⟩
      obtain ⟨es, hel, hp⟩ := list_of (p := fun i e => ∃ b o, some a = some ⟨b, o, none⟩ ∧ b < w.heap.size ∧ StIn w w.heap.size b (o + i * 7) e) len 0 key
      refine ⟨some a, cap, es, by rw [hel], StsIn.of_at (fun j hj => hp j hj), by omega⟩

theorem open_names (fuel : Nat) {v : Value} {x : DataW H × List MemPlace} (h : DataW.trod enc Tryd.prog w base spare held fuel 33 [v] = some x) (hs : Slight Tryd.prog 33 x.1) :
    ∃ A c es, v = .slice A es.length c ∧ NamesIn w w.heap.size A 0 es ∧ es.length ≤ 140737488351232 ∧ ∀ s ∈ es, s.size ≤ 140737488351232 := by
  rcases open_slice1 Tryd.underlying33 (by kernel_rfl) h with ⟨hv, -⟩ | ⟨a, len, cap, m, n, V, D, Pl, hv, hb, hl, hm, hmm, hx, hi⟩
  · simp only [List.cons.injEq, and_true] at hv
    exact ⟨none, 0, [], hv, trivial, by simp, fun s hs => by cases hs⟩
  · simp only [List.cons.injEq, and_true] at hv
    subst hv
    rw [hx] at hs
    obtain ⟨hlen, hd⟩ := hs.slice Tryd.underlying33
    have hb : Tryd.prog.bytesOf 9 = 16 := by kernel_rfl
    rw [hb, List.length_map, List.length_range] at hlen
    unfold reachBytes at hlen
    have hle : len ≤ m := by rw [hmm]; split <;> omega
    have key : ∀ i, i < len → ∃ s : ByteArray, (∃ b o, some a = some ⟨b, o, none⟩ ∧ b < w.heap.size ∧ w.cell? ⟨b, o + (0 + i), none⟩ = some (.string s)) ∧ s.size ≤ 140737488351232 := by
      intro i hil
      obtain ⟨hc, ht⟩ := hi i (by omega)
      have hz0 := (hi 0 (by omega)).1
      obtain ⟨s, e1, e2, -⟩ := DataW.trod_string Tryd.underlying9 ht
      simp only [List.cons.injEq, and_true] at e1
      simp only [Prod.mk.injEq] at e2
      have hsl := hd (D i) (List.mem_map.2 ⟨i, List.mem_range.2 hil, rfl⟩)
      rw [e2.1] at hsl
      have h1 := hsl.string
      have ha : ∀ n, a = ⟨a.block, a.off, none⟩ ∧ a.add n = ⟨a.block, a.off + n, none⟩ ∧ a.block < w.heap.size := fun n => addr_of hz0
      rw [(ha _).2.1, e1] at hc
      exact ⟨s, ⟨a.block, a.off, congrArg some (ha 0).1, (ha 0).2.2, by rw [Nat.zero_add]; exact hc⟩, by simpa using h1⟩
    obtain ⟨es, hel, hp⟩ := list_of (p := fun i s => (∃ b o, some a = some ⟨b, o, none⟩ ∧ b < w.heap.size ∧ w.cell? ⟨b, o + i, none⟩ = some (.string s)) ∧ s.size ≤ 140737488351232) len 0 key
    refine ⟨some a, cap, es, by rw [hel], NamesIn.of_at (fun j hj => (hp j hj).1), by omega, fun s hs => ?_⟩
    obtain ⟨j, hj, rfl⟩ := List.mem_iff_getElem.1 hs
    exact (hp j hj).2

theorem open_items (fuel : Nat) {v : Value} {x : DataW H × List MemPlace} (h : DataW.trod enc Tryd.prog w base spare held fuel 37 [v] = some x) (hs : Slight Tryd.prog 37 x.1) :
    ∃ A c es, v = .slice A es.length c ∧ ItsIn w w.heap.size A 0 es ∧ es.length ≤ 140737488351232 ∧ es.length ≤ c ∧ c ≤ 9223372036854775807 := by
  rcases open_fields Tryd.underlying37 Tryd.underlying35 (by kernel_rfl) (by kernel_rfl) h with ⟨hv, -⟩ | ⟨a, len, cap, n, D, rest, hn, hv, hx, hlc, hD, hi⟩
  · simp only [List.cons.injEq, and_true] at hv
    exact ⟨none, 0, [], hv, trivial, by simp, by simp, by simp⟩
  · simp only [List.cons.injEq, and_true] at hv
    subst hv
    rw [hx] at hs
    obtain ⟨hlen, hd⟩ := hs.slice Tryd.underlying37
    have hb : Tryd.prog.bytesOf 35 = 112 := by kernel_rfl
    rw [hb, hD] at hlen
    unfold reachBytes at hlen
    have key : ∀ i, i < len → ∃ e : It, ∃ b o, some a = some ⟨b, o, none⟩ ∧ b < w.heap.size ∧ ItIn w w.heap.size b (o + (0 + i) * 7) e := by
      intro i hil
      obtain ⟨ys, m, hm, hdi, hyl, hf⟩ := hi i hil
      have hsl := hd _ (List.mem_of_getElem? hdi)
      obtain ⟨z0, -, hz0, -, -⟩ := (hi 0 (by omega)).choose_spec.choose_spec.2.2.2 0 _ rfl
      obtain ⟨v0, y0, c0, g0, t0⟩ := hf 0 _ rfl
      obtain ⟨v1, y1, c1, g1, t1⟩ := hf 1 _ rfl
      obtain ⟨v2, y2, c2, g2, t2⟩ := hf 2 _ rfl
      obtain ⟨v3, y3, c3, g3, t3⟩ := hf 3 _ rfl
      obtain ⟨v4, y4, c4, g4, t4⟩ := hf 4 _ rfl
      obtain ⟨v5, y5, c5, g5, t5⟩ := hf 5 _ rfl
      obtain ⟨v6, y6, c6, g6, t6⟩ := hf 6 _ rfl
      rw [Nat.zero_mul] at hz0
      have ha : ∀ n, a = ⟨a.block, a.off, none⟩ ∧ a.add n = ⟨a.block, a.off + n, none⟩ ∧ a.block < w.heap.size := fun n => addr_of hz0
      rw [(ha _).2.1] at c0 c1 c2 c3 c4 c5 c6
      obtain ⟨k, e0, rfl, w0⟩ := DataW.trod_int Tryd.underlying32 t0
      obtain ⟨s, e1, rfl, -⟩ := DataW.trod_string Tryd.underlying9 t1
      obtain ⟨hbod, e4, rfl⟩ := DataW.trod_bool Tryd.underlying4 t4
      obtain ⟨ln, e6, rfl, -⟩ := DataW.trod_int Tryd.underlying3 t6
      simp only [List.cons.injEq, and_true] at e0 e1 e4 e6
      subst e0 e1 e4 e6
      obtain ⟨A1, q1, l1, rfl, h1, n1, m1⟩ := open_names m t2 (Slight.at_ Tryd.underlying35 hsl rfl g2)
      obtain ⟨A2, q2, l2, rfl, h2, n2⟩ := open_exprs m t3 (Slight.at_ Tryd.underlying35 hsl rfl g3)
      obtain ⟨A3, q3, l3, rfl, h3, n3⟩ := open_stmts m t5 (Slight.at_ Tryd.underlying35 hsl rfl g5)
      have hs1 : s.data.toList.length ≤ 140737488351232 := (Slight.at_ Tryd.underlying35 hsl rfl g1).string
      have b0 := bounds_u8 w0
      refine ⟨⟨k, s, l1, l2, hbod, l3, ln⟩, a.block, a.off, congrArg some (ha 0).1, (ha 0).2.2, ?_⟩
      rw [Nat.zero_add]
      exact ⟨⟨b0.1, b0.2, by simpa using hs1, n1, m1, n2, n3⟩, A1, q1, A2, q2, A3, q3, ⟨c0, by rw [Nat.add_assoc]; exact c1, by rw [Nat.add_assoc]; exact c2, by rw [Nat.add_assoc]; exact c3, by rw [Nat.add_assoc]; exact c4, by rw [Nat.add_assoc]; exact c5, by rw [Nat.add_assoc]; exact c6⟩, h1, h2, h3⟩
    obtain ⟨es, hel, hp⟩ := list_of (p := fun i e => ∃ b o, some a = some ⟨b, o, none⟩ ∧ b < w.heap.size ∧ ItIn w w.heap.size b (o + i * 7) e) len 0 key
    have hm := hlc.2
    unfold maxLen at hm
    refine ⟨some a, cap, es, by rw [hel], ItsIn.of_at (fun j hj => hp j hj), by omega, by omega, by omega⟩

theorem slight_head {P : Program} {ts : List TypeId} {t : TypeId} {d : DataW H} {ds : List (DataW H)} (h : (DataW.weightsEach P (t :: ts) (d :: ds)).all (· ≤ reachBytes) = true) : Slight P t d := fun n hn => by
  have := List.all_eq_true.1 h n (by simp only [DataW.weightsEach, List.mem_append]; exact .inl hn)
  simpa using this
theorem slight_tail {P : Program} {ts : List TypeId} {t : TypeId} {d : DataW H} {ds : List (DataW H)} (h : (DataW.weightsEach P (t :: ts) (d :: ds)).all (· ≤ reachBytes) = true) : (DataW.weightsEach P ts ds).all (· ≤ reachBytes) = true :=
  List.all_eq_true.2 fun n hn => List.all_eq_true.1 h n (by simp only [DataW.weightsEach, List.mem_append]; exact .inr hn)

set_option maxRecDepth 100000 in
/-- A program that is handed in. -/
theorem open_program {r : Reach} {b0 : Nat} {v : Value} {d : DataW H} {p : List MemPlace} (hv : Value.okWide Tryd.prog w r b0 39 v) (h : DataW.Trod enc Tryd.prog w base spare held 39 v d p) (hs : Slight Tryd.prog 39 d) :
    ∃ A c its, v = .agg #[.slice A its.length c] ∧ ItsIn w w.heap.size A 0 its ∧ its.length ≤ 140737488351232 ∧ its.length ≤ c ∧ c ≤ 9223372036854775807 := by
  obtain ⟨cs, rfl, hsz⟩ := okWide_struct Tryd.underlying39 hv
  have hC : Tryd.prog.cellsOf 39 = 1 := by kernel_rfl
  have hC2 : Tryd.prog.cellsOf 37 = 1 := by kernel_rfl
  obtain ⟨l⟩ := cs
  match l, hsz.trans hC with
  | [c0], _ =>
    obtain ⟨fuel, hf⟩ := h
    obtain ⟨xs, n, _, hx, _, hlen, hg⟩ := DataW.trod_struct Tryd.underlying39 hf
    match xs, hlen with
    | [y0], _ =>
      have h0 := hg 0 _ rfl
      simp only [Value.cells, hC2, List.drop_zero, List.take_succ_cons, List.take_zero, List.getElem?_cons_zero] at h0
      simp only [Prod.mk.injEq] at hx
      rw [hx.1] at hs
      have hs0 : Slight Tryd.prog 37 y0.1 := Slight.part Tryd.underlying39 hs (j := 0) rfl rfl
      obtain ⟨A, c, its, rfl, h1, h2, h3, h4⟩ := open_items n h0 hs0
      exact ⟨A, c, its, rfl, h1, h2, h3, h4⟩
end
end Go.Proofs.YtdmiakfgemeelaaDoor
