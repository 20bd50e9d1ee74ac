/- Plain laws of trees: how many parts there are and how deep they lie, against nodes.Size, Expr and Right. No program is in sight. -/
import Derived.Test.YtdmiakfgemeelaaDoorRight2
namespace Go.Proofs.YtdmiakfgemeelaaDoor
set_option linter.unusedSimpArgs false
set_option linter.unusedVariables false
open Go.RowKit

mutual
def nE : Ex → Nat → Nat | .mk _ _ _ kids, L => nEs kids (L - 1) + 1
def nEs : List Ex → Nat → Nat | [], _ => 0 | e :: es, L => if L = 0 then 0 else nE e L + nEs es L
end
mutual
def dE : Ex → Nat → Nat | .mk _ _ _ kids, L => dEs kids (L - 1) + 1
def dEs : List Ex → Nat → Nat | [], _ => 0 | e :: es, L => if L = 0 then 0 else max (dE e L) (dEs es L)
end
mutual
def nS : St → Nat → Nat | .mk _ _ _ ex body els _, L => nEs ex (L - 1) + nSs body (L - 1) + nSs els (L - 1) + 1
def nSs : List St → Nat → Nat | [], _ => 0 | e :: es, L => if L = 0 then 0 else nS e L + nSs es L
end
mutual
def dS : St → Nat → Nat | .mk _ _ _ ex body els _, L => max (dEs ex (L - 1)) (max (dSs body (L - 1)) (dSs els (L - 1))) + 1
def dSs : List St → Nat → Nat | [], _ => 0 | e :: es, L => if L = 0 then 0 else max (dS e L) (dSs es L)
end
mutual
def depE : Ex → Nat | .mk _ _ _ kids => depEs kids + 1
def depEs : List Ex → Nat | [] => 0 | e :: es => max (depE e) (depEs es)
end
mutual
def depS : St → Nat | .mk _ _ _ ex body els _ => max (depEs ex) (max (depSs body) (depSs els)) + 1
def depSs : List St → Nat | [] => 0 | e :: es => max (depS e) (depSs es)
end
mutual
def cntS : St → Nat | .mk _ _ _ ex body els _ => szEs ex + cntSs body + cntSs els + 1
def cntSs : List St → Nat | [] => 0 | e :: es => cntS e + cntSs es
end
mutual
def allE : Ex → Bool | .mk k s n kids => aloneB (.mk k s n kids) && allEs kids
def allEs : List Ex → Bool | [] => true | e :: es => allE e && allEs es
end
mutual
def allS : St → Bool | .mk k s n ex body els ln => shapeB (.mk k s n ex body els ln) && allEs ex && allSs body && allSs els
def allSs : List St → Bool | [] => true | e :: es => allS e && allSs es
end

theorem size_step (n d deep : Int) (h0 : 0 ≤ n) (h1 : n < 9223372036854775807) : sizeStep (n, d) deep = (n + 1, max d deep) := by
  unfold sizeStep
  rw [show wrap64 ((n, d).1 + 1) = n + 1 by show wrap64 (n + 1) = n + 1; unfold wrap64; omega]

/-! ### Size -/
mutual
theorem wE_size (most : Int) : ∀ (e : Ex) (L : Nat) (deep n d : Int), 0 ≤ n → n + nE e L < 9223372036854775807 → deep - 1 ≤ d → deep + L = most + 1 → 1 ≤ L →
    wE stepE most deep (n, d) e = (n + nE e L, max d (deep - 1 + dE e L))
  | .mk k s m kids, L, deep, n, d, h0, h1, h2, h3, h4 => by
    simp only [nE] at h1
    simp only [wE, stepE, nE, dE]
    rw [size_step n d deep h0 (by omega), wEs_size most kids (L - 1) (deep + 1) (n + 1) (max d deep) (by omega) (by omega) (by omega) (by omega)]
    refine Prod.ext ?_ ?_
    · show n + 1 + ((nEs kids (L - 1) : Nat) : Int) = n + ((nEs kids (L - 1) + 1 : Nat) : Int); omega
    · show max (max d deep) (deep + 1 - 1 + ((dEs kids (L - 1) : Nat) : Int)) = max d (deep - 1 + ((dEs kids (L - 1) + 1 : Nat) : Int)); omega
theorem wEs_size (most : Int) : ∀ (es : List Ex) (L : Nat) (deep n d : Int), 0 ≤ n → n + nEs es L < 9223372036854775807 → deep - 1 ≤ d → deep + L = most + 1 →
    wEs stepE most deep (n, d) es = (n + nEs es L, max d (deep - 1 + dEs es L))
  | [], L, deep, n, d, h0, h1, h2, h3 => by
    simp only [wEs, nEs, dEs]
    refine Prod.ext ?_ ?_
    · show n = n + ((0 : Nat) : Int); omega
    · show d = max d (deep - 1 + ((0 : Nat) : Int)); omega
  | e :: es, L, deep, n, d, h0, h1, h2, h3 => by
    by_cases hL : L = 0
    · subst hL
      rw [wEs_gt _ _ (by omega)]
      simp only [nEs, dEs, if_true]
      refine Prod.ext ?_ ?_
      · show n = n + ((0 : Nat) : Int); omega
      · show d = max d (deep - 1 + ((0 : Nat) : Int)); omega
    · simp only [nEs, if_neg hL] at h1
      simp only [wEs, nEs, dEs, if_neg hL]
      rw [if_neg (by omega), wE_size most e L deep n d h0 (by omega) h2 h3 (by omega), wEs_size most es L deep _ _ (by omega) (by omega) (by omega) h3]
      refine Prod.ext ?_ ?_
      · show n + ((nE e L : Nat) : Int) + ((nEs es L : Nat) : Int) = n + ((nE e L + nEs es L : Nat) : Int); omega
      · show max (max d (deep - 1 + ((dE e L : Nat) : Int))) (deep - 1 + ((dEs es L : Nat) : Int)) = max d (deep - 1 + ((max (dE e L) (dEs es L) : Nat) : Int)); omega
end
mutual
theorem wS_size (most : Int) : ∀ (e : St) (L : Nat) (deep n d : Int), 0 ≤ n → n + nS e L < 9223372036854775807 → deep - 1 ≤ d → deep + L = most + 1 → 1 ≤ L →
    wS stepE stepS most deep (n, d) e = (n + nS e L, max d (deep - 1 + dS e L))
  | .mk k s m ex body els ln, L, deep, n, d, h0, h1, h2, h3, h4 => by
    simp only [nS] at h1
    simp only [wS, stepS, nS, dS]
    rw [size_step n d deep h0 (by omega), wEs_size most ex (L - 1) (deep + 1) (n + 1) (max d deep) (by omega) (by omega) (by omega) (by omega),
      wSs_size most body (L - 1) (deep + 1) _ _ (by omega) (by omega) (by omega) (by omega), wSs_size most els (L - 1) (deep + 1) _ _ (by omega) (by omega) (by omega) (by omega)]
    generalize nEs ex (L - 1) = a at *
    generalize nSs body (L - 1) = b at *
    generalize nSs els (L - 1) = c at *
    generalize dEs ex (L - 1) = x at *
    generalize dSs body (L - 1) = y at *
    generalize dSs els (L - 1) = z at *
    refine Prod.ext ?_ ?_
    · show n + 1 + (a : Int) + (b : Int) + (c : Int) = n + ((a + b + c + 1 : Nat) : Int); omega
    · show max (max (max (max d deep) (deep + 1 - 1 + (x : Int))) (deep + 1 - 1 + (y : Int))) (deep + 1 - 1 + (z : Int)) = max d (deep - 1 + ((max x (max y z) + 1 : Nat) : Int)); omega
theorem wSs_size (most : Int) : ∀ (es : List St) (L : Nat) (deep n d : Int), 0 ≤ n → n + nSs es L < 9223372036854775807 → deep - 1 ≤ d → deep + L = most + 1 →
    wSs stepE stepS most deep (n, d) es = (n + nSs es L, max d (deep - 1 + dSs es L))
  | [], L, deep, n, d, h0, h1, h2, h3 => by
    simp only [wSs, nSs, dSs]
    refine Prod.ext ?_ ?_
    · show n = n + ((0 : Nat) : Int); omega
    · show d = max d (deep - 1 + ((0 : Nat) : Int)); omega
  | e :: es, L, deep, n, d, h0, h1, h2, h3 => by
    by_cases hL : L = 0
    · subst hL
      rw [wSs_gt _ _ _ (by omega)]
      simp only [nSs, dSs, if_true]
      refine Prod.ext ?_ ?_
      · show n = n + ((0 : Nat) : Int); omega
      · show d = max d (deep - 1 + ((0 : Nat) : Int)); omega
    · simp only [nSs, if_neg hL] at h1
      simp only [wSs, nSs, dSs, if_neg hL]
      rw [if_neg (by omega), wS_size most e L deep n d h0 (by omega) h2 h3 (by omega), wSs_size most es L deep _ _ (by omega) (by omega) (by omega) h3]
      refine Prod.ext ?_ ?_
      · show n + ((nS e L : Nat) : Int) + ((nSs es L : Nat) : Int) = n + ((nS e L + nSs es L : Nat) : Int); omega
      · show max (max d (deep - 1 + ((dS e L : Nat) : Int))) (deep - 1 + ((dSs es L : Nat) : Int)) = max d (deep - 1 + ((max (dS e L) (dSs es L) : Nat) : Int)); omega
end

mutual
theorem nE_le : ∀ (e : Ex) (L : Nat), nE e L ≤ szE e
  | .mk _ _ _ kids, L => by simp only [nE, szE]; have := nEs_le kids (L - 1); omega
theorem nEs_le : ∀ (es : List Ex) (L : Nat), nEs es L ≤ szEs es
  | [], _ => by simp [nEs, szEs]
  | e :: es, L => by simp only [nEs, szEs]; have := nE_le e L; have := nEs_le es L; split <;> omega
end
mutual
theorem nS_le : ∀ (e : St) (L : Nat), nS e L ≤ cntS e
  | .mk _ _ _ ex body els _, L => by simp only [nS, cntS]; have := nEs_le ex (L - 1); have := nSs_le body (L - 1); have := nSs_le els (L - 1); omega
theorem nSs_le : ∀ (es : List St) (L : Nat), nSs es L ≤ cntSs es
  | [], _ => by simp [nSs, cntSs]
  | e :: es, L => by simp only [nSs, cntSs]; have := nS_le e L; have := nSs_le es L; split <;> omega
end
mutual
theorem dE_min : ∀ (e : Ex) (L : Nat), 1 ≤ L → dE e L = min L (depE e)
  | .mk _ _ _ kids, L, h => by simp only [dE, depE]; rw [dEs_min kids (L - 1)]; omega
theorem dEs_min : ∀ (es : List Ex) (L : Nat), dEs es L = min L (depEs es)
  | [], _ => by simp [dEs, depEs]
  | e :: es, L => by
    simp only [dEs, depEs]
    split
    · omega
    · rw [dE_min e L (by omega), dEs_min es L]; omega
end
mutual
theorem dS_min : ∀ (e : St) (L : Nat), 1 ≤ L → dS e L = min L (depS e)
  | .mk _ _ _ ex body els _, L, h => by simp only [dS, depS]; rw [dEs_min ex (L - 1), dSs_min body (L - 1), dSs_min els (L - 1)]; omega
theorem dSs_min : ∀ (es : List St) (L : Nat), dSs es L = min L (depSs es)
  | [], _ => by simp [dSs, depSs]
  | e :: es, L => by
    simp only [dSs, depSs]
    split
    · omega
    · rw [dS_min e L (by omega), dSs_min es L]; omega
end

/-! ### a program's size -/
def cntIt (x : It) : Nat := szEs x.exprs + cntSs x.body
def cntIts : List It → Nat | [] => 0 | x :: l => cntIt x + cntIts l
def depIt (x : It) : Nat := max (depEs x.exprs) (depSs x.body)
def depIts : List It → Nat | [] => 0 | x :: l => max (depIt x) (depIts l)
def nIt (x : It) : Nat := nEs x.exprs 61 + nSs x.body 61
def nIts : List It → Nat | [] => 0 | x :: l => nIt x + nIts l
theorem nIt_le (x : It) : nIt x ≤ cntIt x := by unfold nIt cntIt; have := nEs_le x.exprs 61; have := nSs_le x.body 61; omega
theorem nIts_le : ∀ l : List It, nIts l ≤ cntIts l
  | [] => by simp [nIts, cntIts]
  | x :: l => by simp only [nIts, cntIts]; have := nIt_le x; have := nIts_le l; omega

theorem sizeIt_is (x : It) (n d : Int) (h0 : 0 ≤ n) (h1 : n + cntIt x < 9223372036854775807) (h2 : 0 ≤ d) : sizeIt (n, d) x = (n + nIt x, max d (min 61 (depIt x) : Nat)) := by
  unfold cntIt at h1
  have a1 := nEs_le x.exprs 61
  have a2 := nSs_le x.body 61
  unfold sizeIt nIt depIt
  rw [wEs_size 61 x.exprs 61 1 n d h0 (by omega) (by omega) (by omega), wSs_size 61 x.body 61 1 _ _ (by omega) (by omega) (by omega) (by omega), dEs_min, dSs_min]
  refine Prod.ext ?_ ?_
  · show n + ((nEs x.exprs 61 : Nat) : Int) + ((nSs x.body 61 : Nat) : Int) = _; omega
  · show max (max d (1 - 1 + ((min 61 (depEs x.exprs) : Nat) : Int))) (1 - 1 + ((min 61 (depSs x.body) : Nat) : Int)) = _; omega
theorem sizes_is : ∀ (l : List It) (n d : Int), 0 ≤ n → n + cntIts l < 9223372036854775807 → 0 ≤ d → l.foldl sizeIt (n, d) = (n + nIts l, max d (min 61 (depIts l) : Nat))
  | [], n, d, h0, h1, h2 => by
    simp only [List.foldl_nil, nIts, depIts]
    refine Prod.ext ?_ ?_
    · show n = n + ((0 : Nat) : Int); omega
    · show d = max d ((min 61 0 : Nat) : Int); omega
  | x :: l, n, d, h0, h1, h2 => by
    simp only [cntIts] at h1
    have := nIt_le x
    have := nIts_le l
    rw [List.foldl_cons, sizeIt_is x n d h0 (by omega) h2, sizes_is l _ _ (by omega) (by omega) (by omega)]
    simp only [nIts, depIts]
    refine Prod.ext ?_ ?_
    · show n + ((nIt x : Nat) : Int) + ((nIts l : Nat) : Int) = n + ((nIt x + nIts l : Nat) : Int); omega
    · show max (max d ((min 61 (depIt x) : Nat) : Int)) ((min 61 (depIts l) : Nat) : Int) = max d ((min 61 (max (depIt x) (depIts l)) : Nat) : Int); omega
theorem sizeP_is (l : List It) (h : cntIts l < 9223372036854775807) : sizeP l = ((nIts l : Int), ((min 61 (depIts l) : Nat) : Int)) := by
  unfold sizeP
  rw [sizes_is l 0 0 (by omega) (by omega) (by omega)]
  refine Prod.ext ?_ ?_
  · show (0 : Int) + _ = _; omega
  · show max (0 : Int) _ = _; omega

/-! ### Right and Expr: everything is right by itself -/
mutual
theorem wE_good (most : Int) : ∀ (e : Ex) (deep : Int) (st : Bool), deep - 1 + depE e ≤ most → wE goodR most deep st e = (st && allE e)
  | .mk k s m kids, deep, st, h => by
    simp only [depE] at h
    simp only [wE, goodR, allE]
    rw [wEs_good most kids (deep + 1) _ (by omega), Bool.and_assoc]
theorem wEs_good (most : Int) : ∀ (es : List Ex) (deep : Int) (st : Bool), deep - 1 + depEs es ≤ most → wEs goodR most deep st es = (st && allEs es)
  | [], _, _, _ => by simp [wEs, allEs]
  | e :: es, deep, st, h => by
    simp only [depEs] at h
    have : 1 ≤ depE e := by obtain ⟨k, s, n, kids⟩ := e; simp [depE]
    simp only [wEs, allEs]
    rw [if_neg (by omega), wE_good most e deep st (by omega), wEs_good most es deep _ (by omega), Bool.and_assoc]
end
mutual
theorem wS_good (most : Int) : ∀ (e : St) (deep : Int) (st : Bool), deep - 1 + depS e ≤ most → wS goodR goodS most deep st e = (st && allS e)
  | .mk k s m ex body els ln, deep, st, h => by
    simp only [depS] at h
    simp only [wS, goodS, allS]
    rw [wEs_good most ex (deep + 1) _ (by omega), wSs_good most body (deep + 1) _ (by omega), wSs_good most els (deep + 1) _ (by omega)]
    simp only [Bool.and_assoc]
theorem wSs_good (most : Int) : ∀ (es : List St) (deep : Int) (st : Bool), deep - 1 + depSs es ≤ most → wSs goodR goodS most deep st es = (st && allSs es)
  | [], _, _, _ => by simp [wSs, allSs]
  | e :: es, deep, st, h => by
    simp only [depSs] at h
    have : 1 ≤ depS e := by obtain ⟨k, s, n, x, y, z, l⟩ := e; simp [depS]
    simp only [wSs, allSs]
    rw [if_neg (by omega), wS_good most e deep st (by omega), wSs_good most es deep _ (by omega), Bool.and_assoc]
end
mutual
theorem wE_goodE (most : Int) : ∀ (e : Ex) (deep : Int) (st : Bool), deep - 1 + depE e ≤ most → deep - 1 + depE e ≤ 60 → wE goodE most deep st e = (st && allE e)
  | .mk k s m kids, deep, st, h, h6 => by
    simp only [depE] at h h6
    simp only [wE, goodE, allE]
    rw [wEs_goodE most kids (deep + 1) _ (by omega) (by omega), decide_eq_true (by omega), Bool.and_true, Bool.and_assoc]
theorem wEs_goodE (most : Int) : ∀ (es : List Ex) (deep : Int) (st : Bool), deep - 1 + depEs es ≤ most → deep - 1 + depEs es ≤ 60 → wEs goodE most deep st es = (st && allEs es)
  | [], _, _, _, _ => by simp [wEs, allEs]
  | e :: es, deep, st, h, h6 => by
    simp only [depEs] at h h6
    have : 1 ≤ depE e := by obtain ⟨k, s, n, kids⟩ := e; simp [depE]
    simp only [wEs, allEs]
    rw [if_neg (by omega), wE_goodE most e deep st (by omega) (by omega), wEs_goodE most es deep _ (by omega) (by omega), Bool.and_assoc]
end
theorem exprB_of {e : Ex} (h : depE e ≤ 60) (ha : allE e = true) : exprB e = true := by
  unfold exprB
  rw [wEs_goodE 61 [e] 1 true (by simp only [depEs]; omega) (by simp only [depEs]; omega)]
  simp [allEs, ha]

def goodIt (x : It) : Bool := itemB x && allEs x.exprs && allSs x.body
theorem rightIt_is (x : It) (st : Bool) (h : depIt x ≤ 60) : rightIt st x = (st && goodIt x) := by
  unfold depIt at h
  unfold rightIt goodIt
  rw [wEs_good 60 x.exprs 1 _ (by omega), wSs_good 60 x.body 1 _ (by omega)]
  simp only [Bool.and_assoc]
theorem rightIts_is : ∀ (l : List It) (st : Bool), depIts l ≤ 60 → l.foldl rightIt st = (st && l.all goodIt)
  | [], st, _ => by simp
  | x :: l, st, h => by
    simp only [depIts] at h
    rw [List.foldl_cons, rightIt_is x st (by omega), rightIts_is l _ (by omega), List.all_cons, Bool.and_assoc]
/-- What nodes.Right tells of a program of not too many parts. -/
theorem rightB_is (l : List It) (h : cntIts l < 9223372036854775807) : rightB l = (decide (nIts l ≤ 4000) && (decide (depIts l ≤ 60) && l.all goodIt)) := by
  unfold rightB
  rw [sizeP_is l h]
  simp only
  by_cases h1 : nIts l ≤ 4000
  · by_cases h2 : depIts l ≤ 60
    · rw [if_neg (by omega), rightIts_is l true h2]
      simp [h1, h2]
    · rw [if_pos (by omega)]
      simp [h2]
  · rw [if_pos (by omega)]
    simp [h1]

theorem dep_item {x : It} : ∀ {l : List It}, x ∈ l → depIt x ≤ depIts l ∧ cntIt x ≤ cntIts l
  | [], h => by cases h
  | y :: l, h => by
    simp only [depIts, cntIts]
    rcases List.mem_cons.1 h with rfl | h
    · omega
    · have := dep_item h; omega
theorem dep_take : ∀ (l : List It) (n : Nat), depIts (l.take n) ≤ depIts l ∧ cntIts (l.take n) ≤ cntIts l
  | [], n => by simp [depIts, cntIts]
  | x :: l, 0 => by simp [depIts, cntIts]
  | x :: l, n + 1 => by
    have := dep_take l n
    simp only [List.take_succ_cons, depIts, cntIts]; omega

/-! ### counts, place by place -/
def kidSum (es : List Ex) : Nat := (es.map fun e => szEs e.kids).sum
theorem szEs_sum : ∀ es : List Ex, szEs es = es.length + kidSum es
  | [] => by simp [szEs, kidSum]
  | .mk k s n kids :: es => by
    have := szEs_sum es
    simp only [szEs, szE, kidSum, List.map_cons, List.sum_cons, List.length_cons, Ex.kids] at *
    omega
theorem kidSum_take (es : List Ex) (i : Nat) (h : i < es.length) : kidSum (es.take (i + 1)) = kidSum (es.take i) + szEs es[i].kids := by
  unfold kidSum
  rw [List.take_succ_eq_append_getElem h, List.map_append, List.sum_append]
  simp
def partSum (es : List St) : Nat := (es.map fun e => szEs e.exprs + cntSs e.body + cntSs e.els).sum
theorem cntSs_sum : ∀ es : List St, cntSs es = es.length + partSum es
  | [] => by simp [cntSs, partSum]
  | .mk k s n ex body els ln :: es => by
    have := cntSs_sum es
    simp only [cntSs, cntS, partSum, List.map_cons, List.sum_cons, List.length_cons, St.exprs, St.body, St.els] at *
    omega
theorem partSum_take (es : List St) (i : Nat) (h : i < es.length) : partSum (es.take (i + 1)) = partSum (es.take i) + (szEs es[i].exprs + cntSs es[i].body + cntSs es[i].els) := by
  unfold partSum
  rw [List.take_succ_eq_append_getElem h, List.map_append, List.sum_append]
  simp
theorem cntIts_take (l : List It) (i : Nat) (h : i < l.length) : cntIts (l.take (i + 1)) = cntIts (l.take i) + cntIt l[i] := by
  induction l generalizing i with
  | nil => simp at h
  | cons x l ih =>
    cases i with
    | zero => simp [cntIts]
    | succ i =>
      simp only [List.take_succ_cons, cntIts, List.getElem_cons_succ]
      rw [ih i (by simpa using h)]
      omega

/-! ### the law's own functions -/
mutual
def exL : Ex → Bool | .mk k s n kids => exprB (.mk k s n kids) && exsL kids
def exsL : List Ex → Bool | [] => true | e :: es => exL e && exsL es
end
def endOf (s : St) : It := ⟨2, ⟨#[]⟩, [], [], false, [s], 0⟩
mutual
def stL : St → Bool | .mk k s n ex body els ln => rightB [endOf (.mk k s n ex body els ln)] && exsL ex && stsL body && stsL els
def stsL : List St → Bool | [] => true | e :: es => stL e && stsL es
end
mutual
theorem exL_of : ∀ (e : Ex), depE e ≤ 60 → allE e = true → exL e = true
  | .mk k s n kids, h, ha => by
    have h' := h
    have ha' := ha
    simp only [depE] at h
    simp only [allE, Bool.and_eq_true] at ha
    simp only [exL, Bool.and_eq_true]
    exact ⟨exprB_of h' ha', exsL_of kids (by omega) ha.2⟩
theorem exsL_of : ∀ (es : List Ex), depEs es ≤ 60 → allEs es = true → exsL es = true
  | [], _, _ => by simp only [exsL]
  | e :: es, h, ha => by
    simp only [depEs] at h
    simp only [allEs, Bool.and_eq_true] at ha
    simp only [exsL, Bool.and_eq_true]
    exact ⟨exL_of e (by omega) ha.1, exsL_of es (by omega) ha.2⟩
end
theorem endOf_right (s : St) (h1 : cntS s ≤ 4000) (h2 : depS s ≤ 60) (h3 : allS s = true) : rightB [endOf s] = true := by
  have hc : cntIts [endOf s] = cntS s := by simp [cntIts, cntIt, endOf, szEs, cntSs]
  have hn := nIts_le [endOf s]
  have hi : itemB (endOf s) = true := by
    have e : (⟨#[]⟩ : ByteArray).toList.isEmpty = true := by decide +kernel
    simp only [itemB, endOf, itemP, e]
    simp
  rw [rightB_is _ (by omega), decide_eq_true (by omega), decide_eq_true (by simp [depIts, depIt, endOf, depEs, depSs]; omega)]
  simp only [List.all_cons, List.all_nil, goodIt, hi]
  simp [endOf, allEs, allSs, h3]
mutual
theorem stL_of : ∀ (e : St), cntS e ≤ 4000 → depS e ≤ 60 → allS e = true → stL e = true
  | .mk k s n ex body els ln, hc, h, ha => by
    have e1 := endOf_right _ hc h ha
    simp only [cntS] at hc
    simp only [depS] at h
    simp only [allS, Bool.and_eq_true] at ha
    simp only [stL, Bool.and_eq_true]
    exact ⟨⟨⟨e1, exsL_of ex (by omega) ha.1.1.2⟩, stsL_of body (by omega) (by omega) ha.1.2⟩, stsL_of els (by omega) (by omega) ha.2⟩
theorem stsL_of : ∀ (es : List St), cntSs es ≤ 4000 → depSs es ≤ 60 → allSs es = true → stsL es = true
  | [], _, _, _ => by simp only [stsL]
  | e :: es, hc, h, ha => by
    simp only [cntSs] at hc
    simp only [depSs] at h
    simp only [allSs, Bool.and_eq_true] at ha
    simp only [stsL, Bool.and_eq_true]
    exact ⟨stL_of e (by omega) (by omega) ha.1, stsL_of es (by omega) (by omega) ha.2⟩
end
/-- What the law asks of each item. -/
def itL (x : It) : Bool := exsL x.exprs && stsL x.body && rightB [x]
theorem whole_law (l : List It) (hc : cntIts l ≤ 400) (hr : rightB l = true) : (nIts l : Int) ≤ 4000 ∧ depIts l ≤ 60 ∧ (∀ x ∈ l, itL x = true) ∧ ∀ n, rightB (l.take n) = true := by
  rw [rightB_is l (by omega)] at hr
  simp only [Bool.and_eq_true, decide_eq_true_eq] at hr
  obtain ⟨h1, h2, h3⟩ := hr
  refine ⟨by omega, h2, fun x hx => ?_, fun n => ?_⟩
  · obtain ⟨hd, hn⟩ := dep_item hx
    have hg := List.all_eq_true.1 h3 x hx
    have hg' := hg
    simp only [goodIt, Bool.and_eq_true] at hg
    have hd' : depEs x.exprs ≤ 60 ∧ depSs x.body ≤ 60 := by unfold depIt at hd; omega
    have hn' : cntSs x.body ≤ 4000 := by unfold cntIt at hn; omega
    unfold itL
    rw [exsL_of _ hd'.1 hg.1.2, stsL_of _ hn' hd'.2 hg.2]
    have c1 : cntIts [x] = cntIt x := by simp [cntIts]
    have := nIts_le [x]
    rw [rightB_is _ (by omega), decide_eq_true (by omega), decide_eq_true (by simp [depIts]; omega)]
    simp [hg']
  · obtain ⟨hd, hn⟩ := dep_take l n
    have := nIts_le (l.take n)
    rw [rightB_is _ (by omega), decide_eq_true (by omega), decide_eq_true (by omega)]
    simp only [Bool.true_and]
    exact List.all_eq_true.2 fun x hx => List.all_eq_true.1 h3 x (List.mem_of_mem_take hx)
end Go.Proofs.YtdmiakfgemeelaaDoor
