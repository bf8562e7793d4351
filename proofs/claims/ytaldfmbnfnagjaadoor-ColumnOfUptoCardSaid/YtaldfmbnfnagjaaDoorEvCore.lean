/- Each operation, one by one. -/
import Derived.Test.YtaldfmbnfnagjaaDoorEvApp
import Derived.Laws.Tables
import Derived.Laws.Slices
import Derived.Great.BuildSlice
namespace Go.Proofs.YtaldfmbnfnagjaaDoor.E
open Go.RowKit (Below)
set_option linter.unusedVariables false
set_option linter.unusedSimpArgs false
theorem cond_some {α : Type} {b : Bool} {x : Option α} {y : α} (h : cond b x none = some y) : b = true ∧ x = some y := by cases b <;> simp_all
theorem cond_none {α : Type} {b : Bool} {x : Option α} {y : α} (h : cond b none x = some y) : b = false ∧ x = some y := by cases b <;> simp_all
theorem pr_some {a d : D} {b us : List (Nat × Option Bx)} (h : pr a b = some (d, us)) : d = a ∧ us = b := by
  simp only [pr, Option.some.injEq, Prod.mk.injEq] at h; exact ⟨h.1.symm, h.2.symm⟩
theorem fresh_some {α : Type} {st : St} {dst : Nat} {a : Option α} {y : α} (h : fresh st dst a = some y) : st.bx dst = none ∧ a = some y := by
  unfold fresh at h; split at h
  · rename_i hq; exact ⟨hq, h⟩
  · simp at h
section
variable {C : Ctx} {B : M} {base : Nat} {m : M} {e : Env} {w w' : World} {bx : Nat → Option Bx} {st : St}

/-! #### a struct's parts -/
theorem fold_set (off : Nat) : ∀ (l : List Value) (k : Nat) (cells : Array Value), off + k + l.length ≤ cells.size →
    ((l.zipIdx k).foldl (fun cs (x : Value × Nat) => cs.setIfInBounds (off + x.2) x.1) cells).toList = cells.toList.take (off + k) ++ l ++ cells.toList.drop (off + k + l.length)
  | [], k, cells, h => by simp
  | v :: l, k, cells, h => by
    simp only [List.zipIdx_cons, List.foldl_cons]
    simp only [List.length_cons] at h
    rw [fold_set off l (k + 1) _ (by simp; omega)]
    apply List.ext_getElem?
    intro q
    have hsz : (cells.setIfInBounds (off + k) v).toList.length = cells.size := by simp
    have hsz' : cells.toList.length = cells.size := Array.length_toList
    have h1 : off + (k + 1) + l.length ≤ (cells.setIfInBounds (off + k) v).toList.length := by rw [hsz]; omega
    have h2 : off + k + (v :: l).length ≤ cells.toList.length := by simp only [List.length_cons]; omega
    clear hsz hsz'
    rw [splice_get _ _ _ _ h1, splice_get _ _ _ _ h2]
    simp only [List.length_cons]
    by_cases c1 : off + (k + 1) ≤ q ∧ q < off + (k + 1) + l.length
    · rw [if_pos c1, if_pos (by omega), show q - (off + k) = (q - (off + (k + 1))) + 1 by omega, List.getElem?_cons_succ]
    · rw [if_neg c1]
      by_cases c2 : q = off + k
      · subst c2
        rw [if_pos (by omega)]
        simp only [Nat.sub_self, List.getElem?_cons_zero, Array.toList_setIfInBounds]; rw [List.getElem?_set_self (by rw [Array.length_toList]; omega)]
      · rw [if_neg (by omega)]
        simp [Array.getElem?_setIfInBounds, Ne.symm c2]
theorem fill_rd {places : List (Nat × Nat)} {place : Nat → Option (Nat × Nat)} (hpl : ∀ i, place i = places[i]?) : ∀ (parts : List (Nat × D)) (vparts : List (Nat × Value)) (ds c : List D) (cells : Array Value),
    fillD places ds parts = some c → All2 (Rd1 m e) ds cells.toList → All2 (fun (a : Nat × D) (b : Nat × Value) => a.1 = b.1 ∧ Rd m e a.2 b.2) parts vparts →
    ∃ cells', Instr.fill place cells vparts = some cells' ∧ All2 (Rd1 m e) c cells'.toList
  | [], [], ds, c, cells, h, k, _ => by simp only [fillD, Option.some.injEq] at h; subst h; exact ⟨cells, rfl, k⟩
  | (i, d) :: parts, (i', v) :: vparts, ds, c, cells, h, k, ⟨⟨hi, hd⟩, hp⟩ => by
    simp only at hi hd
    subst hi
    simp only [fillD] at h
    split at h
    · simp at h
    · rename_i off n hpi
      split at h
      · rename_i hc
        simp only [Bool.and_eq_true, beq_iff_eq] at hc
        simp only [Option.bind_eq_some_iff] at h
        obtain ⟨c1, h1, h2⟩ := h
        have kv := hd.leaves hc.1
        obtain ⟨k1, k2⟩ := splice_rd h1 k kv
        have hvn : v.cells.size = n := by rw [← Array.length_toList, ← kv.length, hc.2]
        simp only [Array.length_toList] at k2
        have hfold := fold_set off v.cells.toList 0 cells (by simpa using k2)
        simp only [Nat.add_zero] at hfold
        obtain ⟨cells', f1, f2⟩ := fill_rd hpl parts vparts c1 c _ h2 (by rw [← hfold] at k1; exact k1) hp
        refine ⟨cells', ?_, f2⟩
        simp only [Instr.fill, hpl, hpi]
        have hn : ¬ (n + off > cells.size) := by omega
        have hcond : (decide (v.cells.size ≠ n) || decide (off + v.cells.size > cells.size)) = false := by simp [hvn]; omega
        simp only [hcond, Bool.false_eq_true, if_false]
        rw [← f1]
        congr 1
        rw [← Array.foldl_toList]
        simp
      · simp at h
  | [], _ :: _, _, _, _, _, _, h => h.elim
  | _ :: _, [], _, _, _, _, _, h => h.elim

/-! #### slice literals -/
theorem buildRows_rd {row : Sh} : ∀ {ds : List D} {vs : List Value} {xs : List row.T}, buildRows row ds = some xs → All2 (Rd m e) ds vs →
    xs.length = vs.length ∧ ∃ cs : List (List Value), cs.length = vs.length ∧ (∀ (i : Nat) (c : List Value), cs[i]? = some c → c.length = row.n ∧ ∃ v : Value, vs[i]? = some v ∧ v.cells.toList = c) ∧ ∀ (i : Nat) (x : row.T), xs[i]? = some x → ∃ c : List Value, cs[i]? = some c ∧ RdT m row x c
  | [], [], xs, h, _ => by simp only [buildRows, Option.some.injEq] at h; subst h; exact ⟨rfl, [], rfl, by simp, by simp⟩
  | d :: ds, v :: vs, xs, h, k => by
    simp only [buildRows] at h
    split at h
    · rename_i x xs' h1 h2
      split at h
      · rename_i hok
        simp only [Option.some.injEq] at h
        subst h
        obtain ⟨hl, cs, c1, c2, c3⟩ := buildRows_rd h2 k.2
        have kv := decAll_rd h1 (k.1.leaves hok)
        refine ⟨by simp [hl], v.cells.toList :: cs, by simp [c1], fun i c hc => ?_, fun i y hy => ?_⟩
        · cases i with
          | zero => simp at hc; subst hc; exact ⟨RdT.length row _ _ kv, v, rfl, rfl⟩
          | succ i => simp at hc; obtain ⟨a, v', b, d⟩ := c2 i c hc; exact ⟨a, v', by simpa using b, d⟩
        · cases i with
          | zero => simp at hy; subst hy; exact ⟨_, rfl, kv⟩
          | succ i => simp at hy; obtain ⟨c, a, b⟩ := c3 i y hy; exact ⟨c, by simpa using a, b⟩
      · simp at h
    · simp at h
  | [], _ :: _, _, _, h => h.elim
  | _ :: _, [], _, _, h => h.elim
theorem fill_dense (n : Nat) : ∀ (vs : List Value) (k : Nat) (cells : Array Value), (∀ v ∈ vs, v.cells.size = n) → (k + vs.length) * n ≤ cells.size →
    ∃ cells', Instr.fill (fun i => some (i * n, n)) cells ((vs.zipIdx k).map fun x => (x.2, x.1)) = some cells' ∧ cells'.size = cells.size ∧ (∀ q, q < k * n → cells'[q]? = cells[q]?) ∧
      (∀ (i : Nat) (v : Value), vs[i]? = some v → ∀ (j : Nat) (u : Value), v.cells.toList[j]? = some u → cells'[(k + i) * n + j]? = some u)
  | [], k, cells, _, h => ⟨cells, rfl, rfl, fun _ _ => rfl, by simp⟩
  | v :: vs, k, cells, hv, h => by
    have hvn := hv v List.mem_cons_self
    have hk : k * n + n ≤ cells.size := by
      have : (k + 1) * n ≤ (k + (v :: vs).length) * n := Nat.mul_le_mul_right _ (by simp)
      rw [Nat.add_mul] at this; omega
    have hlen : v.cells.toList.length = n := by simpa using hvn
    have hfold := fold_set (k * n) v.cells.toList 0 cells (by rw [hlen]; omega)
    simp only [Nat.add_zero] at hfold
    have hfit : k * n + v.cells.toList.length ≤ cells.toList.length := by rw [hlen, Array.length_toList]; omega
    have hget : ∀ q, ((v.cells.toList.zipIdx 0).foldl (fun cs (x : Value × Nat) => cs.setIfInBounds (k * n + x.2) x.1) cells)[q]? = if k * n ≤ q ∧ q < k * n + v.cells.toList.length then v.cells.toList[q - k * n]? else cells.toList[q]? := by
      intro q; rw [← Array.getElem?_toList, hfold, splice_get _ _ _ _ hfit]
    have hsz : ((v.cells.toList.zipIdx 0).foldl (fun cs (x : Value × Nat) => cs.setIfInBounds (k * n + x.2) x.1) cells).size = cells.size := by
      rw [← Array.length_toList, hfold]
      have : cells.toList.length = cells.size := Array.length_toList
      simp only [List.length_append, List.length_take, List.length_drop, hlen, this]; omega
    obtain ⟨cells', f1, f2, f3, f4⟩ := fill_dense n vs (k + 1) _ (fun x hx => hv x (List.mem_cons_of_mem _ hx)) (by rw [hsz]; simpa [Nat.add_assoc, Nat.add_comm 1] using h)
    have e1 : (k + 1) * n = k * n + n := by rw [Nat.add_mul, Nat.one_mul]
    refine ⟨cells', ?_, f2.trans hsz, fun q hq => ?_, fun i v' hv' j u hu => ?_⟩
    · simp only [List.zipIdx_cons, List.map_cons, Instr.fill]
      have hcond : (decide (v.cells.size ≠ n) || decide (k * n + v.cells.size > cells.size)) = false := by simp [hvn]; omega
      simp only [hcond, Bool.false_eq_true, if_false]
      rw [← f1]
      congr 1
      rw [← Array.foldl_toList]
      simp
    · rw [f3 q (by omega), hget, if_neg (by omega)]; simp
    · cases i with
      | zero =>
        simp only [List.getElem?_cons_zero, Option.some.injEq] at hv'
        subst hv'
        have hj := idx_lt hu
        rw [hlen] at hj
        rw [Nat.add_zero, f3 _ (by omega), hget, if_pos (by omega), ← hu]
        congr 1; omega
      | succ i =>
        simp only [List.getElem?_cons_succ] at hv'
        have := f4 i v' hv' j u hu
        rw [← this]
        congr 3; omega
end
end Go.Proofs.YtaldfmbnfnagjaaDoor.E
