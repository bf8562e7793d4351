/- The plain statement of ColumnCan: what the law computes is true, at every column. -/
import Derived.Test.YtaldfmbnfnagjaaDoorCol
namespace Go.Proofs.YtaldfmbnfnagjaaDoor.Y
open Go.RowKit Go.Proofs.YtaldfmbnfnagjaaDoor.X Go.Proofs.YtaldfmbnfnagjaaDoorW.PrintWords Go.Proofs.YtaldfmbnfnagjaaDoorW.PrintLast Go.Proofs.YtaldfmbnfnagjaaDoorW.PrintMore
set_option linter.unusedVariables false
set_option linter.unusedSimpArgs false
theorem Own_eq (n e : List Int) (h1 : n.length < 17592186044416) (h2 : e.length < 17592186044416) : cadastreref19_Own.f n e = some (n, e) := by
  unfold cadastreref19_Own.f
  simp only [Option.bind_some, List.length_nil, Nat.zero_add, List.nil_append]
  rw [if_pos h1, if_pos h2]
theorem rd_map (n e : List Int) (i : Nat) (h1 : i < n.length) (h2 : i < e.length) : rd_T33 ((n.zip e).map fun p => ofV (laneVal p)) (i : Int) = ofV (laneVal (n.getD i 0, e.getD i 0)) := by
  unfold rd_T33
  rw [show ((i : Int)).toNat = i by omega, List.getD_eq_getElem?_getD, List.getElem?_map]
  have : (n.zip e)[i]? = some (n.getD i 0, e.getD i 0) := by
    have h := zip_drop h1 h2
    have h3 := congrArg (·[0]?) h
    simpa using h3
  rw [this]; rfl
theorem canloop (n e : List Int) (hl : n.length = e.length) (hm : n.length ≤ 1000) : ∀ (d i k : Nat), n.length - i = d → i ≤ n.length → d + 3011 ≤ k →
    cadastrelaw19_ColumnCan.l0 k ((n.zip e).map fun p => ofV (laneVal p)) (i : Int) n e = some true := by
  have hzl : ((n.zip e).map fun p => ofV (laneVal p)).length = n.length := by rw [List.length_map, List.length_zip]; omega
  intro d
  induction d with
  | zero =>
    intro i k hd hi hk
    obtain ⟨k, rfl⟩ : ∃ m, k = m + 1 := ⟨k - 1, by omega⟩
    rw [cadastrelaw19_ColumnCan.l0, hzl, if_neg (by omega), lives19 k (by omega)]; rfl
  | succ d ih =>
    intro i k hd hi hk
    obtain ⟨k, rfl⟩ : ∃ m, k = m + 1 := ⟨k - 1, by omega⟩
    rw [cadastrelaw19_ColumnCan.l0, hzl, if_pos (by omega), if_pos (by omega), At_eq n e i (by omega) (by omega), rd_map n e i (by omega) (by omega), w64 (by omega) (by omega), show (i : Int) + 1 = ((i + 1 : Nat) : Int) by omega]
    simp only [Option.bind_some]
    rw [if_neg (by simp [ofV]), ih (i + 1) k (by omega) (by omega) (by omega)]
theorem columnCan_pure (n e : List Int) (h1 : n.length * 8 ≤ 140737488351232) (h2 : e.length * 8 ≤ 140737488351232) : ∃ k, cadastrelaw19_ColumnCan.f k n e = some true := by
  refine ⟨5000, ?_⟩
  generalize hk : 5000 = k
  unfold cadastrelaw19_ColumnCan.f
  rw [Own_eq n e (by omega) (by omega)]
  simp only [Option.bind_some]
  rw [Can_eq n e k (by omega)]
  simp only [Option.bind_some]
  rw [Values_eq n e k (by omega)]
  simp only [Option.bind_some]
  rw [refCanC_eq n e k (by omega)]
  simp only [Option.bind_some]
  rw [if_neg (by simp)]
  by_cases hc : canL n e = true
  · have h := hc
    simp only [canL, Bool.and_eq_true, beq_iff_eq, decide_eq_true_eq] at h
    rw [if_pos hc, if_pos hc, if_pos (by rw [List.length_map, List.length_zip]; omega)]
    exact canloop n e h.1 h.2.1 n.length 0 k rfl (Nat.zero_le _) (by omega)
  · rw [if_neg hc, if_neg hc, if_pos (by rfl), lives19 k (by omega)]; rfl
end Go.Proofs.YtaldfmbnfnagjaaDoor.Y
namespace Go.Proofs.YtaldfmbnfnagjaaDoor.Pure
theorem ColumnCan : ∀ (n e : List Int), n.length * 8 ≤ 140737488351232 → (∀ x ∈ n, (Lit.int .i64 x).wf = true) → e.length * 8 ≤ 140737488351232 → (∀ x ∈ e, (Lit.int .i64 x).wf = true) → ∃ k, Y.cadastrelaw19_ColumnCan.f k n e = some true :=
  fun n e h1 _ h2 _ => Y.columnCan_pure n e h1 h2
end Go.Proofs.YtaldfmbnfnagjaaDoor.Pure
