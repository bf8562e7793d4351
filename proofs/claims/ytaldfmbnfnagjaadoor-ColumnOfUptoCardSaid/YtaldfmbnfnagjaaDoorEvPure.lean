/- The plain statements of chapter 19's laws: what a law computes is true, at every input of bulk at most 1048576. -/
import Derived.Test.YtaldfmbnfnagjaaDoorEvCol3
import Derived.Test.YtaldfmbnfnagjaaDoorEvOpen
namespace Go.Proofs.YtaldfmbnfnagjaaDoor.E
set_option linter.unusedVariables false
set_option linter.unusedSimpArgs false
theorem same4 (z : V5) : (!((z.1 == z.1) && ((z.2.1 == z.2.1) && ((z.2.2.1.toList == z.2.2.1.toList) && (z.2.2.2.1 == z.2.2.2.1))))) = false := by simp
theorem columnOf_pure (l : List V5) (area : Bool) (h : l.length ≤ 1048576) : cadastrelaw19_ColumnOf.f l area = some (true, ()) := by
  have hr := roomy_eq
  unfold cadastrelaw19_ColumnOf.f
  rw [d_true (by simp; omega), List.nil_append, column_Of_eq, refOf_eq]
  simp only [Option.bind_some]
  have hsame : ∀ n e : List Int, n.length ≤ 1048576 → e.length ≤ 1048576 → cadastreref19_Same.f (n, e, ()) (n, e, ()) = some (true, ()) := by
    intro n e h1 h2; rw [refSame_eq n e n e h1 h2]; simp
  by_cases hm : l.length ≤ 1000
  · rw [if_pos hm]
    simp only
    rw [hsame _ _ (by rw [List.length_map]; omega) (by rw [List.length_map]; omega)]
    simp only [Option.bind_some]
    rw [column_Can_eq, can_lanes area l hm]
    simp only [Option.bind_some]
    rw [c_true (by rfl), c_true (by simp), c_false (by rfl), cutBind_go]
    simp only
    rw [Values_eq, can_lanes area l hm, if_pos rfl]
    simp only [Option.bind_some]
    have hz : ((l.map (lnN area)).zip (l.map (lnE area))).map laneVal = l.map (laneR area) := by
      rw [List.zip_map', List.map_map]
      exact List.map_congr_left fun x _ => (lane_ok area x).2
    rw [hz, List.length_map, List.length_map, c_false (by simp)]
    have key := loop_ind (s := cadastrelaw19_ColumnOf.l0) (fun x r => ∀ i : Nat, x = (l, area, l.map (laneR area), (i : Int), ()) → i ≤ l.length → r = some (true, ())) (fun x => l.length - x.2.2.2.1.toNat) ?_
    · exact key _ _ (by simp <;> omega) 0 rfl (Nat.zero_le _)
    · rintro x rec ih i rfl hi
      unfold cadastrelaw19_ColumnOf.l0
      simp only
      rw [List.length_map]
      by_cases hlt : i < l.length
      · obtain ⟨y, hy⟩ : ∃ y, l[i]? = some y := ⟨_, List.getElem?_eq_getElem hlt⟩
        rw [d_true (by omega), idx_nat, idx_nat, List.getElem?_map, hy]
        simp only [Option.map_some, Option.bind_some]
        rw [refLane_eq]
        simp only [Option.bind_some]
        rw [same4, c_false (by rfl), w64 (by omega) (by omega)]
        exact ih _ (by simp only; omega) (i + 1) rfl hlt
      · rw [d_false (by omega), lives19]; rfl
  · rw [if_neg hm]
    simp only
    rw [hsame _ _ (by simp) (by simp)]
    simp only [Option.bind_some]
    rw [column_Can_eq]
    simp only [Option.bind_some]
    rw [c_true (by rfl), c_true (by rfl), c_false (by decide), cutBind_go]
    simp only
    rw [Values_eq, if_pos (by decide)]
    simp only [Option.bind_some]
    rw [c_false (by rfl)]
    generalize hN : 64 + l.length + (List.map laneVal (([] : List Int).zip ([] : List Int))).length + Int.natAbs 0 = N
    obtain ⟨k, rfl⟩ : ∃ k, N = k + 1 := ⟨N - 1, by omega⟩
    show cadastrelaw19_ColumnOf.l0 _ _ = _
    unfold cadastrelaw19_ColumnOf.l0
    simp only
    rw [d_false (by simp), lives19]; rfl
end Go.Proofs.YtaldfmbnfnagjaaDoor.E
namespace Go.Proofs.YtaldfmbnfnagjaaDoor.E.Pure
theorem ColumnOf (x0 : List SValue.T) (x1 : Bool) (w0 : WfV 1048576 (.leaf (.sl SValue)) x0) (w1 : WfV 1048576 (.leaf .bool) x1) : cadastrelaw19_ColumnOf.f x0 x1 = some (true, ()) := columnOf_pure x0 x1 w0.1
end Go.Proofs.YtaldfmbnfnagjaaDoor.E.Pure
