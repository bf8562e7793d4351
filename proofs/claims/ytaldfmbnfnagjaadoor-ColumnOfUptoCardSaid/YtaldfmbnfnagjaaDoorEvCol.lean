/- Columns: what the printed functions of the program and of the reference come to. -/
import Derived.Test.YtaldfmbnfnagjaaDoorEvVal
namespace Go.Proofs.YtaldfmbnfnagjaaDoor.E
set_option linter.unusedVariables false
set_option linter.unusedSimpArgs false
theorem normV_idem (v : V5) : normV (normV v) = normV v := by
  have hn := normV_nice v
  generalize normV v = z at hn ⊢
  cases hn with
  | blank => rfl
  | bool b => cases b <;> rfl
  | num n h => show numV n = _; unfold numV; rw [if_neg h]
  | text s h => show textV s = _; unfold textV; rw [if_neg (by omega)]
  | err e h => show errV (okE e) = _; unfold okE; rw [if_pos h]
theorem toNumV_norm (v : V5) : toNumV (normV v) = toNumV v := by unfold toNumV; rw [normV_idem]
theorem numeralV_kind {s : ByteArray} {v : V5} (h : numeralV s = some v) : Nice v ∧ (v.1 = 2 ∨ v.1 = 4) := by
  unfold numeralV at h
  split at h
  · cases h
    refine ⟨numV_nice _, ?_⟩
    unfold numV; split
    · exact .inr rfl
    · exact .inl rfl
  · split at h
    · cases h; exact ⟨.err 4 (by decide), .inr rfl⟩
    · cases h
theorem numV_kind (n : Int) : (numV n).1 = 2 ∨ (numV n).1 = 4 := by unfold numV; split; exact .inr rfl; exact .inl rfl
theorem toNumV_kind (v : V5) : Nice (toNumV v) ∧ ((toNumV v).1 = 2 ∨ (toNumV v).1 = 4) := by
  unfold toNumV
  have hn := normV_nice v
  generalize normV v = z at hn ⊢
  split
  · exact ⟨numV_nice _, numV_kind _⟩
  · split
    · exact ⟨numV_nice _, numV_kind _⟩
    · split
      · cases h : numeralV z.2.2.1 with
        | none => exact ⟨.err 2 (by decide), .inr rfl⟩
        | some w => exact numeralV_kind h
      · refine ⟨hn, ?_⟩
        cases hn with
        | blank => rename_i h1 h2 h3; exact absurd rfl h2
        | bool b => rename_i h1 h2 h3; exact absurd rfl h1
        | num n h => exact .inl rfl
        | text s h => rename_i h1 h2 h3; exact absurd rfl h3
        | err e h => exact .inr rfl
/-- A value as a lane's. -/
def laneR (area : Bool) (x : V5) : V5 := if area = true then (if (normV x).1 = 2 ∨ (normV x).1 = 4 then normV x else numV 0) else toNumV x
theorem laneR_kind (area : Bool) (x : V5) : Nice (laneR area x) ∧ ((laneR area x).1 = 2 ∨ (laneR area x).1 = 4) := by
  unfold laneR
  split
  · split
    · exact ⟨normV_nice x, by assumption⟩
    · exact ⟨numV_nice _, numV_kind _⟩
  · exact toNumV_kind x
def lnN (area : Bool) (x : V5) : Int := if (laneR area x).1 = 4 then 0 else (laneR area x).2.1
def lnE (area : Bool) (x : V5) : Int := if (laneR area x).1 = 4 then (laneR area x).2.2.2.1 else 0
def plain1 (x : V5) : Bool := (normV x).1 == 0 || (normV x).1 == 2
theorem refLane_eq (x : V5) (area : Bool) : cadastreref19_Lane.f x area = some (laneR area x, ()) := by
  unfold cadastreref19_Lane.f laneR
  cases area with
  | false => rw [c_true (by rfl), refToNum_eq]; rfl
  | true =>
    rw [c_false (by rfl), refNormal_eq, if_pos rfl]
    simp only [Option.bind_some]
    by_cases h2 : (normV x).1 = 2
    · rw [h2, c_false (by rfl), if_pos (.inl rfl)]
    · by_cases h4 : (normV x).1 = 4
      · rw [h4, c_true (by rfl), c_true (by rfl), if_pos (.inr rfl)]
      · rw [c_true (by simp [h2]), c_false (by simp [h4]), if_neg (by rintro (h | h); exact h2 h; exact h4 h), refNum_eq]; rfl
theorem refPut_eq (n e : List Int) (x : V5) (hn : n.length ≤ 1000) (he : e.length ≤ 1000) : cadastreref19_Put.f (n, e, ()) x = some ((n ++ [if x.1 = 4 then 0 else x.2.1], e ++ [if x.1 = 4 then x.2.2.2.1 else 0], ()), ()) := by
  unfold cadastreref19_Put.f
  simp only [List.nil_append, List.length_nil, List.length_cons, Nat.zero_add]
  have hr := roomy_eq
  by_cases h : x.1 = 4
  · rw [c_true (by simp [h]), d_true (by omega), d_true (by omega), d_true (by omega), d_true (by omega), if_pos h, if_pos h]
  · rw [c_false (by simp [h]), d_true (by omega), d_true (by omega), d_true (by omega), d_true (by omega), if_neg h, if_neg h]
theorem refOf_eq (l : List V5) (area : Bool) : cadastreref19_Of.f l area = some (if l.length ≤ 1000 then ((l.map (lnN area), l.map (lnE area), ()), l.all plain1, ()) else (([], [], ()), false, ())) := by
  unfold cadastreref19_Of.f
  by_cases h : l.length ≤ 1000
  · rw [d_false (by omega), if_pos h]
    have key := loop_ind (s := cadastreref19_Of.l0) (fun x r => ∀ (i : Nat) (p : Bool), x = (l, area, (([] : List Int), ([] : List Int), ()), ((l.take i).map (lnN area), (l.take i).map (lnE area), ()), p, (i : Int), ()) → i ≤ l.length →
      r = some ((l.map (lnN area), l.map (lnE area), ()), (p && (l.drop i).all plain1), ())) (fun x => l.length - x.2.2.2.2.2.1.toNat) ?_
    · have := key (64 + l.length + ([] : List Int).length + ([] : List Int).length + ([] : List Int).length + ([] : List Int).length + (0 : Int).natAbs) (l, area, (([] : List Int), ([] : List Int), ()), (([] : List Int), ([] : List Int), ()), true, (0 : Int), ()) (by simp <;> omega) 0 true rfl (Nat.zero_le _)
      simpa using this
    · rintro x rec ih i p rfl hi
      unfold cadastreref19_Of.l0
      simp only
      by_cases hlt : i < l.length
      · obtain ⟨y, hy⟩ : ∃ y, l[i]? = some y := ⟨_, List.getElem?_eq_getElem hlt⟩
        rw [d_true (by omega), idx_nat, hy]
        simp only [Option.bind_some]
        rw [refNormal_eq]
        simp only [Option.bind_some]
        have hpl : (cond (p == true) (cond (((normV y).1 == 0) == false) (some (Cut.go (l, area, (([] : List Int), ([] : List Int), ()), ((l.take i).map (lnN area), (l.take i).map (lnE area), ()), ((normV y).1 == 2), (i : Int), ()))) (some (Cut.go (l, area, (([] : List Int), ([] : List Int), ()), ((l.take i).map (lnN area), (l.take i).map (lnE area), ()), true, (i : Int), ())))) (some (Cut.go (l, area, (([] : List Int), ([] : List Int), ()), ((l.take i).map (lnN area), (l.take i).map (lnE area), ()), false, (i : Int), ())))
            : Option (Cut ((List SValue.T) × Bool × ((List Int) × (List Int) × Unit) × ((List Int) × (List Int) × Unit) × Bool × Int × Unit) (SVec.T × Bool × Unit))) = some (Cut.go (l, area, (([] : List Int), ([] : List Int), ()), ((l.take i).map (lnN area), (l.take i).map (lnE area), ()), (p && plain1 y), (i : Int), ())) := by
          unfold plain1
          cases p
          · rfl
          · cases ((normV y).1 == 0) <;> rfl
        rw [hpl, cutBind_go]
        simp only
        rw [idx_nat, hy]
        simp only [Option.bind_some]
        rw [refLane_eq]
        simp only [Option.bind_some]
        rw [refPut_eq _ _ _ (by rw [List.length_map, List.length_take]; omega) (by rw [List.length_map, List.length_take]; omega)]
        simp only [Option.bind_some]
        rw [w64 (by omega) (by omega), ih _ (by simp only; omega) (i + 1) (p && plain1 y) ?_ hlt, drop_cons hy, List.all_cons, Bool.and_assoc]
        have ht : l.take (i + 1) = l.take i ++ [y] := by rw [List.take_add_one, hy]; rfl
        rw [ht, List.map_append, List.map_append]; rfl
      · rw [d_false (by omega), List.drop_of_length_le (by omega), List.take_of_length_le (by omega)]
        simp
  · rw [d_true (by omega), if_neg h]
end Go.Proofs.YtaldfmbnfnagjaaDoor.E
