/- Columns: what the program's Of comes to. -/
import Derived.Test.YtaldfmbnfnagjaaDoorEvCol
namespace Go.Proofs.YtaldfmbnfnagjaaDoor.E
set_option linter.unusedVariables false
set_option linter.unusedSimpArgs false
theorem set_next (pre : List Int) (m : Nat) (x : Int) : (pre ++ List.replicate (m + 1) 0).set pre.length x = (pre ++ [x]) ++ List.replicate m 0 := by
  rw [List.set_append_right _ _ (Nat.le_refl _), Nat.sub_self, List.replicate_succ, List.set_cons_zero, List.append_assoc]; rfl
/-- The lane that the program takes: of its own form, or as a number. -/
def laneP (area : Bool) (x : V5) : V5 := if area = true then normV x else toNumV x
theorem laneP_R (area : Bool) (x : V5) : lnN area x = (if (laneP area x).1 = 2 then (laneP area x).2.1 else 0) ∧ lnE area x = (if (laneP area x).1 = 2 then 0 else if (laneP area x).1 = 4 then (laneP area x).2.2.2.1 else 0) := by
  unfold lnN lnE laneR laneP
  have h0 : numV 0 = (2, 0, tx0, 0, ()) := rfl
  cases area with
  | false => rcases (toNumV_kind x).2 with h | h <;> simp [h]
  | true =>
    by_cases h2 : (normV x).1 = 2
    · simp [h2]
    · by_cases h4 : (normV x).1 = 4
      · simp [h4]
      · simp [h2, h4, h0]
theorem column_Of_eq (l : List V5) (area : Bool) : column_Of.f l area = some (if l.length ≤ 1000 then ((l.map (lnN area), l.map (lnE area), ()), l.all plain1, ()) else (([], [], ()), false, ())) := by
  unfold column_Of.f
  have hr := roomy_eq
  by_cases h : l.length ≤ 1000
  · rw [d_false (by omega), if_pos h, d_true (by omega), d_true (by omega), c_true (by simp), d_true (by omega), d_true (by omega), c_true (by simp)]
    have key := loop_ind (s := column_Of.l0) (fun x r => ∀ (i : Nat) (p : Bool) (pn pe : List Int), x = (area, (([] : List Int), ([] : List Int), ()), (pn ++ List.replicate (l.length - i) 0, pe ++ List.replicate (l.length - i) 0, ()), p, l, (l.length : Int), (i : Int), ()) → i ≤ l.length → pn.length = i → pe.length = i →
      r = some ((pn ++ (l.drop i).map (lnN area), pe ++ (l.drop i).map (lnE area), ()), (p && (l.drop i).all plain1), ())) (fun x => l.length - x.2.2.2.2.2.2.1.toNat) ?_
    · have := key (64 + ([] : List Int).length + ([] : List Int).length + (List.replicate ((l.length : Int).toNat) (0 : Int)).length + (List.replicate ((l.length : Int).toNat) (0 : Int)).length + l.length + (l.length : Int).natAbs + (0 : Int).natAbs)
        (area, (([] : List Int), ([] : List Int), ()), ((List.replicate ((l.length : Int).toNat) (0 : Int)), (List.replicate ((l.length : Int).toNat) (0 : Int)), ()), true, l, (l.length : Int), (0 : Int), ()) (by simp <;> omega) 0 true [] [] (by simp) (Nat.zero_le _) rfl rfl
      simpa using this
    · rintro x rec ih i p pn pe rfl hi hpn hpe
      unfold column_Of.l0
      simp only
      by_cases hlt : i < l.length
      · obtain ⟨y, hy⟩ : ∃ y, l[i]? = some y := ⟨_, List.getElem?_eq_getElem hlt⟩
        obtain ⟨d, hd⟩ : ∃ d, l.length - i = d + 1 := ⟨l.length - i - 1, by omega⟩
        rw [d_true (by omega), idx_nat, hy, hd]
        simp only [Option.bind_some]
        rw [Normal_eq]
        simp only [Option.bind_some]
        have hpl : ∀ A N E : List Int, (cond (p == true) (cond (((normV y).1 == 0) == false) (some (Cut.go (area, (([] : List Int), ([] : List Int), ()), (N, E, ()), ((normV y).1 == 2), (i : Int), ((normV y).1, (normV y).2.1, (normV y).2.2.1, (normV y).2.2.2.1, ()), l, (l.length : Int), (i : Int), ()))) (some (Cut.go (area, (([] : List Int), ([] : List Int), ()), (N, E, ()), true, (i : Int), ((normV y).1, (normV y).2.1, (normV y).2.2.1, (normV y).2.2.2.1, ()), l, (l.length : Int), (i : Int), ())))) (some (Cut.go (area, (([] : List Int), ([] : List Int), ()), (N, E, ()), false, (i : Int), ((normV y).1, (normV y).2.1, (normV y).2.2.1, (normV y).2.2.2.1, ()), l, (l.length : Int), (i : Int), ())))
            : Option (Cut (Bool × ((List Int) × (List Int) × Unit) × ((List Int) × (List Int) × Unit) × Bool × Int × (Int × Int × ByteArray × Int × Unit) × (List SValue.T) × Int × Int × Unit) (Cut (Bool × ((List Int) × (List Int) × Unit) × ((List Int) × (List Int) × Unit) × Bool × (List SValue.T) × Int × Int × Unit) (SVec.T × Bool × Unit)))) = some (Cut.go (area, (([] : List Int), ([] : List Int), ()), (N, E, ()), (p && plain1 y), (i : Int), ((normV y).1, (normV y).2.1, (normV y).2.2.1, (normV y).2.2.2.1, ()), l, (l.length : Int), (i : Int), ())) := by
          intro A N E
          unfold plain1
          cases p
          · rfl
          · cases ((normV y).1 == 0) <;> rfl
        rw [hpl [], cutBind_go]
        simp only
        rw [ToNum_eq]
        simp only [Option.bind_some]
        rw [show ((normV y).1, (normV y).2.1, (normV y).2.2.1, (normV y).2.2.2.1, ()) = normV y from rfl, toNumV_norm]
        rw [show ∀ N E : List Int, ∀ b : Bool, (cond (!area) (some (Cut.go (area, (([] : List Int), ([] : List Int), ()), (N, E, ()), b, (i : Int), ((toNumV y).1, (toNumV y).2.1, (toNumV y).2.2.1, (toNumV y).2.2.2.1, ()), l, (l.length : Int), (i : Int), ()))) (some (Cut.go (area, (([] : List Int), ([] : List Int), ()), (N, E, ()), b, (i : Int), ((normV y).1, (normV y).2.1, (normV y).2.2.1, (normV y).2.2.2.1, ()), l, (l.length : Int), (i : Int), ())))
            : Option (Cut (Bool × ((List Int) × (List Int) × Unit) × ((List Int) × (List Int) × Unit) × Bool × Int × (Int × Int × ByteArray × Int × Unit) × (List SValue.T) × Int × Int × Unit) (Cut (Bool × ((List Int) × (List Int) × Unit) × ((List Int) × (List Int) × Unit) × Bool × (List SValue.T) × Int × Int × Unit) (SVec.T × Bool × Unit)))) = some (Cut.go (area, (([] : List Int), ([] : List Int), ()), (N, E, ()), b, (i : Int), ((laneP area y).1, (laneP area y).2.1, (laneP area y).2.2.1, (laneP area y).2.2.2.1, ()), l, (l.length : Int), (i : Int), ())) from by
          intro N E b; unfold laneP; cases area <;> rfl]
        rw [cutBind_go]
        simp only
        have hN : (pn ++ List.replicate (d + 1) (0 : Int)).length = l.length := by rw [List.length_append, List.length_replicate]; omega
        have hE : (pe ++ List.replicate (d + 1) (0 : Int)).length = l.length := by rw [List.length_append, List.length_replicate]; omega
        have hs : ∀ q : List Int, q.length = i → ∀ a, (q ++ List.replicate (d + 1) 0).set ((i : Int)).toNat a = (q ++ [a]) ++ List.replicate d 0 := by
          intro q hq a; rw [show ((i : Int)).toNat = q.length by omega]; exact set_next q d a
        have hz : ∀ q : List Int, q ++ List.replicate (d + 1) (0 : Int) = (q ++ [0]) ++ List.replicate d 0 := by
          intro q; rw [List.replicate_succ, List.append_assoc]; rfl
        have hg : ∀ q : List Int, q.length = i → ∃ z, (q ++ List.replicate (d + 1) 0)[((i : Int)).toNat]? = some z := by
          intro q hq; exact ⟨_, List.getElem?_eq_getElem (by rw [List.length_append, List.length_replicate]; omega)⟩
        obtain ⟨zn, hzn⟩ := hg pn hpn
        obtain ⟨ze, hze⟩ := hg pe hpe
        have hd' : l.length - (i + 1) = d := by omega
        have go : ∀ a b : Int, lnN area y = a → lnE area y = b → rec (area, (([] : List Int), ([] : List Int), ()), ((pn ++ [a]) ++ List.replicate d 0, (pe ++ [b]) ++ List.replicate d 0, ()), (p && plain1 y), l, (l.length : Int), IntKind.i64.wrap ((i : Int) + 1), ()) =
            some ((pn ++ (l.drop i).map (lnN area), pe ++ (l.drop i).map (lnE area), ()), (p && (l.drop i).all plain1), ()) := by
          intro a b ha hb
          rw [w64 (by omega) (by omega), ih _ (by simp only; omega) (i + 1) (p && plain1 y) (pn ++ [a]) (pe ++ [b]) (by rw [hd']; rfl) hlt (by rw [List.length_append, hpn]; rfl) (by rw [List.length_append, hpe]; rfl)]
          rw [drop_cons hy, List.all_cons, List.map_cons, List.map_cons, ha, hb, Bool.and_assoc]
          simp
        obtain ⟨e1, e2⟩ := laneP_R area y
        by_cases h2 : (laneP area y).1 = 2
        · rw [if_pos h2] at e1 e2
          rw [c_true (by simp [h2]), d_true (by omega), d_true (by omega), hzn]
          simp only [Option.bind_some, cutBind_go]
          rw [hs pn hpn, hz pe]
          exact go _ _ e1 e2
        · rw [if_neg h2] at e1 e2
          by_cases h4 : (laneP area y).1 = 4
          · rw [if_pos h4] at e2
            rw [c_false (by simp [h2]), c_true (by simp [h4]), d_true (by omega), d_true (by omega), hze]
            simp only [Option.bind_some, cutBind_go]
            rw [hs pe hpe, hz pn]
            exact go _ _ e1 e2
          · rw [if_neg h4] at e2
            rw [c_false (by simp [h2]), c_false (by simp [h4]), cutBind_go, hz pn, hz pe]
            simp only [cutBind_go]
            exact go _ _ e1 e2
      · have : l.length - i = 0 := by omega
        rw [d_false (by omega), List.drop_of_length_le (by omega), this]
        simp
  · rw [d_true (by omega), if_neg h]
end Go.Proofs.YtaldfmbnfnagjaaDoor.E
