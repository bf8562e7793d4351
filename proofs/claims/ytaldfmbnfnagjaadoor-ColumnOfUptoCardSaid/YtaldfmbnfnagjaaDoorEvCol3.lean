/- Columns: Can, Values, the reference's Same; the small living call. -/
import Derived.Test.YtaldfmbnfnagjaaDoorEvCol2
namespace Go.Proofs.YtaldfmbnfnagjaaDoor.E
set_option linter.unusedVariables false
set_option linter.unusedSimpArgs false
def laneOK (p : Int × Int) : Bool := if p.2 = 0 then p.1 != -9223372036854775808 else (p.1 == 0 && (decide (1 ≤ p.2) && decide (p.2 ≤ 5)))
theorem laneOK_eq (a b : Int) : laneOK (a, b) = if b = 0 then a != -9223372036854775808 else (a == 0 && (decide (1 ≤ b) && decide (b ≤ 5))) := rfl
def canL (n e : List Int) : Bool := (n.length == e.length) && (decide (n.length ≤ 1000) && (n.zip e).all laneOK)
theorem zip_get {n e : List Int} {i : Nat} {a b : Int} (h1 : n[i]? = some a) (h2 : e[i]? = some b) : (n.zip e)[i]? = some (a, b) := by
  rw [List.getElem?_zip_eq_some]; exact ⟨h1, h2⟩
theorem column_can_eq (n e : List Int) : column_can.f (n, e, ()) = some (canL n e, ()) := by
  unfold column_can.f canL
  simp only
  by_cases h : n.length = e.length
  · rw [c_true (b := (((n.length : Int) != (e.length : Int)) == false)) (by simp [h]), beq_iff_eq.2 h, Bool.true_and]
    by_cases hm : n.length ≤ 1000
    · rw [d_false (by omega), decide_eq_true hm, Bool.true_and, cutBind_go]
      simp only
      have key := loop_ind (s := column_can.l0) (fun x r => ∀ i : Nat, x = ((n, e, ()), e, (e.length : Int), (i : Int), ()) → i ≤ e.length → r = some (((n.zip e).drop i).all laneOK, ())) (fun x => e.length - x.2.2.2.1.toNat) ?_
      · have := key (64 + n.length + e.length + e.length + (e.length : Int).natAbs + (0 : Int).natAbs) ((n, e, ()), e, (e.length : Int), 0, ()) (by simp <;> omega) 0 rfl (Nat.zero_le _)
        simpa using this
      · rintro x rec ih i rfl hi
        unfold column_can.l0
        simp only
        by_cases hlt : i < e.length
        · obtain ⟨b, hb⟩ : ∃ b, e[i]? = some b := ⟨_, List.getElem?_eq_getElem hlt⟩
          obtain ⟨a, ha⟩ : ∃ a, n[i]? = some a := ⟨_, List.getElem?_eq_getElem (by omega)⟩
          have hrec := ih ((n, e, ()), e, (e.length : Int), IntKind.i64.wrap ((i : Int) + 1), ()) (by simp only; rw [w64 (by omega) (by omega)]; omega) (i + 1) (by rw [w64 (by omega) (by omega)]; rfl) hlt
          rw [d_true (by omega), idx_nat, idx_nat, ha, hb, hrec]
          simp only [Option.bind_some]
          rw [drop_cons (zip_get ha hb), List.all_cons, laneOK_eq, fix_Can_eq]
          simp only [Option.bind_some]
          unfold value_ErrName.f
          obtain ⟨t, ht, hn⟩ := errName_eq b
          rw [ht]
          simp only [Option.bind_some, empty_eq]
          by_cases h0 : b = 0
          · rw [h0, c_true (by rfl), if_pos rfl]
            cases hc : (a != -9223372036854775808)
            · rw [c_false (by rfl), Bool.false_and]
            · rw [c_true (by rfl), c_false (by rfl), Bool.true_and]
          · rw [c_false (by simp [h0]), c_true (by simp [h0]), if_neg h0]
            by_cases hz : a = 0
            · rw [hz, c_true (by rfl)]
              by_cases he : 1 ≤ b ∧ b ≤ 5
              · rw [c_false (by rw [beq_eq_false_iff_ne]; exact fun h => (hn.1 h) he), decide_eq_true he.1, decide_eq_true he.2]; rfl
              · rw [c_true (by rw [beq_iff_eq]; exact hn.2 he)]
                have : (decide (1 ≤ b) && decide (b ≤ 5)) = false := by rw [Bool.and_eq_false_iff, decide_eq_false_iff_not, decide_eq_false_iff_not]; omega
                rw [this]; rfl
            · rw [c_false (by simp [hz]), beq_eq_false_iff_ne.2 hz]; rfl
        · rw [d_false (by omega), List.drop_of_length_le (by rw [List.length_zip]; omega)]; rfl
    · rw [d_true (by omega), decide_eq_false hm, cutBind_out]; rfl
  · rw [c_false (b := (((n.length : Int) != (e.length : Int)) == false)) (by simp; omega), beq_eq_false_iff_ne.2 h, cutBind_out]; rfl
theorem column_Can_eq (n e : List Int) : column_Can.f (n, e, ()) = some (canL n e, ()) := by unfold column_Can.f; rw [column_can_eq]; rfl
theorem Num_eq (n : Int) : value_Num.f n = some (numV n, ()) := by unfold value_Num.f; rw [number_eq n]; rfl
theorem Err_eq (e : Int) : value_Err.f e = some (errV (okE e), ()) := by unfold value_Err.f; rw [normal_eq]; rfl
def laneVal (p : Int × Int) : V5 := if p.2 = 0 then numV p.1 else errV (okE p.2)
theorem Values_eq (n e : List Int) : column_Values.f (n, e, ()) = some (if canL n e = true then (n.zip e).map laneVal else [], ()) := by
  unfold column_Values.f
  rw [column_can_eq]
  simp only [Option.bind_some]
  by_cases hc : canL n e = true
  · have h := hc
    simp only [canL, Bool.and_eq_true, beq_iff_eq, decide_eq_true_eq] at h
    have hr := roomy_eq
    rw [hc, c_false (by rfl), if_pos rfl]
    have key := loop_ind (s := column_Values.l0) (fun x r => ∀ (i : Nat) (acc : List V5), x = ((n, e, ()), acc, e, (e.length : Int), (i : Int), ()) → i ≤ e.length → acc.length = i → r = some (acc ++ ((n.zip e).drop i).map laneVal, ())) (fun x => e.length - x.2.2.2.2.1.toNat) ?_
    · have := key (64 + n.length + e.length + ([] : List SValue.T).length + e.length + (e.length : Int).natAbs + (0 : Int).natAbs) ((n, e, ()), [], e, (e.length : Int), 0, ()) (by simp <;> omega) 0 [] rfl (Nat.zero_le _) rfl
      simpa using this
    · rintro x rec ih i acc rfl hi ha0
      unfold column_Values.l0
      simp only
      by_cases hlt : i < e.length
      · obtain ⟨b, hb⟩ : ∃ b, e[i]? = some b := ⟨_, List.getElem?_eq_getElem hlt⟩
        obtain ⟨a, ha⟩ : ∃ a, n[i]? = some a := ⟨_, List.getElem?_eq_getElem (by omega)⟩
        rw [d_true (by omega), idx_nat, idx_nat, ha, hb]
        simp only [Option.bind_some]
        rw [drop_cons (zip_get ha hb), List.map_cons, w64 (by omega) (by omega), show (i : Int) + 1 = ((i + 1 : Nat) : Int) from rfl, Err_eq, Num_eq]
        simp only [Option.bind_some]
        by_cases h0 : b = 0
        · rw [c_false (by simp [h0]), d_true (by simp; omega), ih _ (by simp only; omega) (i + 1) (acc ++ [numV a]) rfl hlt (by simp [ha0])]
          rw [show laneVal (a, b) = numV a from by unfold laneVal; rw [if_pos h0]]; simp
        · rw [c_true (by simp [h0]), d_true (by simp; omega), ih _ (by simp only; omega) (i + 1) (acc ++ [errV (okE b)]) rfl hlt (by simp [ha0])]
          rw [show laneVal (a, b) = errV (okE b) from by unfold laneVal; rw [if_neg h0]]; simp
      · rw [d_false (by omega), List.drop_of_length_le (by rw [List.length_zip]; omega)]; simp
  · rw [c_true (by simp [hc]), if_neg hc]
/-- Two lists, place by place. -/
theorem take_step {a b : List Int} {i : Nat} {u v : Int} (hu : a[i]? = some u) (hv : b[i]? = some v) (h : a.take i = b.take i) (e : u = v) : a.take (i + 1) = b.take (i + 1) := by
  rw [List.take_add_one, List.take_add_one, hu, hv, h, e]
theorem refSame_eq (n e n' e' : List Int) (h1 : n.length ≤ 1048576) (h2 : e.length ≤ 1048576) : cadastreref19_Same.f (n, e, ()) (n', e', ()) = some (decide (n = n' ∧ e = e'), ()) := by
  unfold cadastreref19_Same.f
  simp only
  by_cases hn : n.length = n'.length
  · rw [c_true (b := (((n.length : Int) != (n'.length : Int)) == false)) (by simp [hn])]
    by_cases he : e.length = e'.length
    · rw [c_false (b := ((e.length : Int) != (e'.length : Int))) (by simp [he]), cutBind_go]
      simp only
      have k0 := loop_ind (s := cadastreref19_Same.l0) (fun x r => ∀ i : Nat, x = ((n, e, ()), (n', e', ()), (i : Int), ()) → i ≤ n.length → n.take i = n'.take i → r = if n = n' then some (.go ((n, e, ()), (n', e', ()), ())) else some (.out (false, ()))) (fun x => n.length - x.2.2.1.toNat) ?_
      · have k1 := loop_ind (s := cadastreref19_Same.l1) (fun x r => ∀ i : Nat, x = ((n, e, ()), (n', e', ()), (i : Int), ()) → i ≤ e.length → e.take i = e'.take i → r = some (decide (e = e'), ())) (fun x => e.length - x.2.2.1.toNat) ?_
        · have r0 := k0 (64 + n.length + e.length + n'.length + e'.length + (0 : Int).natAbs) ((n, e, ()), (n', e', ()), 0, ()) (by simp <;> omega) 0 rfl (Nat.zero_le _) rfl
          have r1 := k1 (64 + n.length + e.length + n'.length + e'.length + (0 : Int).natAbs) ((n, e, ()), (n', e', ()), 0, ()) (by simp <;> omega) 0 rfl (Nat.zero_le _) rfl
          rw [r0]
          by_cases hh : n = n'
          · rw [if_pos hh, cutBind_go]
            simp only
            rw [r1]; simp [hh]
          · rw [if_neg hh, cutBind_out]; simp [hh]
        · rintro x rec ih i rfl hi ht
          unfold cadastreref19_Same.l1
          simp only
          by_cases hlt : i < e.length
          · obtain ⟨u, hu⟩ : ∃ u, e[i]? = some u := ⟨_, List.getElem?_eq_getElem hlt⟩
            obtain ⟨v, hv⟩ : ∃ v, e'[i]? = some v := ⟨_, List.getElem?_eq_getElem (by omega)⟩
            rw [d_true (by omega), idx_nat, idx_nat, hu, hv]
            simp only [Option.bind_some]
            by_cases huv : u = v
            · rw [c_false (by simp [huv]), w64 (by omega) (by omega), show (i : Int) + 1 = ((i + 1 : Nat) : Int) from rfl, ih _ (by simp only; omega) (i + 1) rfl hlt (take_step hu hv ht huv)]
            · rw [c_true (by simp [huv])]
              have : ¬ e = e' := by rintro rfl; rw [hu] at hv; exact huv (Option.some.inj hv)
              rw [decide_eq_false this]
          · rw [d_false (by omega)]
            have : e = e' := by rw [List.take_of_length_le (by omega), List.take_of_length_le (by omega)] at ht; exact ht
            rw [decide_eq_true this]
      · rintro x rec ih i rfl hi ht
        unfold cadastreref19_Same.l0
        simp only
        by_cases hlt : i < n.length
        · obtain ⟨u, hu⟩ : ∃ u, n[i]? = some u := ⟨_, List.getElem?_eq_getElem hlt⟩
          obtain ⟨v, hv⟩ : ∃ v, n'[i]? = some v := ⟨_, List.getElem?_eq_getElem (by omega)⟩
          rw [d_true (by omega), idx_nat, idx_nat, hu, hv]
          simp only [Option.bind_some]
          by_cases huv : u = v
          · rw [c_false (by simp [huv]), w64 (by omega) (by omega), show (i : Int) + 1 = ((i + 1 : Nat) : Int) from rfl, ih _ (by simp only; omega) (i + 1) rfl hlt (take_step hu hv ht huv)]
          · rw [c_true (by simp [huv])]
            have : ¬ n = n' := by rintro rfl; rw [hu] at hv; exact huv (Option.some.inj hv)
            rw [if_neg this]
        · rw [d_false (by omega)]
          have : n = n' := by rw [List.take_of_length_le (by omega), List.take_of_length_le (by omega)] at ht; exact ht
          rw [if_pos this]
    · rw [c_true (b := ((e.length : Int) != (e'.length : Int))) (by simp; omega), cutBind_out]
      have : ¬ (n = n' ∧ e = e') := by rintro ⟨_, rfl⟩; exact he rfl
      rw [decide_eq_false this]
  · rw [c_false (b := (((n.length : Int) != (n'.length : Int)) == false)) (by simp; omega), cutBind_out]
    have : ¬ (n = n' ∧ e = e') := by rintro ⟨rfl, _⟩; exact hn rfl
    rw [decide_eq_false this]
/-- A value's lane can be, and is told back. -/
theorem lane_ok (area : Bool) (x : V5) : laneOK (lnN area x, lnE area x) = true ∧ laneVal (lnN area x, lnE area x) = laneR area x := by
  unfold lnN lnE laneVal
  obtain ⟨hn, hk⟩ := laneR_kind area x
  generalize laneR area x = z at hn hk ⊢
  rw [laneOK_eq]
  cases hn with
  | blank => exact absurd hk (by decide)
  | bool b => cases b <;> exact absurd hk (by decide)
  | num n h =>
    refine ⟨?_, ?_⟩
    · show (if (0 : Int) = 0 then n != -9223372036854775808 else _) = true
      rw [if_pos rfl]; simp [h]
    · show (if (0 : Int) = 0 then numV n else _) = _
      rw [if_pos rfl]; unfold numV; rw [if_neg h]
  | text s h => rcases hk with h | h <;> exact absurd h (by show ¬ (3 : Int) = _; decide)
  | err e h =>
    have h0 : e ≠ 0 := by omega
    refine ⟨?_, ?_⟩
    · show (if e = 0 then _ else ((0 : Int) == 0 && (decide (1 ≤ e) && decide (e ≤ 5)))) = true
      rw [if_neg h0, decide_eq_true h.1, decide_eq_true h.2]; rfl
    · show (if e = 0 then _ else errV (okE e)) = _
      rw [if_neg h0]; unfold okE; rw [if_pos h]
theorem can_lanes (area : Bool) (l : List V5) (h : l.length ≤ 1000) : canL (l.map (lnN area)) (l.map (lnE area)) = true := by
  unfold canL
  rw [List.length_map, List.length_map, decide_eq_true h, beq_self_eq_true, Bool.true_and, Bool.true_and, List.zip_map', List.all_map, List.all_eq_true]
  intro x _
  exact (lane_ok area x).1
theorem lives19 : cadastrelaw19_lives.f = some (true, ()) := by
  unfold cadastrelaw19_lives.f
  rw [refNum_eq, refText_eq]
  simp only [Option.bind_some]
  have hx : numeralV (⟨#[120]⟩ : ByteArray) = none := by
    unfold numeralV
    have : parseL (⟨#[120]⟩ : ByteArray).data.toList = (0, 0) := by
      unfold parseL
      rw [if_neg (by decide), show (⟨#[120]⟩ : ByteArray).data.toList = [120] from rfl, cut_miss _ (by decide)]
      exact parse3_bad _ _ _ _ (.inl (by decide))
    rw [this, if_neg (by decide), if_neg (by decide)]
  have h1 : laneR false (2, 10000, tx0, 0, ()) = (2, 10000, tx0, 0, ()) := rfl
  have h2 : laneR false (0, 0, tx0, 0, ()) = (2, 0, tx0, 0, ()) := rfl
  have h3 : laneR false (3, 0, (⟨#[120]⟩ : ByteArray), 0, ()) = (4, 0, tx0, 2, ()) := by
    unfold laneR toNumV
    rw [if_neg (by decide)]
    have e : normV (3, 0, (⟨#[120]⟩ : ByteArray), 0, ()) = (3, 0, (⟨#[120]⟩ : ByteArray), 0, ()) := rfl
    rw [e, if_neg (by decide), if_neg (by decide), if_pos rfl, hx]; rfl
  rw [show numV 10000 = (2, 10000, tx0, 0, ()) from rfl, show textV (⟨#[120]⟩ : ByteArray) = (3, 0, (⟨#[120]⟩ : ByteArray), 0, ()) from rfl, show (⟨#[]⟩ : ByteArray) = tx0 from rfl]
  rw [column_Of_eq, if_pos (by decide)]
  simp only [Option.bind_some, List.map_cons, List.map_nil, lnN, lnE, h1, h2, h3]
  rw [column_Can_eq]
  rfl
end Go.Proofs.YtaldfmbnfnagjaaDoor.E
