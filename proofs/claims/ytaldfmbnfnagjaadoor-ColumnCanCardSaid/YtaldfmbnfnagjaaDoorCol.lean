/- What the printed functions of columns come to: Can, Values, Of. -/
import Derived.Test.YtaldfmbnfnagjaaDoorValF
namespace Go.Proofs.YtaldfmbnfnagjaaDoor.Y
open Go.RowKit Go.Proofs.YtaldfmbnfnagjaaDoor.X Go.Proofs.YtaldfmbnfnagjaaDoorW.PrintWords Go.Proofs.YtaldfmbnfnagjaaDoorW.PrintLast Go.Proofs.YtaldfmbnfnagjaaDoorW.PrintMore
set_option linter.unusedVariables false
set_option linter.unusedSimpArgs false

theorem rd_nat (l : List Int) (i : Nat) : rd l (i : Int) = l.getD i 0 := rfl
def laneOK (p : Int × Int) : Bool := if p.2 = 0 then p.1 != -9223372036854775808 else (p.1 == 0 && (decide (1 ≤ p.2) && decide (p.2 ≤ 5)))
theorem laneOK_eq (a b : Int) : laneOK (a, b) = if b = 0 then a != -9223372036854775808 else (a == 0 && (decide (1 ≤ b) && decide (b ≤ 5))) := rfl
def canL (n e : List Int) : Bool := (n.length == e.length) && (decide (n.length ≤ 1000) && (n.zip e).all laneOK)
theorem zip_drop {n e : List Int} {i : Nat} (h1 : i < n.length) (h2 : i < e.length) : (n.zip e).drop i = (n.getD i 0, e.getD i 0) :: (n.zip e).drop (i + 1) := by
  have h : i < (n.zip e).length := by rw [List.length_zip]; omega
  rw [List.drop_eq_getElem_cons h]
  congr 1
  rw [List.getElem_zip, List.getD_eq_getElem?_getD, List.getD_eq_getElem?_getD, List.getElem?_eq_getElem h1, List.getElem?_eq_getElem h2]; rfl
theorem can_l0 (n e : List Int) (hl : n.length = e.length) (hm : n.length ≤ 1000) : ∀ (d i k : Nat), e.length - i = d → i ≤ e.length → d + 3 ≤ k →
    column_can.l0 k e (e.length : Int) (i : Int) n e = some (((n.zip e).drop i).all laneOK) := by
  intro d
  induction d with
  | zero =>
    intro i k hd hi hk
    obtain ⟨k, rfl⟩ : ∃ m, k = m + 1 := ⟨k - 1, by omega⟩
    rw [column_can.l0, if_neg (by omega), List.drop_of_length_le (by rw [List.length_zip]; omega)]; rfl
  | succ d ih =>
    intro i k hd hi hk
    obtain ⟨k, rfl⟩ : ∃ m, k = m + 1 := ⟨k - 1, by omega⟩
    have h := ih (i + 1) k (by omega) (by omega) (by omega)
    rw [column_can.l0, if_pos (by omega), if_pos (by omega), if_pos (by omega), w64 (by omega) (by omega), show (i : Int) + 1 = ((i + 1 : Nat) : Int) by omega, h]
    rw [zip_drop (n := n) (e := e) (i := i) (by omega) (by omega), List.all_cons, rd_nat, rd_nat, laneOK_eq]
    by_cases h0 : e.getD i 0 = 0
    · rw [if_pos h0, if_pos (by omega), fixCan_eq _ k (by omega), if_pos h0]
      simp only [Option.bind_some]
      by_cases hc : (n.getD i 0 != -9223372036854775808) = true
      · rw [if_pos hc, hc, Bool.true_and]
      · rw [if_neg hc, Bool.eq_false_iff.2 hc, Bool.false_and]
    · rw [if_neg h0, if_pos (by omega), if_neg h0]
      by_cases hn : n.getD i 0 = 0
      · rw [if_pos hn, hn]
        unfold value_ErrName.f value_errName.f
        simp only [Option.bind_some]
        by_cases he : 1 ≤ e.getD i 0 ∧ e.getD i 0 ≤ 5
        · rw [if_neg (fun hh => (nameOf_nil _).1 hh he), decide_eq_true he.1, decide_eq_true he.2]; rfl
        · rw [if_pos ((nameOf_nil _).2 he)]
          have : (decide (1 ≤ e.getD i 0) && decide (e.getD i 0 ≤ 5)) = false := by
            rw [Bool.and_eq_false_iff, decide_eq_false_iff_not, decide_eq_false_iff_not]; omega
          rw [this]; rfl
      · rw [if_neg hn, beq_eq_false_iff_ne.2 hn]; rfl
theorem can_eq (n e : List Int) (k : Nat) (hk : 1010 ≤ k) : column_can.f k n e = some (canL n e) := by
  unfold column_can.f canL
  obtain ⟨k, rfl⟩ : ∃ m, k = m + 1 := ⟨k - 1, by omega⟩
  by_cases h : n.length = e.length
  · rw [if_pos (by omega), column_can.j0, beq_iff_eq.2 h, Bool.true_and]
    by_cases hm : n.length ≤ 1000
    · rw [decide_eq_false (by omega), if_neg (by decide), decide_eq_true hm, Bool.true_and]
      exact can_l0 n e h hm e.length 0 k rfl (Nat.zero_le _) (by omega)
    · rw [decide_eq_true (by omega), if_pos rfl, decide_eq_false hm]; rfl
  · rw [if_neg (by omega), column_can.j0, if_pos rfl, beq_eq_false_iff_ne.2 h]; rfl
theorem Can_eq (n e : List Int) (k : Nat) (hk : 1010 ≤ k) : column_Can.f k n e = some (canL n e) := by
  unfold column_Can.f; rw [can_eq n e k hk]; rfl

theorem refcan_l0 (n e : List Int) (hl : n.length = e.length) (hm : n.length ≤ 1000) : ∀ (d i k : Nat), n.length - i = d → i ≤ n.length → 2 * d + 3 ≤ k →
    cadastreref19_Can.l0 k (i : Int) n e = some (((n.zip e).drop i).all laneOK) := by
  intro d
  induction d with
  | zero =>
    intro i k hd hi hk
    obtain ⟨k, rfl⟩ : ∃ m, k = m + 1 := ⟨k - 1, by omega⟩
    rw [cadastreref19_Can.l0, if_neg (by omega), List.drop_of_length_le (by rw [List.length_zip]; omega)]; rfl
  | succ d ih =>
    intro i k hd hi hk
    obtain ⟨k, rfl⟩ : ∃ m, k = m + 2 := ⟨k - 2, by omega⟩
    have h := ih (i + 1) k (by omega) (by omega) (by omega)
    have hj : ∀ b, cadastreref19_Can.j2 (k + 1) (i : Int) b n e = some (!b && ((if e.getD i 0 = 0 then true else (n.getD i 0 == 0 && (decide (1 ≤ e.getD i 0) && decide (e.getD i 0 ≤ 5)))) && ((n.zip e).drop (i + 1)).all laneOK)) := by
      intro b
      rw [cadastreref19_Can.j2]
      cases b with
      | true => rw [if_pos rfl]; rfl
      | false =>
        rw [if_neg (by decide), if_pos (by omega), if_pos (by omega), rd_nat, rd_nat, w64 (by omega) (by omega), show (i : Int) + 1 = ((i + 1 : Nat) : Int) by omega, h]
        by_cases h0 : e.getD i 0 = 0
        · rw [if_pos h0, if_pos h0]; simp
        · rw [if_neg h0, if_neg h0]
          by_cases h1 : e.getD i 0 < 1
          · rw [if_pos h1, decide_eq_false (show ¬ 1 ≤ e.getD i 0 by omega)]; simp
          · rw [if_neg h1, decide_eq_true (show 1 ≤ e.getD i 0 by omega)]
            by_cases h5 : e.getD i 0 > 5
            · rw [if_pos h5, decide_eq_false (show ¬ e.getD i 0 ≤ 5 by omega)]; simp
            · rw [if_neg h5, decide_eq_true (show e.getD i 0 ≤ 5 by omega), if_pos (by omega)]
              by_cases hn : n.getD i 0 = 0
              · rw [if_pos hn, hn]; simp
              · rw [if_neg hn, beq_eq_false_iff_ne.2 hn]; simp
    rw [cadastreref19_Can.l0, if_pos (by omega), if_pos (by omega), if_pos (by omega), rd_nat, rd_nat, zip_drop (n := n) (e := e) (i := i) (by omega) (by omega), List.all_cons, laneOK_eq]
    by_cases h0 : e.getD i 0 = 0
    · rw [if_pos h0, refCan_eq]
      simp only [Option.bind_some]
      rw [hj, if_pos h0, if_pos h0]; simp
    · rw [if_neg h0, hj, if_neg h0, if_neg h0]; simp
theorem refCanC_eq (n e : List Int) (k : Nat) (hk : 2010 ≤ k) : cadastreref19_Can.f k n e = some (canL n e) := by
  unfold cadastreref19_Can.f canL
  obtain ⟨k, rfl⟩ : ∃ m, k = m + 1 := ⟨k - 1, by omega⟩
  by_cases h : n.length = e.length
  · rw [if_pos (by omega), cadastreref19_Can.j0, beq_iff_eq.2 h, Bool.true_and]
    by_cases hm : n.length ≤ 1000
    · rw [decide_eq_false (by omega), if_neg (by decide), decide_eq_true hm, Bool.true_and]
      exact refcan_l0 n e h hm n.length 0 k rfl (Nat.zero_le _) (by omega)
    · rw [decide_eq_true (by omega), if_pos rfl, decide_eq_false hm]; rfl
  · rw [if_neg (by omega), cadastreref19_Can.j0, if_pos rfl, beq_eq_false_iff_ne.2 h]; rfl

/-! ### lanes as values -/
def ofV (v : V4) : S33 := ⟨v.1, v.2.1, v.2.2.1, v.2.2.2⟩
def vof (x : S33) : V4 := (x.f0, x.f1, x.f2, x.f3)
def laneVal (p : Int × Int) : V4 := if p.2 = 0 then numV p.1 else normV (4, 0, tx0, p.2)
theorem values_l0 (n e : List Int) (hl : n.length = e.length) (hm : n.length ≤ 1000) : ∀ (d i k : Nat) (acc : List S33), e.length - i = d → i ≤ e.length → acc.length = i → d + 3 ≤ k →
    column_Values.l0 k acc e (e.length : Int) (i : Int) n e = some (acc ++ ((n.zip e).drop i).map fun p => ofV (laneVal p)) := by
  intro d
  induction d with
  | zero =>
    intro i k acc hd hi ha hk
    obtain ⟨k, rfl⟩ : ∃ m, k = m + 1 := ⟨k - 1, by omega⟩
    rw [column_Values.l0, if_neg (by omega), List.drop_of_length_le (by rw [List.length_zip]; omega)]; simp
  | succ d ih =>
    intro i k acc hd hi ha hk
    obtain ⟨k, rfl⟩ : ∃ m, k = m + 1 := ⟨k - 1, by omega⟩
    rw [column_Values.l0, if_pos (by omega), if_pos (by omega), if_pos (by omega), w64 (by omega) (by omega), show (i : Int) + 1 = ((i + 1 : Nat) : Int) by omega]
    rw [zip_drop (n := n) (e := e) (i := i) (by omega) (by omega), List.map_cons, rd_nat, rd_nat]
    unfold laneVal
    by_cases h0 : e.getD i 0 = 0
    · rw [if_pos h0, if_pos (by omega), Num_eq _ k (by omega)]
      simp only [Option.bind_some]
      rw [if_pos (by omega), ih (i + 1) k _ (by omega) (by omega) (by rw [List.length_append]; simp; omega) (by omega), if_pos h0]
      simp [ofV, laneVal]
    · rw [if_neg h0, Err_eq _ k (by omega)]
      simp only [Option.bind_some]
      rw [if_pos (by omega), ih (i + 1) k _ (by omega) (by omega) (by rw [List.length_append]; simp; omega) (by omega), if_neg h0]
      simp [ofV, laneVal]
theorem Values_eq (n e : List Int) (k : Nat) (hk : 1010 ≤ k) : column_Values.f k n e = some (if canL n e = true then (n.zip e).map fun p => ofV (laneVal p) else []) := by
  unfold column_Values.f
  rw [can_eq n e k hk]
  simp only [Option.bind_some]
  by_cases hc : canL n e = true
  · have h := hc
    simp only [canL, Bool.and_eq_true, beq_iff_eq, decide_eq_true_eq] at h
    rw [if_pos hc, if_pos hc]
    have := values_l0 n e h.1 h.2.1 e.length 0 k [] rfl (Nat.zero_le _) rfl (by omega)
    rw [List.drop_zero, List.nil_append] at this
    exact this
  · rw [if_neg hc, if_neg hc]
theorem At_eq (n e : List Int) (i : Nat) (h1 : i < n.length) (h2 : i < e.length) : cadastreref19_At.f n e (i : Int) = some (laneVal (n.getD i 0, e.getD i 0)) := by
  unfold cadastreref19_At.f laneVal
  rw [if_pos (by omega), if_pos (by omega), rd_nat, rd_nat]
  by_cases h0 : e.getD i 0 = 0
  · rw [if_pos h0, if_pos (by omega), refNum_eq, if_pos h0]; rfl
  · rw [if_neg h0, refErr_eq, if_neg h0]; rfl

/-! ### values as a column -/
def lane (area : Bool) (x : S33) : V4 := if area = true then normV (vof x) else toNumV (normV (vof x))
def lnN (area : Bool) (x : S33) : Int := if (lane area x).1 = 2 then (lane area x).2.1 else 0
def lnE (area : Bool) (x : S33) : Int := if (lane area x).1 = 2 then 0 else if (lane area x).1 = 4 then (lane area x).2.2.2 else 0
def plain1 (x : S33) : Bool := (normV (vof x)).1 == 0 || (normV (vof x)).1 == 2
theorem set_next (pre : List Int) (m : Nat) (x : Int) : (pre ++ List.replicate (m + 1) 0).set pre.length x = (pre ++ [x]) ++ List.replicate m 0 := by
  rw [List.set_append_right _ _ (Nat.le_refl _), Nat.sub_self, List.replicate_succ, List.set_cons_zero, List.append_assoc]; rfl
theorem of_l0 (area : Bool) (l : List S33) (hl : l.length ≤ 1000) : ∀ (d i k : Nat) (plain : Bool) (pn pe : List Int), l.length - i = d → i ≤ l.length → pn.length = i → pe.length = i → 3 * d + 5 ≤ k →
    column_Of.l0 k area plain l (l.length : Int) (i : Int) (pn ++ List.replicate d 0) (pe ++ List.replicate d 0) =
      some (pn ++ (l.drop i).map (lnN area), pe ++ (l.drop i).map (lnE area), plain && (l.drop i).all plain1) := by
  intro d
  induction d with
  | zero =>
    intro i k plain pn pe hd hi hpn hpe hk
    obtain ⟨k, rfl⟩ : ∃ m, k = m + 1 := ⟨k - 1, by omega⟩
    rw [column_Of.l0, if_neg (by omega), List.drop_of_length_le (by omega)]; simp
  | succ d ih =>
    intro i k plain pn pe hd hi hpn hpe hk
    obtain ⟨k, rfl⟩ : ∃ m, k = m + 3 := ⟨k - 3, by omega⟩
    have hil : i < l.length := by omega
    obtain ⟨x, hx⟩ : ∃ x, rd_T33 l (i : Int) = x := ⟨_, rfl⟩
    have hdr : l.drop i = x :: l.drop (i + 1) := by
      rw [List.drop_eq_getElem_cons hil, ← hx]
      unfold rd_T33
      rw [show ((i : Int)).toNat = i by omega, List.getD_eq_getElem?_getD, List.getElem?_eq_getElem hil]; rfl
    rw [column_Of.l0, if_pos (by omega), if_pos (by omega), if_pos (by omega), hx, Normal_eq _ _ _ _ (k + 2) (by omega)]
    simp only [Option.bind_some]
    rw [show (x.f0, x.f1, x.f2, x.f3) = vof x from rfl]
    -- what the two joins come to
    have hj2 : ∀ (p : Bool) (v : V4), (v = lane area x) → column_Of.j2 (k + 1) area p (i : Int) l (l.length : Int) (i : Int) (pn ++ List.replicate (d + 1) 0) (pe ++ List.replicate (d + 1) 0) v.1 v.2.1 v.2.2.1 v.2.2.2 =
        some (pn ++ (l.drop i).map (lnN area), pe ++ (l.drop i).map (lnE area), p && (l.drop (i + 1)).all plain1) := by
      intro p v hv
      subst hv
      have hn : (pn ++ List.replicate (d + 1) (0 : Int)).length = l.length := by rw [List.length_append, List.length_replicate]; omega
      have he : (pe ++ List.replicate (d + 1) (0 : Int)).length = l.length := by rw [List.length_append, List.length_replicate]; omega
      have go : ∀ a b : Int, lnN area x = a → lnE area x = b → column_Of.l0 k area p l (l.length : Int) ((i + 1 : Nat) : Int) ((pn ++ [a]) ++ List.replicate d 0) ((pe ++ [b]) ++ List.replicate d 0) =
          some (pn ++ (l.drop i).map (lnN area), pe ++ (l.drop i).map (lnE area), p && (l.drop (i + 1)).all plain1) := by
        intro a b ha hb
        rw [ih (i + 1) k p (pn ++ [a]) (pe ++ [b]) (by omega) (by omega) (by rw [List.length_append]; simp; omega) (by rw [List.length_append]; simp; omega) (by omega)]
        rw [hdr, List.map_cons, List.map_cons, ha, hb]; simp
      rw [column_Of.j2, hn, he, w64 (x := (i : Int) + 1) (by omega) (by omega), show (i : Int) + 1 = ((i + 1 : Nat) : Int) by omega]
      have hs : ∀ q : List Int, q.length = i → ∀ a, (q ++ List.replicate (d + 1) 0).set ((i : Int)).toNat a = (q ++ [a]) ++ List.replicate d 0 := by
        intro q hq a; rw [show ((i : Int)).toNat = q.length by omega]; exact set_next q d a
      have hz : ∀ q : List Int, q ++ List.replicate (d + 1) (0 : Int) = (q ++ [0]) ++ List.replicate d 0 := by
        intro q; rw [List.replicate_succ, List.append_assoc]; rfl
      by_cases h2 : (lane area x).1 = 2
      · rw [if_pos h2, if_pos (by omega), if_pos (by omega), hs pn hpn, hz pe]
        exact go _ _ (by unfold lnN; rw [if_pos h2]) (by unfold lnE; rw [if_pos h2])
      · rw [if_neg h2]
        by_cases h4 : (lane area x).1 = 4
        · rw [if_pos h4, if_pos (by omega), if_pos (by omega), hs pe hpe, hz pn]
          exact go _ _ (by unfold lnN; rw [if_neg h2]) (by unfold lnE; rw [if_neg h2, if_pos h4])
        · rw [if_neg h4, hz pn, hz pe]
          exact go _ _ (by unfold lnN; rw [if_neg h2]) (by unfold lnE; rw [if_neg h2, if_neg h4])
    have hj1 : ∀ p : Bool, column_Of.j1 (k + 2) area p (i : Int) l (l.length : Int) (i : Int) (pn ++ List.replicate (d + 1) 0) (pe ++ List.replicate (d + 1) 0) (normV (vof x)).1 (normV (vof x)).2.1 (normV (vof x)).2.2.1 (normV (vof x)).2.2.2 =
        some (pn ++ (l.drop i).map (lnN area), pe ++ (l.drop i).map (lnE area), p && (l.drop (i + 1)).all plain1) := by
      intro p
      rw [column_Of.j1]
      by_cases ha : area = true
      · rw [if_pos ha]
        exact hj2 p (normV (vof x)) (by unfold lane; rw [if_pos ha])
      · rw [if_neg ha, ToNum_eq _ _ _ _ (k + 1) (by omega)]
        simp only [Option.bind_some]
        exact hj2 p (toNumV (normV (vof x))) (by unfold lane; rw [if_neg ha])
    rw [hdr, List.all_cons, ← hdr]
    unfold plain1
    by_cases hp : plain = true
    · rw [if_pos hp, hp]
      by_cases h0 : (normV (vof x)).1 = 0
      · rw [if_pos h0, hj1, h0]; rfl
      · rw [if_neg h0, hj1, beq_eq_false_iff_ne.2 h0, Bool.false_or]; rfl
    · rw [if_neg hp, hj1, Bool.eq_false_iff.2 hp]; rfl
theorem Of_eq (l : List S33) (area : Bool) (k : Nat) (hk : 3010 ≤ k) :
    column_Of.f k l area = some (if l.length ≤ 1000 then (l.map (lnN area), l.map (lnE area), l.all plain1) else ([], [], false)) := by
  unfold column_Of.f
  by_cases h : l.length ≤ 1000
  · rw [if_neg (by omega), if_pos (by omega), if_pos (by omega), if_pos h]
    have := of_l0 area l h l.length 0 k true [] [] rfl (Nat.zero_le _) rfl rfl (by omega)
    simp only [List.drop_zero, List.nil_append, Bool.true_and] at this
    rw [show ((l.length : Int)).toNat = l.length by omega]
    exact this
  · rw [if_pos (by omega), if_neg h]

theorem lives19 (k : Nat) (hk : 3010 ≤ k) : cadastrelaw19_lives.f k = some true := by
  unfold cadastrelaw19_lives.f
  rw [refNum_eq, refText_eq]
  simp only [Option.bind_some]
  have hx : numeralV (⟨#[120]⟩ : ByteArray) = none := by
    unfold numeralV
    have : parseL (⟨#[120]⟩ : ByteArray).data.toList = (0, 0) := by
      unfold parseL
      rw [if_neg (by decide), show (⟨#[120]⟩ : ByteArray).data.toList = [120] from rfl, cut_miss _ (by decide)]
      exact parse3_bad _ _ _ _ (.inl (by decide))
    rw [this, if_neg (by decide), if_neg (by decide)]
  have h1 : lane false (⟨2, 10000, tx0, 0⟩ : S33) = (2, 10000, tx0, 0) := rfl
  have h2 : lane false (⟨0, 0, tx0, 0⟩ : S33) = (2, 0, tx0, 0) := rfl
  have h3 : lane false (⟨3, 0, (⟨#[120]⟩ : ByteArray), 0⟩ : S33) = (4, 0, tx0, 2) := by
    unfold lane toNumV
    rw [if_neg (by decide)]
    have e : normV (normV (vof (⟨3, 0, (⟨#[120]⟩ : ByteArray), 0⟩ : S33))) = (3, 0, (⟨#[120]⟩ : ByteArray), 0) := rfl
    rw [e, if_neg (by decide), if_neg (by decide), if_pos rfl, hx]; rfl
  rw [show numV 10000 = (2, 10000, tx0, 0) from rfl, show textV (⟨#[120]⟩ : ByteArray) = (3, 0, (⟨#[120]⟩ : ByteArray), 0) from rfl, show (⟨#[]⟩ : ByteArray) = tx0 from rfl]
  rw [Of_eq _ _ k hk, if_pos (by decide)]
  simp only [Option.bind_some, List.map_cons, List.map_nil, lnN, lnE, h1, h2, h3]
  rw [Can_eq _ _ k (by omega)]
  rfl
end Go.Proofs.YtaldfmbnfnagjaaDoor.Y
