/- Values: what the printed functions of the program and of the reference come to (normV, toNumV). -/
import Derived.Test.YtaldfmbnfnagjaaDoorEvRef3c
namespace Go.Proofs.YtaldfmbnfnagjaaDoor.E
set_option linter.unusedVariables false
set_option linter.unusedSimpArgs false
abbrev V5 := Int × Int × ByteArray × Int × Unit
def tx0 : ByteArray := ⟨#[]⟩
def errV (e : Int) : V5 := (4, 0, tx0, e, ())
def numV (n : Int) : V5 := if n = -9223372036854775808 then errV 4 else (2, n, tx0, 0, ())
def textV (s : ByteArray) : V5 := if 300 < s.size then errV 2 else (3, 0, s, 0, ())
def boolV (b : Bool) : V5 := (1, if b then 1 else 0, tx0, 0, ())
def okE (e : Int) : Int := if 1 ≤ e ∧ e ≤ 5 then e else 2
def normV (v : V5) : V5 :=
  if v.1 = 1 then boolV (v.2.1 != 0) else if v.1 = 2 then numV v.2.1 else if v.1 = 3 then textV v.2.2.1
  else if v.1 = 4 then errV (okE v.2.2.2.1) else (0, 0, tx0, 0, ())
/-- A text as a number, if it is one. -/
def numeralV (s : ByteArray) : Option V5 :=
  if (parseL s.data.toList).2 = 1 then some (numV (parseL s.data.toList).1) else if (parseL s.data.toList).2 = 2 then some (errV 4) else none
def toNumV (v : V5) : V5 :=
  if (normV v).1 = 1 then numV ((normV v).2.1 * 10000) else if (normV v).1 = 0 then numV 0
  else if (normV v).1 = 3 then (numeralV (normV v).2.2.1).getD (errV 2) else normV v
/-- What a value in its own form is: of its kind, and no more. -/
inductive Nice : V5 → Prop
  | blank : Nice (0, 0, tx0, 0, ())
  | bool (b : Bool) : Nice (boolV b)
  | num (n : Int) (h : n ≠ -9223372036854775808) : Nice (2, n, tx0, 0, ())
  | text (s : ByteArray) (h : s.size ≤ 300) : Nice (3, 0, s, 0, ())
  | err (e : Int) (h : 1 ≤ e ∧ e ≤ 5) : Nice (errV e)
theorem okE_ok (e : Int) : 1 ≤ okE e ∧ okE e ≤ 5 := by unfold okE; split <;> omega
theorem numV_nice (n : Int) : Nice (numV n) := by
  unfold numV; split
  · exact .err 4 (by decide)
  · exact .num n (by assumption)
theorem normV_nice (v : V5) : Nice (normV v) := by
  unfold normV
  split
  · exact .bool _
  · split
    · exact numV_nice _
    · split
      · unfold textV; split
        · exact .err 2 (by decide)
        · exact .text _ (by omega)
      · split
        · exact .err _ (okE_ok _)
        · exact .blank
theorem fix_Can_eq (a : Int) : fix_Can.f a = some (a != -9223372036854775808, ()) := by
  unfold fix_Can.f fix_can.f
  show (loopN fix_can.l0 (64 + 1 + (1 : Int).natAbs + (0 : Int).natAbs) ([a], 1, 0, ())).bind _ = _
  have h2 : loopN fix_can.l0 65 ([a], 1, 1, ()) = some (true, ()) := rfl
  have h1 : loopN fix_can.l0 (64 + 1 + (1 : Int).natAbs + (0 : Int).natAbs) ([a], 1, 0, ()) = some (a != -9223372036854775808, ()) := by
    show cond (a == -9223372036854775808) (some (false, ())) (loopN fix_can.l0 65 ([a], 1, 1, ())) = _
    rw [h2]
    cases h : (a == -9223372036854775808)
    · rw [bne, h]; rfl
    · rw [bne, h]; rfl
  rw [h1]; rfl
theorem wrong_eq (e : Int) : value_wrong.f e = some (errV e, ()) := rfl
theorem number_eq (n : Int) : value_number.f n = some (numV n, ()) := by
  unfold value_number.f numV
  rw [fix_Can_eq n]
  simp only [Option.bind_some]
  by_cases h : n = -9223372036854775808
  · rw [c_true (by simp [h]), if_pos h]; rfl
  · rw [c_false (by simp [h]), if_neg h]; rfl
theorem text_eq (s : ByteArray) : value_text.f s = some (textV s, ()) := by
  unfold value_text.f textV
  by_cases h : 300 < s.size
  · rw [d_true (by omega), if_pos h]; rfl
  · rw [d_false (by omega), if_neg h]
theorem truth_eq (b : Bool) : value_truth.f b = some (boolV b, ()) := by
  unfold value_truth.f boolV; cases b <;> rfl
theorem errName_eq (e : Int) : ∃ s : ByteArray, value_errName.f e = some (s, ()) ∧ (s.toList = [] ↔ ¬ (1 ≤ e ∧ e ≤ 5)) := by
  unfold value_errName.f
  by_cases h0 : e < 0
  · rw [decide_eq_true h0, c_false (by rfl)]; exact ⟨_, rfl, by rw [toList_eq]; simp; omega⟩
  · rw [decide_eq_false h0, c_true (by rfl)]
    by_cases h6 : e ≥ 6
    · rw [d_true h6]; exact ⟨_, rfl, by rw [toList_eq]; simp; omega⟩
    · rw [d_false h6]
      obtain ⟨n, rfl⟩ := Int.eq_ofNat_of_zero_le (show 0 ≤ e by omega)
      have : n = 0 ∨ n = 1 ∨ n = 2 ∨ n = 3 ∨ n = 4 ∨ n = 5 := by omega
      rcases this with rfl | rfl | rfl | rfl | rfl | rfl <;> exact ⟨_, rfl, by rw [toList_eq]; simp⟩
theorem normal_eq (v : V5) : value_normal.f v = some (normV v, ()) := by
  obtain ⟨a, b, s, e, u⟩ := v
  unfold value_normal.f normV
  simp only
  by_cases h1 : a = 1
  · rw [c_true (by simp [h1]), if_pos h1, truth_eq]; rfl
  · rw [c_false (by simp [h1]), if_neg h1]
    by_cases h2 : a = 2
    · rw [c_true (by simp [h2]), if_pos h2, number_eq b]; rfl
    · rw [c_false (by simp [h2]), if_neg h2]
      by_cases h3 : a = 3
      · rw [c_true (by simp [h3]), if_pos h3, text_eq]; rfl
      · rw [c_false (by simp [h3]), if_neg h3]
        by_cases h4 : a = 4
        · rw [c_true (by simp [h4]), if_pos h4]
          obtain ⟨t, ht, hn⟩ := errName_eq e
          rw [ht]
          simp only [Option.bind_some, empty_eq]
          unfold okE
          by_cases he : 1 ≤ e ∧ e ≤ 5
          · rw [c_false (by rw [beq_eq_false_iff_ne]; exact fun h => (hn.1 h) he), if_pos he]; rfl
          · rw [c_true (by rw [beq_iff_eq]; exact hn.2 he), if_neg he]; rfl
        · rw [c_false (by simp [h4]), if_neg h4]; rfl
theorem numeral_eq (s : ByteArray) (hs : s.size < 4294967281) : value_numeral.f s = some (match numeralV s with | some v => (v, true, ()) | none => ((0, 0, tx0, 0, ()), false, ())) := by
  unfold value_numeral.f numeralV
  rw [num_Parse_eq s hs]
  simp only [Option.bind_some]
  rcases parse_kind s.data.toList with h | h | h
  · rw [c_false (by simp [h]), c_false (by simp [h]), if_neg (by omega), if_neg (by omega)]; rfl
  · rw [c_true (by simp [h]), if_pos h, number_eq _]; rfl
  · rw [c_false (by simp [h]), c_true (by simp [h]), if_neg (by omega), if_pos h]; rfl
theorem toNum_eq (v : V5) : value_toNum.f v = some (toNumV v, ()) := by
  unfold value_toNum.f toNumV
  rw [normal_eq v]
  simp only [Option.bind_some]
  have hn := normV_nice v
  generalize normV v = z at hn ⊢
  cases hn with
  | blank => rfl
  | bool b =>
    rw [c_true (by rfl), if_pos (by rfl)]
    cases b
    · rfl
    · rfl
  | num n h => rfl
  | text s h =>
    rw [c_false (by rfl), c_false (by rfl), c_true (by rfl), if_neg (show ¬ (3 : Int) = 1 by decide), if_neg (show ¬ (3 : Int) = 0 by decide), if_pos (by rfl), numeral_eq s (by omega)]
    simp only [Option.bind_some]
    cases numeralV s <;> rfl
  | err e h => rfl
theorem ToNum_eq (v : V5) : value_ToNum.f v = some (toNumV v, ()) := by unfold value_ToNum.f; rw [toNum_eq v]; rfl
theorem Normal_eq (v : V5) : value_Normal.f v = some (normV v, ()) := by unfold value_Normal.f; rw [normal_eq v]; rfl
/-! the reference's -/
theorem refErr_eq (e : Int) : cadastreref04_Err.f e = some (errV (okE e), ()) := by
  unfold cadastreref04_Err.f okE
  by_cases h1 : e < 1
  · rw [decide_eq_true h1, c_false (by rfl), if_neg (by omega)]; rfl
  · rw [decide_eq_false h1, c_true (by rfl)]
    by_cases h2 : e > 5
    · rw [d_true h2, if_neg (by omega)]; rfl
    · rw [d_false h2, if_pos (by omega)]; rfl
theorem refNum_eq (n : Int) : cadastreref04_Num.f n = some (numV n, ()) := by
  unfold cadastreref04_Num.f numV cadastreref01_Can.f
  simp only [Option.bind_some]
  by_cases h : n = -9223372036854775808
  · rw [c_true (by simp [h]), if_pos h]; rfl
  · rw [c_false (by simp [h]), if_neg h]; rfl
theorem refText_eq (s : ByteArray) : cadastreref04_Text.f s = some (textV s, ()) := by
  unfold cadastreref04_Text.f textV
  by_cases h : 300 < s.size
  · rw [d_true (by omega), if_pos h]; rfl
  · rw [d_false (by omega), if_neg h]
theorem refBool_eq (b : Bool) : cadastreref04_Bool.f b = some (boolV b, ()) := by
  unfold cadastreref04_Bool.f boolV; cases b <;> rfl
theorem refNormal_eq (v : V5) : cadastreref04_Normal.f v = some (normV v, ()) := by
  obtain ⟨a, b, s, e, u⟩ := v
  unfold cadastreref04_Normal.f normV
  simp only
  by_cases h1 : a = 1
  · rw [c_true (by simp [h1]), if_pos h1, refBool_eq]; rfl
  · rw [c_false (by simp [h1]), if_neg h1]
    by_cases h2 : a = 2
    · rw [c_true (by simp [h2]), if_pos h2, refNum_eq b]; rfl
    · rw [c_false (by simp [h2]), if_neg h2]
      by_cases h3 : a = 3
      · rw [c_true (by simp [h3]), if_pos h3, refText_eq]; rfl
      · rw [c_false (by simp [h3]), if_neg h3]
        by_cases h4 : a = 4
        · rw [c_true (by simp [h4]), if_pos h4, refErr_eq]; rfl
        · rw [c_false (by simp [h4]), if_neg h4]; rfl
theorem refread_eq (s : ByteArray) (hs : s.size ≤ 1048576) : cadastreref04_read.f s = some (match numeralV s with | some v => (v, true, ()) | none => (numV (parseL s.data.toList).1, false, ())) := by
  unfold cadastreref04_read.f numeralV
  have := refparse_eq s.data.toList (by rw [size_toList]; exact hs)
  rw [mk_self] at this
  rw [this]
  simp only [Option.bind_some]
  rcases parse_kind s.data.toList with h | h | h
  · rw [c_false (by simp [h]), if_neg (by omega), if_neg (by omega), refNum_eq, h]; rfl
  · rw [c_false (by simp [h]), if_pos h, refNum_eq, h]; rfl
  · rw [c_true (by simp [h]), if_neg (by omega), if_pos h]; rfl
theorem refToNum_eq (v : V5) : cadastreref04_ToNum.f v = some (toNumV v, ()) := by
  unfold cadastreref04_ToNum.f toNumV
  rw [refNormal_eq v]
  simp only [Option.bind_some]
  have hn := normV_nice v
  generalize normV v = z at hn ⊢
  cases hn with
  | blank => rfl
  | bool b => cases b <;> rfl
  | num n h => rfl
  | text s h =>
    rw [c_true (by rfl), c_false (by rfl), cutBind_go, c_true (by rfl), if_neg (show ¬ (3 : Int) = 1 by decide), if_neg (show ¬ (3 : Int) = 0 by decide), if_pos (by rfl)]
    simp only
    rw [refread_eq s (by omega)]
    simp only [Option.bind_some]
    cases numeralV s <;> rfl
  | err e h => rfl
end Go.Proofs.YtaldfmbnfnagjaaDoor.E
