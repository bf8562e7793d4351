/- What the printed functions of values come to. -/
import Derived.Test.YtaldfmbnfnagjaaDoorMk
import Derived.Test.YtaldfmbnfnagjaaDoorYx
namespace Go.Proofs.YtaldfmbnfnagjaaDoor.Y
open Go.RowKit Go.Proofs.YtaldfmbnfnagjaaDoor.X Go.Proofs.YtaldfmbnfnagjaaDoorW.PrintWords Go.Proofs.YtaldfmbnfnagjaaDoorW.PrintLast Go.Proofs.YtaldfmbnfnagjaaDoorW.PrintMore
set_option linter.unusedVariables false
set_option linter.unusedSimpArgs false

theorem fixCan_eq (a : Int) (k : Nat) (hk : 2 ≤ k) : fix_Can.f k a = some (a != -9223372036854775808) := by
  obtain ⟨m, rfl⟩ : ∃ m, k = m + 2 := ⟨k - 2, by omega⟩
  unfold fix_Can.f fix_can.f
  have hr : rd [a] 0 = a := rfl
  simp only [fix_can.l0, List.length_singleton]
  rw [if_pos (by decide), if_pos (by decide), if_pos (by decide), hr]
  by_cases h : a = -9223372036854775808
  · rw [if_pos h]; simp [h]
  · rw [if_neg h, w64 (by omega) (by omega), if_neg (by decide)]; simp [h]
theorem wrong_eq (e : Int) : value_wrong.f e = some (errV e) := rfl
theorem number_eq (n : Int) (k : Nat) (hk : 2 ≤ k) : value_number.f k n = some (numV n) := by
  unfold value_number.f numV
  rw [fixCan_eq n k hk]
  simp only [Option.bind_some]
  by_cases h : n = -9223372036854775808
  · rw [if_neg (by simp [h]), if_pos h]; rfl
  · rw [if_pos (by simp [h]), if_neg h]; rfl
theorem text_eq (s : ByteArray) : value_text.f s = some (textV s) := by
  unfold value_text.f textV
  by_cases h : 300 < s.size
  · rw [if_pos (by omega), if_pos h]; rfl
  · rw [if_neg (by omega), if_neg h]
theorem truth_eq (b : Bool) : value_truth.f b = some (boolV b) := by
  unfold value_truth.f boolV; cases b <;> rfl
theorem nameOf_nil (e : Int) : ((if e < 0 then (⟨#[]⟩ : ByteArray) else if e ≥ 6 then ⟨#[]⟩ else nameOf e.toNat).toList = []) ↔ ¬ (1 ≤ e ∧ e ≤ 5) := by
  by_cases h0 : e < 0
  · rw [if_pos h0, toList_eq]; simp; omega
  · rw [if_neg h0]
    by_cases h6 : e ≥ 6
    · rw [if_pos h6, toList_eq]; simp; omega
    · rw [if_neg h6, toList_eq]
      obtain ⟨n, rfl⟩ := Int.eq_ofNat_of_zero_le (show 0 ≤ e by omega)
      have : n = 0 ∨ n = 1 ∨ n = 2 ∨ n = 3 ∨ n = 4 ∨ n = 5 := by omega
      rcases this with rfl | rfl | rfl | rfl | rfl | rfl <;> simp [nameOf, errNames]
theorem normal_eq (a b : Int) (s : ByteArray) (e : Int) (k : Nat) (hk : 2 ≤ k) : value_normal.f k a b s e = some (normV (a, b, s, e)) := by
  unfold value_normal.f normV
  by_cases h1 : a = 1
  · rw [if_pos h1, if_pos h1, truth_eq]; rfl
  · rw [if_neg h1, if_neg h1]
    by_cases h2 : a = 2
    · rw [if_pos h2, if_pos h2, number_eq b k hk]; rfl
    · rw [if_neg h2, if_neg h2]
      by_cases h3 : a = 3
      · rw [if_pos h3, if_pos h3, text_eq]; rfl
      · rw [if_neg h3, if_neg h3]
        by_cases h4 : a = 4
        · rw [if_pos h4, if_pos h4]
          unfold value_errName.f
          simp only [Option.bind_some]
          by_cases he : 1 ≤ e ∧ e ≤ 5
          · rw [if_neg (fun h => (nameOf_nil e).1 h he), if_pos he]; rfl
          · rw [if_pos ((nameOf_nil e).2 he), if_neg he]; rfl
        · rw [if_neg h4, if_neg h4]; rfl
theorem numeral_eq (s : ByteArray) (hs : s.size < 4294967281) (k : Nat) (hk : 2 ≤ k) : value_numeral.f k s = some (match numeralV s with | some v => (v.1, v.2.1, v.2.2.1, v.2.2.2, true) | none => (0, 0, tx0, 0, false)) := by
  have hp : num_Parse.f s = some (parseL s.data.toList) := by unfold num_Parse.f; rw [if_pos hs]
  unfold value_numeral.f numeralV
  rw [hp]
  simp only [Option.bind_some]
  rcases parse_kind s.data.toList with h | h | h
  · rw [if_neg (by omega), if_neg (by omega), if_neg (by omega), if_neg (by omega)]; rfl
  · rw [if_pos h, if_pos h, number_eq _ k hk]; rfl
  · rw [if_neg (by omega), if_pos h, if_neg (by omega), if_pos h]; rfl
theorem toNum_eq (a b : Int) (s : ByteArray) (e : Int) (k : Nat) (hk : 2 ≤ k) : value_toNum.f k a b s e = some (toNumV (a, b, s, e)) := by
  unfold value_toNum.f toNumV
  rw [normal_eq a b s e k hk]
  simp only [Option.bind_some]
  have ht := @normV_text (a, b, s, e)
  have ho := @normV_one (a, b, s, e)
  generalize normV (a, b, s, e) = v at ht ho
  obtain ⟨v1, v2, v3, v4⟩ := v
  simp only at ht ho ⊢
  by_cases h1 : v1 = 1
  · have := ho h1
    rw [if_pos h1, if_pos h1, w64 (by omega) (by omega), number_eq _ k hk]; rfl
  · rw [if_neg h1, if_neg h1]
    by_cases h0 : v1 = 0
    · rw [if_pos h0, if_pos h0, number_eq _ k hk]; rfl
    · rw [if_neg h0, if_neg h0]
      by_cases h3 : v1 = 3
      · have := ht h3
        rw [if_pos h3, if_pos h3, numeral_eq _ (by omega) k hk]
        simp only [Option.bind_some]
        cases numeralV v3 with
        | none => rw [if_neg (by decide)]; rfl
        | some v => rw [if_pos rfl]; rfl
      · rw [if_neg h3, if_neg h3]
theorem ToNum_eq (a b : Int) (s : ByteArray) (e : Int) (k : Nat) (hk : 2 ≤ k) : value_ToNum.f k a b s e = some (toNumV (a, b, s, e)) := by
  unfold value_ToNum.f; rw [toNum_eq a b s e k hk]; rfl
theorem Normal_eq (a b : Int) (s : ByteArray) (e : Int) (k : Nat) (hk : 2 ≤ k) : value_Normal.f k a b s e = some (normV (a, b, s, e)) := by
  unfold value_Normal.f; rw [normal_eq a b s e k hk]; rfl
theorem Num_eq (n : Int) (k : Nat) (hk : 2 ≤ k) : value_Num.f k n = some (numV n) := by
  unfold value_Num.f; rw [number_eq n k hk]; rfl
theorem Err_eq (e : Int) (k : Nat) (hk : 2 ≤ k) : value_Err.f k e = some (normV (4, 0, tx0, e)) := by
  unfold value_Err.f; rw [show (⟨#[]⟩ : ByteArray) = tx0 from rfl, normal_eq 4 0 tx0 e k hk]; rfl
/-! the reference's -/
theorem refErr_eq (e : Int) : cadastreref04_Err.f e = some (errV (if 1 ≤ e ∧ e ≤ 5 then e else 2)) := by
  unfold cadastreref04_Err.f
  by_cases h1 : e < 1
  · rw [if_pos h1, if_neg (by omega)]; rfl
  · rw [if_neg h1]
    by_cases h2 : e > 5
    · rw [if_pos h2, if_neg (by omega)]; rfl
    · rw [if_neg h2, if_pos (by omega)]; rfl
theorem refCan_eq (n : Int) : cadastreref01_Can.f n = some (n != -9223372036854775808) := rfl
theorem refNum_eq (n : Int) : cadastreref04_Num.f n = some (numV n) := by
  unfold cadastreref04_Num.f numV
  rw [refCan_eq]
  simp only [Option.bind_some]
  by_cases h : n = -9223372036854775808
  · rw [if_neg (by simp [h]), if_pos h, refErr_eq]; rfl
  · rw [if_pos (by simp [h]), if_neg h]; rfl
theorem refText_eq (s : ByteArray) : cadastreref04_Text.f s = some (textV s) := by
  unfold cadastreref04_Text.f textV
  by_cases h : 300 < s.size
  · rw [if_pos (by omega), if_pos h, refErr_eq]; rfl
  · rw [if_neg (by omega), if_neg h]
end Go.Proofs.YtaldfmbnfnagjaaDoor.Y
