/- Texts as lists of bytes, bounds of numbers: small lemmas over no Go. -/
import Derived.Test.YtaldfmbnfnagjaaDoorNumL
namespace Go.Proofs.YtaldfmbnfnagjaaDoor.X
open Go.RowKit Go.Proofs.YtaldfmbnfnagjaaDoorW.PrintWords Go.Proofs.YtaldfmbnfnagjaaDoorW.PrintLast Go.Proofs.YtaldfmbnfnagjaaDoorW.PrintMore
set_option linter.unusedVariables false
set_option linter.unusedSimpArgs false

/-! ### texts as lists -/
abbrev mk (l : List UInt8) : ByteArray := ⟨l.toArray⟩
theorem mk_toList (l : List UInt8) : (mk l).toList = l := by rw [toList_eq]
theorem mkSize (l : List UInt8) : (mk l).size = l.length := rfl
theorem mk_append (a b : List UInt8) : mk a ++ mk b = mk (a ++ b) := by
  apply ByteArray.ext
  rw [ByteArray.data_append]
  show a.toArray ++ b.toArray = (a ++ b).toArray
  simp
theorem mk_drop (l : List UInt8) (n : Nat) : (mk l).extract n (mk l).size = mk (l.drop n) := by
  apply ByteArray.ext
  rw [ByteArray.data_extract]
  show l.toArray.extract n l.length = (l.drop n).toArray
  simp
  exact List.take_of_length_le (by simp)
theorem mk_take (l : List UInt8) (n : Nat) : (mk l).extract 0 n = mk (l.take n) := by
  apply ByteArray.ext
  rw [ByteArray.data_extract]
  show l.toArray.extract 0 n = (l.take n).toArray
  simp
theorem mk_self (s : ByteArray) : mk s.data.toList = s := by
  apply ByteArray.ext; show s.data.toList.toArray = s.data; simp
theorem bt_mk (l : List UInt8) (i : Int) : bt (mk l) i = ((l.getD i.toNat 0).toNat : Int) := by
  unfold bt
  by_cases h : i.toNat < (mk l).size
  · rw [dif_pos h, List.getD_eq_getElem?_getD, List.getElem?_eq_getElem (show i.toNat < l.length from h)]; rfl
  · rw [dif_neg h, List.getD_eq_getElem?_getD, List.getElem?_eq_none (show l.length ≤ i.toNat from Nat.le_of_not_lt h)]; rfl
theorem w64 {x : Int} (h1 : -9223372036854775808 ≤ x) (h2 : x ≤ 9223372036854775807) : wrap64 x = x := by unfold wrap64; omega
theorem wu64 {x : Int} (h1 : 0 ≤ x) (h2 : x ≤ 18446744073709551615) : IntKind.u64.wrap x = x := by
  simp only [IntKind.wrap]; rw [show IntKind.u64.bits = 64 from rfl, show IntKind.u64.signed = false from rfl]; simp; omega

theorem itoa_pos {n : Int} (h : 0 ≤ n) : Lib.itoa n = Lib.decDigits n.toNat := by unfold Lib.itoa; rw [if_neg (by omega)]
theorem itoa_neg {n : Int} (h : n < 0) : Lib.itoa n = 45 :: Lib.decDigits n.natAbs := by unfold Lib.itoa; rw [if_pos h]
theorem wf64 {a : Int} (h : (Lit.int .i64 a).wf = true) : -9223372036854775808 ≤ a ∧ a ≤ 9223372036854775807 := by
  simp [Lit.wf, IntKind.min, IntKind.max, IntKind.bits, IntKind.signed] at h; omega
theorem wf8 {a : Int} (h : (Lit.int .u8 a).wf = true) : 0 ≤ a ∧ a ≤ 255 := by
  simp [Lit.wf, IntKind.min, IntKind.max, IntKind.bits, IntKind.signed] at h; omega

theorem getD_cons_zero (c : UInt8) (l : List UInt8) : (c :: l).getD 0 0 = c := rfl
theorem u8_eq {c : UInt8} {n : Nat} (hn : n < 256) (h : (c.toNat : Int) = (n : Int)) : c = UInt8.ofNat n := by
  have : c.toNat = n := by omega
  have h2 : c = UInt8.ofNat c.toNat := by simp
  rw [h2, this]

theorem parseF_eq {l : List UInt8} (h : l.length < 4294967281) : num_Parse.f (mk l) = some (parseL l) := by
  unfold num_Parse.f; rw [if_pos (show (mk l).size < 4294967281 from h)]

/-- A value's four parts: kind, number, text, error. -/
abbrev V4 := Int × Int × ByteArray × Int
def tx0 : ByteArray := ⟨#[]⟩
def errV (e : Int) : V4 := (4, 0, tx0, e)
def numV (n : Int) : V4 := if n = -9223372036854775808 then errV 4 else (2, n, tx0, 0)
def textV (s : ByteArray) : V4 := if 300 < s.size then errV 2 else (3, 0, s, 0)
def boolV (b : Bool) : V4 := (1, if b then 1 else 0, tx0, 0)
def normV (v : V4) : V4 :=
  if v.1 = 1 then boolV (v.2.1 != 0) else if v.1 = 2 then numV v.2.1 else if v.1 = 3 then textV v.2.2.1
  else if v.1 = 4 then errV (if 1 ≤ v.2.2.2 ∧ v.2.2.2 ≤ 5 then v.2.2.2 else 2) else (0, 0, tx0, 0)
/-- A text as a number, if it is one. -/
def numeralV (s : ByteArray) : Option V4 :=
  if (parseL s.data.toList).2 = 1 then some (numV (parseL s.data.toList).1) else if (parseL s.data.toList).2 = 2 then some (errV 4) else none
def toNumV (v : V4) : V4 :=
  if (normV v).1 = 1 then numV ((normV v).2.1 * 10000) else if (normV v).1 = 0 then numV 0
  else if (normV v).1 = 3 then (numeralV (normV v).2.2.1).getD (errV 2) else normV v
theorem normV_text {v : V4} (h : (normV v).1 = 3) : (normV v).2.2.1.size ≤ 300 := by
  unfold normV at h ⊢
  split
  · rename_i h1; rw [if_pos h1] at h; exact absurd h (by unfold boolV; simp)
  · rename_i h1
    rw [if_neg h1] at h
    split
    · rename_i h2
      rw [if_pos h2] at h
      unfold numV at h
      split at h <;> exact absurd h (by simp [errV])
    · rename_i h2
      rw [if_neg h2] at h
      split
      · rename_i h3
        unfold textV
        split
        · exact Nat.zero_le _
        · simp; omega
      · split
        · exact Nat.zero_le _
        · exact Nat.zero_le _
theorem normV_one {v : V4} (h : (normV v).1 = 1) : (normV v).2.1 = 0 ∨ (normV v).2.1 = 1 := by
  unfold normV at h ⊢
  split
  · unfold boolV
    cases (v.2.1 != 0)
    · exact .inl rfl
    · exact .inr rfl
  · rename_i h1
    rw [if_neg h1] at h
    split
    · rename_i h2
      rw [if_pos h2] at h
      unfold numV at h
      split at h <;> exact absurd h (by simp [errV])
    · rename_i h2
      rw [if_neg h2] at h
      split
      · rename_i h3
        rw [if_pos h3] at h
        unfold textV at h
        split at h <;> exact absurd h (by simp [errV])
      · rename_i h3
        rw [if_neg h3] at h
        split
        · rename_i h4
          rw [if_pos h4] at h
          exact absurd h (by simp [errV])
        · rename_i h4
          rw [if_neg h4] at h
          exact absurd h (by simp)
theorem parse_kind (l : List UInt8) : (parseL l).2 = 0 ∨ (parseL l).2 = 1 ∨ (parseL l).2 = 2 := by
  have h3 : ∀ m w f d, (parse3 m w f d).2 = 0 ∨ (parse3 m w f d).2 = 1 ∨ (parse3 m w f d).2 = 2 := by
    intro m w f d
    unfold parse3
    split
    · cases digs 0 (w ++ List.take 4 (pad5 f)) with
      | none => exact .inr (.inr rfl)
      | some n =>
        simp only [val]
        repeat' split
        all_goals first | exact .inr (.inr rfl) | exact .inr (.inl rfl)
    · exact .inl rfl
  unfold parseL
  split
  · exact h3 _ _ _ _
  · exact h3 _ _ _ _
end Go.Proofs.YtaldfmbnfnagjaaDoor.X
