/- Numerals as lists of bytes: what a numeral says (parseL), what a number's text is (printL), and that the one undoes the other. No Go here. -/
import Derived.Test.YtaldfmbnfnagjaaDoorEvDef
import Derived.Lib.SmallJoins
import Derived.Shelf.Strings.Cut
import Derived.Shelf.Strings.SlTrimAscii
import Derived.Lib.AppendIntMem
namespace Go.Proofs.YtaldfmbnfnagjaaDoor.E
open Go.RowKit
set_option linter.unusedVariables false
set_option linter.unusedSimpArgs false
/-- The number that digits say, digit by digit, while it is at most Most. -/
def digs : Nat → List UInt8 → Option Nat
  | n, [] => some n
  | n, c :: l => if n > (9223372036854775807 - (c.toNat - 48)) / 10 then none else digs (10 * n + (c.toNat - 48)) l
def val (minus : Bool) (five : Int) : Option Nat → Int × Int
  | none => (0, 2)
  | some n => if (if five ≥ 53 then n + 1 else n) > 9223372036854775807 then (0, 2) else (if minus then -((if five ≥ 53 then n + 1 else n : Nat) : Int) else ((if five ≥ 53 then n + 1 else n : Nat) : Int), 1)
def isDig (c : UInt8) : Bool := decide (48 ≤ c.toNat) && decide (c.toNat ≤ 57)
def digitsL (l : List UInt8) : Bool := !l.isEmpty && decide (l.length ≤ 40) && l.all isDig
def pad5 (l : List UInt8) : List UInt8 := l ++ List.replicate (5 - l.length) 48
/-- A numeral's number, and what it is: none 0, one 1, too great 2. -/
def parse3 (minus : Bool) (whole frac : List UInt8) (dot : Bool) : Int × Int :=
  if (digitsL whole && (!dot || digitsL frac)) = true then val minus ((pad5 frac).getD 4 0).toNat (digs 0 (whole ++ (pad5 frac).take 4)) else (0, 0)
def parseL (l : List UInt8) : Int × Int :=
  if l.head? = some 45 then parse3 true (Lib.cut (l.drop 1) [46]).1 (Lib.cut (l.drop 1) [46]).2.1 (Lib.cut (l.drop 1) [46]).2.2
  else parse3 false (Lib.cut l [46]).1 (Lib.cut l [46]).2.1 (Lib.cut l [46]).2.2

theorem size_toList (s : ByteArray) : s.data.toList.length = s.size := by rw [Array.length_toList]; rfl
theorem toList_eq (s : ByteArray) : s.toList = s.data.toList := Lib.toList_data s
theorem isDig_iff (c : UInt8) : isDig c = true ↔ c ∈ ([48, 49, 50, 51, 52, 53, 54, 55, 56, 57] : List UInt8) := by
  have h := c.toNat_lt
  simp only [isDig, Bool.and_eq_true, decide_eq_true_eq]
  constructor
  · rintro ⟨h1, h2⟩
    have : c = UInt8.ofNat c.toNat := by simp
    rw [this]
    generalize c.toNat = n at h1 h2
    have : n = 48 ∨ n = 49 ∨ n = 50 ∨ n = 51 ∨ n = 52 ∨ n = 53 ∨ n = 54 ∨ n = 55 ∨ n = 56 ∨ n = 57 := by omega
    rcases this with rfl | rfl | rfl | rfl | rfl | rfl | rfl | rfl | rfl | rfl <;> decide
  · intro h
    simp only [List.mem_cons, List.mem_nil_iff, or_false] at h
    rcases h with rfl | rfl | rfl | rfl | rfl | rfl | rfl | rfl | rfl | rfl <;> decide
theorem dropWhile_nil {α : Type} (p : α → Bool) (l : List α) : l.dropWhile p = [] ↔ l.all p = true := by
  induction l with
  | nil => simp
  | cons a l ih => by_cases h : p a = true <;> simp [List.dropWhile_cons, h, ih]
theorem trimS_nil (l cs : List UInt8) : Lib.trimS l cs = [] ↔ l.all (cs.contains ·) = true := by
  unfold Lib.trimS Lib.trimLeftS Lib.trimRightS
  rw [dropWhile_nil]
  constructor
  · intro h
    have h2 : (l.reverse.dropWhile (cs.contains ·)).all (cs.contains ·) = true := by rw [← List.all_reverse]; exact h
    cases hd : l.reverse.dropWhile (cs.contains ·) with
    | nil => rw [dropWhile_nil, List.all_reverse] at hd; exact hd
    | cons a r =>
      rw [hd] at h2
      have h3 : (cs.contains a) = true := by simp only [List.all_cons, Bool.and_eq_true] at h2; exact h2.1
      have h4 := List.head?_dropWhile_not (fun c => cs.contains c) l.reverse
      rw [hd] at h4
      simp only [List.head?_cons] at h4
      rw [h3] at h4
      cases h4
  · intro h
    have : l.reverse.dropWhile (cs.contains ·) = [] := by rw [dropWhile_nil, List.all_reverse]; exact h
    rw [this]; rfl

theorem getD_drop {l : List UInt8} {j : Nat} (h : j < l.length) : l.drop j = l.getD j 0 :: l.drop (j + 1) := by
  rw [List.drop_eq_getElem_cons h]; congr 1; simp [List.getD, h]

theorem cut_len (s sep : List UInt8) : (Lib.cut s sep).1.length ≤ s.length ∧ (Lib.cut s sep).2.1.length ≤ s.length := by
  unfold Lib.cut
  split
  · exact ⟨by simp; omega, by simp⟩
  · exact ⟨Nat.le_refl _, Nat.zero_le _⟩
theorem cut_nodot (s sep : List UInt8) (h : (Lib.cut s sep).2.2 = false) : (Lib.cut s sep).2.1 = [] := by
  unfold Lib.cut at *
  split at h
  · cases h
  · rename_i h1; rw [if_neg h1]

theorem mk_size (l : List UInt8) : (⟨l.toArray⟩ : ByteArray).size = l.length := rfl

theorem mk_list (l : List UInt8) : (⟨l.toArray⟩ : ByteArray).data.toList = l := rfl
/-! ### decimal digits -/
def fold10 (n : Nat) (l : List UInt8) : Nat := l.foldl (fun m c => 10 * m + (c.toNat - 48)) n
theorem fold10_nil (n : Nat) : fold10 n [] = n := rfl
theorem fold10_cons (n : Nat) (c : UInt8) (l : List UInt8) : fold10 n (c :: l) = fold10 (10 * n + (c.toNat - 48)) l := by unfold fold10; rw [List.foldl_cons]
theorem fold10_append (n : Nat) (l m : List UInt8) : fold10 n (l ++ m) = fold10 (fold10 n l) m := by unfold fold10; rw [List.foldl_append]
theorem fold10_ge (n : Nat) (l : List UInt8) : n ≤ fold10 n l := by
  induction l generalizing n with
  | nil => exact Nat.le_refl _
  | cons c l ih => rw [fold10_cons]; exact Nat.le_trans (by omega) (ih _)
theorem fold10_mono (l : List UInt8) {a b : Nat} (h : a ≤ b) : fold10 a l ≤ fold10 b l := by
  induction l generalizing a b with
  | nil => exact h
  | cons c l ih => rw [fold10_cons, fold10_cons]; exact ih (by omega)
theorem fold10_eq (n : Nat) (l : List UInt8) : fold10 n l = n * 10 ^ l.length + fold10 0 l := by
  induction l generalizing n with
  | nil => simp [fold10_nil]
  | cons c l ih =>
    rw [fold10_cons, fold10_cons, ih, ih (10 * 0 + _), List.length_cons, Nat.pow_succ]
    generalize 10 ^ l.length = p
    have e : 10 * n * p = n * (p * 10) := by rw [Nat.mul_comm 10 n, Nat.mul_assoc, Nat.mul_comm 10 p]
    rw [Nat.add_mul, e, Nat.mul_zero, Nat.zero_add, Nat.add_assoc]
theorem digs_eq (l : List UInt8) (hl : l.all isDig = true) (n : Nat) (hn : n ≤ 9223372036854775807) :
    digs n l = if fold10 n l ≤ 9223372036854775807 then some (fold10 n l) else none := by
  induction l generalizing n with
  | nil => rw [fold10_nil, if_pos hn]; rfl
  | cons c l ih =>
    simp only [List.all_cons, Bool.and_eq_true] at hl
    have hc : 48 ≤ c.toNat ∧ c.toNat ≤ 57 := by simpa [isDig] using hl.1
    rw [digs, fold10_cons]
    by_cases h : n > (9223372036854775807 - (c.toNat - 48)) / 10
    · rw [if_pos h, if_neg]
      have := fold10_ge (10 * n + (c.toNat - 48)) l
      omega
    · rw [if_neg h, ih hl.2 _ (by omega)]

/-- A numeral's size, in ten thousandths, rounded. -/
def numeral (whole frac : List UInt8) : Nat := fold10 0 (whole ++ (pad5 frac).take 4) + if ((pad5 frac).getD 4 0).toNat ≥ 53 then 1 else 0
def told (minus : Bool) (m : Nat) : Int × Int := if m ≤ 9223372036854775807 then (if minus then -(m : Int) else (m : Int), 1) else (0, 2)
theorem parse3_good (minus : Bool) (whole frac : List UInt8) (dot : Bool) (h1 : digitsL whole = true) (h2 : dot = false ∨ digitsL frac = true) (h3 : dot = false → frac = []) :
    parse3 minus whole frac dot = told minus (numeral whole frac) := by
  have hf : frac.all isDig = true := by
    rcases h2 with h2 | h2
    · rw [h3 h2]; rfl
    · simp only [digitsL, Bool.and_eq_true] at h2; exact h2.2
  have hall : (whole ++ (pad5 frac).take 4).all isDig = true := by
    simp only [digitsL, Bool.and_eq_true] at h1
    rw [List.all_append, h1.2, Bool.true_and, List.all_eq_true]
    intro c hc
    have hc := List.mem_of_mem_take hc
    rcases List.mem_append.1 hc with hc | hc
    · exact List.all_eq_true.1 hf c hc
    · rw [List.mem_replicate] at hc; rw [hc.2]; decide
  unfold parse3
  rw [if_pos (by rcases h2 with h2 | h2 <;> simp [h1, h2]), digs_eq _ hall 0 (by omega)]
  unfold told numeral
  generalize fold10 0 (whole ++ List.take 4 (pad5 frac)) = m
  generalize ((pad5 frac).getD 4 0).toNat = f
  by_cases hm : m ≤ 9223372036854775807
  · rw [if_pos hm]
    simp only [val]
    by_cases hf : f ≥ 53
    · rw [if_pos (show (f : Int) ≥ 53 by omega), if_pos hf]
      by_cases h : m + 1 ≤ 9223372036854775807
      · rw [if_neg (by omega), if_pos h]
      · rw [if_pos (by omega), if_neg h]
    · rw [if_neg (show ¬ (f : Int) ≥ 53 by omega), if_neg hf]
      have hm' : ¬ m > 9223372036854775807 := by omega
      simp only [if_neg hm', Nat.add_zero, if_pos hm]
  · rw [if_neg hm, if_neg (by omega)]; rfl
theorem parse3_bad (minus : Bool) (whole frac : List UInt8) (dot : Bool) (h : digitsL whole = false ∨ dot = true ∧ digitsL frac = false) : parse3 minus whole frac dot = (0, 0) := by
  unfold parse3
  rw [if_neg]
  rcases h with h | ⟨h, h2⟩
  · rw [h]; simp
  · rw [h, h2]; simp

/-! ### cutting at the first dot -/
theorem cut_hit (w r : List UInt8) (hw : ∀ c ∈ w, c ≠ 46) : Lib.cut (w ++ 46 :: r) [46] = (w, r, true) := by
  have hi : Lib.index (w ++ 46 :: r) [46] = (w.length : Int) := by
    refine Lib.index_first (by simp) ?_ ?_
    · simp [Lib.occAt]
    · intro j hj
      unfold Lib.occAt
      rw [List.drop_append_of_le_length (Nat.le_of_lt hj)]
      rw [List.drop_eq_getElem_cons hj]
      have := hw w[j] (List.getElem_mem hj)
      simp only [List.cons_append, List.isPrefixOf]
      simp only [Bool.and_true, beq_eq_false_iff_ne, ne_eq]
      exact fun e => this e.symm
  unfold Lib.cut
  rw [hi, if_pos (by omega)]
  simp
theorem cut_miss (s : List UInt8) (hw : ∀ c ∈ s, c ≠ 46) : Lib.cut s [46] = (s, [], false) := by
  have hi : Lib.index s [46] = -1 := by
    refine Lib.index_none ?_
    intro j hj
    unfold Lib.occAt
    cases hd : s.drop j with
    | nil => rfl
    | cons c l =>
      have hm : c ∈ s := List.mem_of_mem_drop (by rw [hd]; exact List.mem_cons_self)
      simp only [List.isPrefixOf, Bool.and_true, beq_eq_false_iff_ne, ne_eq]
      exact fun e => hw c hm e.symm
  unfold Lib.cut
  rw [hi, if_neg (by omega)]
theorem dig_ne {c : UInt8} (h : isDig c = true) : c ≠ 46 := by rintro rfl; revert h; decide
theorem all_ne {l : List UInt8} (h : l.all isDig = true) : ∀ c ∈ l, c ≠ 46 := fun c hc => dig_ne (List.all_eq_true.1 h c hc)

/-! ### a number's digits -/
theorem decDigits_eq (n : Nat) : Lib.decDigits n = if n < 10 then [UInt8.ofNat (48 + n)] else Lib.decDigits (n / 10) ++ [UInt8.ofNat (48 + n % 10)] := by
  rw [Lib.decDigits]; split <;> rfl
theorem ofNat_dig {d : Nat} (h : d < 10) : (UInt8.ofNat (48 + d)).toNat = 48 + d := by
  rw [UInt8.toNat_ofNat']; omega
theorem dig_ofNat {d : Nat} (h : d < 10) : isDig (UInt8.ofNat (48 + d)) = true := by
  unfold isDig; rw [ofNat_dig h]; simp; omega
theorem decDigits_all (n : Nat) : (Lib.decDigits n).all isDig = true := by
  induction n using Nat.strongRecOn with
  | _ n ih =>
    rw [decDigits_eq]
    by_cases h : n < 10
    · rw [if_pos h]; simp only [List.all_cons, List.all_nil, dig_ofNat h, Bool.and_self]
    · rw [if_neg h, List.all_append, ih (n / 10) (by omega)]
      simp only [List.all_cons, List.all_nil, dig_ofNat (Nat.mod_lt n (by omega : 10 > 0)), Bool.and_self]
theorem decDigits_val (n : Nat) : fold10 0 (Lib.decDigits n) = n := by
  induction n using Nat.strongRecOn with
  | _ n ih =>
    rw [decDigits_eq]
    by_cases h : n < 10
    · rw [if_pos h, fold10_cons, fold10_nil, ofNat_dig h]; omega
    · rw [if_neg h, fold10_append, ih (n / 10) (by omega), fold10_cons, fold10_nil, ofNat_dig (Nat.mod_lt n (by omega : 10 > 0))]; omega
theorem decDigits_ne (n : Nat) : Lib.decDigits n ≠ [] := by
  rw [decDigits_eq]; split <;> simp
theorem decDigits_len (n : Nat) (k : Nat) (hk : 1 ≤ k) (h : n < 10 ^ k) : (Lib.decDigits n).length ≤ k := by
  induction k generalizing n with
  | zero => omega
  | succ k ih =>
    rw [decDigits_eq]
    by_cases h10 : n < 10
    · rw [if_pos h10]; simp
    · rw [if_neg h10, List.length_append]
      have : 1 ≤ k := by
        rcases Nat.eq_zero_or_pos k with rfl | h0
        · simp at h; omega
        · exact h0
      have := ih (n / 10) this (by rw [Nat.pow_succ] at h; omega)
      simp; omega
theorem decDigits_five (r : Nat) (h : r < 10000) : ∃ a b c d : Nat, a < 10 ∧ b < 10 ∧ c < 10 ∧ d < 10 ∧ r = 1000 * a + 100 * b + 10 * c + d ∧
    Lib.decDigits (10000 + r) = [49, UInt8.ofNat (48 + a), UInt8.ofNat (48 + b), UInt8.ofNat (48 + c), UInt8.ofNat (48 + d)] := by
  refine ⟨r / 1000, r / 100 % 10, r / 10 % 10, r % 10, by omega, by omega, by omega, by omega, by omega, ?_⟩
  rw [decDigits_eq, if_neg (by omega), decDigits_eq, if_neg (by omega), decDigits_eq, if_neg (by omega), decDigits_eq, if_neg (by omega), decDigits_eq, if_pos (by omega)]
  simp only [List.cons_append, List.nil_append]
  have e1 : (10000 + r) / 10 / 10 / 10 / 10 = 1 := by omega
  have e2 : (10000 + r) / 10 / 10 / 10 % 10 = r / 1000 := by omega
  have e3 : (10000 + r) / 10 / 10 % 10 = r / 100 % 10 := by omega
  have e4 : (10000 + r) / 10 % 10 = r / 10 % 10 := by omega
  have e5 : (10000 + r) % 10 = r % 10 := by omega
  rw [e1, e2, e3, e4, e5]; rfl

/-! ### noughts at the end -/
def strip0 (l : List UInt8) : List UInt8 := Lib.trimRightS l [48]
theorem strip0_snoc (l : List UInt8) (c : UInt8) : strip0 (l ++ [c]) = if c = 48 then strip0 l else l ++ [c] := by
  unfold strip0 Lib.trimRightS
  rw [List.reverse_append]
  simp only [List.reverse_cons, List.reverse_nil, List.nil_append, List.singleton_append, List.dropWhile_cons]
  by_cases h : c = 48
  · subst h; simp
  · rw [if_neg h]; simp [h]
theorem snoc_ind {P : List UInt8 → Prop} (h0 : P []) (h1 : ∀ l c, P l → P (l ++ [c])) (l : List UInt8) : P l := by
  rw [← List.reverse_reverse l]
  induction l.reverse with
  | nil => exact h0
  | cons c r ih => rw [List.reverse_cons]; exact h1 _ _ ih
theorem strip0_nil : strip0 [] = [] := rfl
theorem strip0_spec (l : List UInt8) : ∃ k, l = strip0 l ++ List.replicate k 48 := by
  refine snoc_ind (P := fun l => ∃ k, l = strip0 l ++ List.replicate k 48) ⟨0, rfl⟩ ?_ l
  · intro l c ih
    obtain ⟨k, ih⟩ := ih
    rw [strip0_snoc]
    by_cases h : c = 48
    · refine ⟨k + 1, ?_⟩
      rw [if_pos h, List.replicate_succ', ← List.append_assoc, ← ih, h]
    · exact ⟨0, by rw [if_neg h]; simp⟩
theorem strip0_last (l : List UInt8) (c : UInt8) (m : List UInt8) (h : strip0 l = m ++ [c]) : c ≠ 48 := by
  revert h
  refine snoc_ind (P := fun l => strip0 l = m ++ [c] → c ≠ 48) ?_ ?_ l
  · intro h; rw [strip0_nil] at h; simp at h
  · intro l d ih h
    rw [strip0_snoc] at h
    by_cases hd : d = 48
    · rw [if_pos hd] at h; exact ih h
    · rw [if_neg hd] at h
      have := List.append_inj_right' h rfl
      simp at this; rw [← this]; exact hd

/-- The digits behind the dot, and a number's text. -/
def fracL (r : Nat) : List UInt8 := strip0 ((Lib.decDigits (10000 + r)).drop 1)
def sizeL (n : Nat) : List UInt8 := Lib.decDigits (n / 10000) ++ (if fracL (n % 10000) = [] then [] else 46 :: fracL (n % 10000))
def printL (a : Int) : List UInt8 := if a = -9223372036854775808 then [110, 111, 110, 101] else if a < 0 then 45 :: sizeL a.natAbs else sizeL a.toNat

theorem fracL_spec (r : Nat) (h : r < 10000) : (fracL r).all isDig = true ∧ (fracL r).length ≤ 4 ∧ fold10 0 ((pad5 (fracL r)).take 4) = r ∧ (pad5 (fracL r)).getD 4 0 = 48 ∧ (fracL r = [] ↔ r = 0) := by
  obtain ⟨a, b, c, d, ha, hb, hc, hd, hr, he⟩ := decDigits_five r h
  have key : ∀ x : Nat, x < 10 → (UInt8.ofNat (48 + x) = 48 ↔ x = 0) := by
    intro x hx
    constructor
    · intro e
      have := congrArg UInt8.toNat e
      rw [ofNat_dig hx] at this
      simp at this; exact this
    · rintro rfl; rfl
  have t : ∀ x : Nat, x < 10 → (UInt8.ofNat (48 + x)).toNat - 48 = x := fun x hx => by rw [ofNat_dig hx]; omega
  unfold fracL
  rw [he]
  simp only [List.drop_succ_cons, List.drop_zero]
  rw [show [UInt8.ofNat (48 + a), UInt8.ofNat (48 + b), UInt8.ofNat (48 + c), UInt8.ofNat (48 + d)] = [UInt8.ofNat (48 + a), UInt8.ofNat (48 + b), UInt8.ofNat (48 + c)] ++ [UInt8.ofNat (48 + d)] from rfl, strip0_snoc]
  by_cases h4 : d = 0
  · rw [if_pos ((key d hd).2 h4), show [UInt8.ofNat (48 + a), UInt8.ofNat (48 + b), UInt8.ofNat (48 + c)] = [UInt8.ofNat (48 + a), UInt8.ofNat (48 + b)] ++ [UInt8.ofNat (48 + c)] from rfl, strip0_snoc]
    by_cases h3 : c = 0
    · rw [if_pos ((key c hc).2 h3), show [UInt8.ofNat (48 + a), UInt8.ofNat (48 + b)] = [UInt8.ofNat (48 + a)] ++ [UInt8.ofNat (48 + b)] from rfl, strip0_snoc]
      by_cases h2 : b = 0
      · rw [if_pos ((key b hb).2 h2), show [UInt8.ofNat (48 + a)] = [] ++ [UInt8.ofNat (48 + a)] from rfl, strip0_snoc]
        by_cases h1 : a = 0
        · rw [if_pos ((key a ha).2 h1), strip0_nil]
          refine ⟨rfl, by simp, by simp [pad5, fold10]; omega, rfl, by simp; omega⟩
        · rw [if_neg (fun e => h1 ((key a ha).1 e))]
          refine ⟨by simp only [List.all_append, List.all_cons, List.all_nil, Bool.and_self, dig_ofNat ha], by simp, ?_, rfl, by simp; omega⟩
          simp [pad5, fold10, t a ha, List.replicate]; omega
      · rw [if_neg (fun e => h2 ((key b hb).1 e))]
        refine ⟨by simp only [List.all_append, List.all_cons, List.all_nil, Bool.and_self, dig_ofNat ha, dig_ofNat hb], by simp, ?_, rfl, by simp; omega⟩
        simp [pad5, fold10, t a ha, t b hb, List.replicate]; omega
    · rw [if_neg (fun e => h3 ((key c hc).1 e))]
      refine ⟨by simp only [List.all_append, List.all_cons, List.all_nil, Bool.and_self, dig_ofNat ha, dig_ofNat hb, dig_ofNat hc], by simp, ?_, rfl, by simp; omega⟩
      simp [pad5, fold10, t a ha, t b hb, t c hc, List.replicate]; omega
  · rw [if_neg (fun e => h4 ((key d hd).1 e))]
    refine ⟨by simp only [List.all_append, List.all_cons, List.all_nil, Bool.and_self, dig_ofNat ha, dig_ofNat hb, dig_ofNat hc, dig_ofNat hd], by simp, ?_, rfl, by simp; omega⟩
    simp [pad5, fold10, t a ha, t b hb, t c hc, t d hd, List.replicate]; omega
/-! ### texts as lists -/
abbrev bmk (l : List UInt8) : ByteArray := ⟨l.toArray⟩
theorem mk_toList (l : List UInt8) : (bmk l).toList = l := by rw [toList_eq]
theorem mkSize (l : List UInt8) : (bmk l).size = l.length := rfl
theorem mk_append (a b : List UInt8) : bmk a ++ bmk b = bmk (a ++ b) := by
  apply ByteArray.ext
  rw [ByteArray.data_append]
  show a.toArray ++ b.toArray = (a ++ b).toArray
  simp
theorem mk_drop (l : List UInt8) (n : Nat) : (bmk l).extract n (bmk l).size = bmk (l.drop n) := by
  apply ByteArray.ext
  rw [ByteArray.data_extract]
  show l.toArray.extract n l.length = (l.drop n).toArray
  simp
  exact List.take_of_length_le (by simp)
theorem mk_take (l : List UInt8) (n : Nat) : (bmk l).extract 0 n = bmk (l.take n) := by
  apply ByteArray.ext
  rw [ByteArray.data_extract]
  show l.toArray.extract 0 n = (l.take n).toArray
  simp
theorem mk_self (s : ByteArray) : bmk s.data.toList = s := by
  apply ByteArray.ext; show s.data.toList.toArray = s.data; simp
theorem itoa_pos {n : Int} (h : 0 ≤ n) : Lib.itoa n = Lib.decDigits n.toNat := by unfold Lib.itoa; rw [if_neg (by omega)]
theorem itoa_neg {n : Int} (h : n < 0) : Lib.itoa n = 45 :: Lib.decDigits n.natAbs := by unfold Lib.itoa; rw [if_pos h]
theorem wf64 {a : Int} (h : (Lit.int .i64 a).wf = true) : -9223372036854775808 ≤ a ∧ a ≤ 9223372036854775807 := by
  simp [Lit.wf, IntKind.min, IntKind.max, IntKind.bits, IntKind.signed] at h; omega
theorem wf8 {a : Int} (h : (Lit.int .u8 a).wf = true) : 0 ≤ a ∧ a ≤ 255 := by
  simp [Lit.wf, IntKind.min, IntKind.max, IntKind.bits, IntKind.signed] at h; omega

theorem u8_eq {c : UInt8} {n : Nat} (hn : n < 256) (h : (c.toNat : Int) = (n : Int)) : c = UInt8.ofNat n := by
  have : c.toNat = n := by omega
  have h2 : c = UInt8.ofNat c.toNat := by simp
  rw [h2, this]

theorem parse_kind (l : List UInt8) : (parseL l).2 = 0 ∨ (parseL l).2 = 1 ∨ (parseL l).2 = 2 := by
  have h3 : ∀ m w f d, (parse3 m w f d).2 = 0 ∨ (parse3 m w f d).2 = 1 ∨ (parse3 m w f d).2 = 2 := by
    intro m w f d
    unfold parse3
    split
    · cases digs 0 (w ++ List.take 4 (pad5 f)) with
      | none => exact .inr (.inr rfl)
      | some n =>
        simp only [val]
        repeat' split
        all_goals first | exact .inr (.inr rfl) | exact .inr (.inl rfl)
    · exact .inl rfl
  unfold parseL
  split
  · exact h3 _ _ _ _
  · exact h3 _ _ _ _
end Go.Proofs.YtaldfmbnfnagjaaDoor.E
