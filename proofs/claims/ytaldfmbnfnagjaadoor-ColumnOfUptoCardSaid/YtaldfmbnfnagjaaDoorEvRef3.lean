/- The reference's numeral: what the printed function cadastreref03.Parse comes to (parseL). -/
import Derived.Test.YtaldfmbnfnagjaaDoorEvNumP
import Derived.Laws.BitsLemmas
namespace Go.Proofs.YtaldfmbnfnagjaaDoor.E
open Go.RowKit
set_option linter.unusedVariables false
set_option linter.unusedSimpArgs false
def hi (n : Nat) : Int := ((n / 18446744073709551616 : Nat) : Int)
def lo (n : Nat) : Int := ((n % 18446744073709551616 : Nat) : Int)
theorem hi_range {n : Nat} (h : n < 340282366920938463463374607431768211456) : 0 ≤ hi n ∧ hi n < 18446744073709551616 := by unfold hi; omega
theorem lo_range (n : Nat) : 0 ≤ lo n ∧ lo n < 18446744073709551616 := by unfold lo; omega
theorem bits_or1 {x y : Int} (h0 : 0 ≤ x) (h1 : x < 18446744073709551616) (h2 : x % 2 = 0) (h3 : 0 ≤ y) (h4 : y < 2) : Go.bits .or .u64 x y = x + y :=
  bits_join .u64 64 (by decide) (fun n a b => by rw [wrapu64]; omega) 1 x y h0 (by omega) (by omega) h3 (by omega) (by omega)
theorem up_eq {n : Nat} (h : n < 340282366920938463463374607431768211456) :
    cadastreref01_Up.f (hi n, lo n, ()) = some ((hi (2 * n % 340282366920938463463374607431768211456), lo (2 * n % 340282366920938463463374607431768211456), ()), ()) := by
  unfold cadastreref01_Up.f
  have h1 := hi_range h
  have h2 := lo_range n
  have e1 : (2 : Int) ^ (min ((1 : Int)).toNat 64) = 2 := by decide
  have e2 : (2 : Int) ^ (min ((63 : Int)).toNat 64) = 9223372036854775808 := by decide
  have hb := @bits_or1 (IntKind.u64.wrap (hi n * 2)) (Int.fdiv (lo n) 9223372036854775808) (by rw [wrapu64]; omega) (by rw [wrapu64]; omega) (by rw [wrapu64]; omega) (by rw [Int.fdiv_eq_ediv_of_nonneg _ (by decide)]; omega) (by rw [Int.fdiv_eq_ediv_of_nonneg _ (by decide)]; omega)
  have hb2 : IntKind.u64.wrap ((BitVec.ofInt 64 (IntKind.u64.wrap (hi n * 2)) ||| BitVec.ofInt 64 (Int.fdiv (lo n) 9223372036854775808)).toNat : Int) = IntKind.u64.wrap (hi n * 2) + Int.fdiv (lo n) 9223372036854775808 := hb
  simp only [e1, e2]
  rw [hb2, wrapu64, wrapu64, Int.fdiv_eq_ediv_of_nonneg _ (by decide)]
  refine congrArg some (Prod.ext (Prod.ext ?_ (Prod.ext ?_ rfl)) rfl)
  · change @Eq Int _ _; dsimp only; unfold hi lo; omega
  · change @Eq Int _ _; dsimp only; unfold lo; omega
theorem plus_eq {a b : Nat} (ha : a < 340282366920938463463374607431768211456) (hb : b < 340282366920938463463374607431768211456) :
    cadastreref01_PlusW.f (hi a, lo a, ()) (hi b, lo b, ()) = some ((hi ((a + b) % 340282366920938463463374607431768211456), lo ((a + b) % 340282366920938463463374607431768211456), ()), ()) := by
  unfold cadastreref01_PlusW.f
  simp only
  rw [wrapu64, wrapu64, wrapu64]
  by_cases h : (lo a + lo b) % 18446744073709551616 < lo a
  · rw [d_true h]
    refine congrArg some (Prod.ext (Prod.ext ?_ (Prod.ext ?_ rfl)) rfl)
    · change @Eq Int _ _; dsimp only; unfold hi lo at *; omega
    · change @Eq Int _ _; dsimp only; unfold lo at *; omega
  · rw [d_false h]
    refine congrArg some (Prod.ext (Prod.ext ?_ (Prod.ext ?_ rfl)) rfl)
    · change @Eq Int _ _; dsimp only; unfold hi lo at *; omega
    · change @Eq Int _ _; dsimp only; unfold lo at *; omega
theorem times_eq {n : Nat} (h : n < 340282366920938463463374607431768211456) :
    cadastreref03_times.f (hi n, lo n, ()) = some ((hi (10 * n % 340282366920938463463374607431768211456), lo (10 * n % 340282366920938463463374607431768211456), ()), ()) := by
  unfold cadastreref03_times.f
  rw [up_eq h]
  simp only [Option.bind_some]
  rw [up_eq (Nat.mod_lt _ (by decide))]
  simp only [Option.bind_some]
  rw [up_eq (Nat.mod_lt _ (by decide))]
  simp only [Option.bind_some]
  rw [plus_eq (Nat.mod_lt _ (by decide)) (Nat.mod_lt _ (by decide))]
  simp only [Option.bind_some]
  have e : (2 * n % 340282366920938463463374607431768211456 + 2 * (2 * (2 * n % 340282366920938463463374607431768211456) % 340282366920938463463374607431768211456) % 340282366920938463463374607431768211456) % 340282366920938463463374607431768211456 = 10 * n % 340282366920938463463374607431768211456 := by omega
  rw [e]

/-! ### where digits end -/
theorem sidx_mk (l : List UInt8) (i : Nat) (h : i < l.length) : sidx (bmk l) (i : Int) = some ((l.getD i 0).toNat : Int) := by
  rw [sidx_some (by omega), List.getD_eq_getElem?_getD]
  show Option.map _ (l[(i : Int).toNat]?) = _
  rw [show (i : Int).toNat = i by omega, List.getElem?_eq_getElem h]; rfl
theorem end_eq (l : List UInt8) (hl : l.length ≤ 1048576) (i : Nat) (hi : i ≤ l.length) : cadastreref03_end.f (bmk l) (i : Int) = some (((i + ((l.drop i).takeWhile isDig).length : Nat) : Int), ()) := by
  unfold cadastreref03_end.f
  have key := loop_ind (s := cadastreref03_end.l0) (fun x r => ∀ j : Nat, x = (bmk l, (j : Int), ()) → j ≤ l.length → r = some (((j + ((l.drop j).takeWhile isDig).length : Nat) : Int), ())) (fun x => l.length - x.2.1.toNat) ?_
  · exact key _ _ (by show l.length - ((i : Int)).toNat < 64 + (bmk l).size + _; rw [show (bmk l).size = l.length from rfl]; omega) i rfl hi
  · rintro x rec ih j rfl hj
    unfold cadastreref03_end.l0
    simp only
    rw [show (bmk l).size = l.length from rfl]
    by_cases h : j < l.length
    · have hc : (j : Int) < (l.length : Int) := by omega
      rw [decide_eq_true hc, c_true (by rfl), sidx_mk l j h]
      simp only [Option.bind_some]
      rw [getD_drop h, List.takeWhile_cons]
      generalize hcc : l.getD j 0 = c
      by_cases h1 : ((c.toNat : Int) ≥ 48)
      · rw [decide_eq_true h1, c_true (by rfl)]
        by_cases h2 : ((c.toNat : Int) ≤ 57)
        · have hd : isDig c = true := by unfold isDig; rw [Bool.and_eq_true, decide_eq_true_eq, decide_eq_true_eq]; omega
          rw [d_true h2, hd, if_pos rfl, w64 (by omega) (by omega), ih _ (by simp only; omega) (j + 1) (by congr 1) (by omega), List.length_cons]
          congr 2; omega
        · have hd : isDig c = false := by unfold isDig; rw [Bool.and_eq_false_iff, decide_eq_false_iff_not, decide_eq_false_iff_not]; omega
          rw [d_false h2, hd]; simp
      · have hd : isDig c = false := by unfold isDig; rw [Bool.and_eq_false_iff, decide_eq_false_iff_not, decide_eq_false_iff_not]; omega
        rw [decide_eq_false h1, c_false (by rfl), hd]; simp
    · have hc : ¬ (j : Int) < (l.length : Int) := by omega
      rw [decide_eq_false hc, c_false (by rfl), List.drop_of_length_le (by omega)]; rfl

theorem digitsL_of {l : List UInt8} (h1 : l ≠ []) (h2 : l.length ≤ 40) (h3 : l.all isDig = true) : digitsL l = true := by
  unfold digitsL; rw [h3, decide_eq_true h2, Bool.and_true, Bool.and_true]
  cases l with
  | nil => exact absurd rfl h1
  | cons _ _ => rfl
/-! ### the reference's numeral, in lists -/
def refP (minus : Bool) (s : List UInt8) : Int × Int :=
  if s.takeWhile isDig = [] ∨ 40 < (s.takeWhile isDig).length then (0, 0)
  else match s.dropWhile isDig with
    | [] => told minus (numeral (s.takeWhile isDig) [])
    | c :: f => if c ≠ 46 ∨ f = [] ∨ 40 < (f.takeWhile isDig).length ∨ f.takeWhile isDig ≠ f then (0, 0) else told minus (numeral (s.takeWhile isDig) f)
theorem digitsL_long {l : List UInt8} (h : 40 < l.length) : digitsL l = false := by
  unfold digitsL; rw [decide_eq_false (by omega)]; simp
theorem digitsL_bad {l : List UInt8} (h : l = [] ∨ 40 < l.length) : digitsL l = false := by
  rcases h with h | h
  · rw [h]; rfl
  · exact digitsL_long h
theorem tw_self {l : List UInt8} (h : l.all isDig = true) : l.takeWhile isDig = l := by
  induction l with
  | nil => rfl
  | cons c l ih =>
    simp only [List.all_cons, Bool.and_eq_true] at h
    rw [List.takeWhile_cons, h.1, if_pos rfl, ih h.2]
theorem tw_all (l : List UInt8) : (l.takeWhile isDig).all isDig = true := List.all_takeWhile
theorem refP_eq (minus : Bool) (s : List UInt8) : refP minus s = parse3 minus (Lib.cut s [46]).1 (Lib.cut s [46]).2.1 (Lib.cut s [46]).2.2 := by
  have hs : s.takeWhile isDig ++ s.dropWhile isDig = s := List.takeWhile_append_dropWhile
  have ha := tw_all s
  unfold refP
  generalize s.takeWhile isDig = w at hs ha ⊢
  cases hr : s.dropWhile isDig with
  | nil =>
    rw [hr, List.append_nil] at hs
    subst hs
    rw [cut_miss _ (all_ne ha)]
    by_cases hb : w = [] ∨ 40 < w.length
    · rw [if_pos hb, parse3_bad]
      exact .inl (digitsL_bad hb)
    · rw [if_neg hb, parse3_good _ _ _ _ (digitsL_of (fun h => hb (.inl h)) (by omega) ha) (.inl rfl) (fun _ => rfl)]
  | cons c f =>
    have hc : isDig c = false := by
      have h4 := List.head?_dropWhile_not isDig s
      rw [hr] at h4
      simpa using h4
    rw [hr] at hs
    by_cases h46 : c = 46
    · subst h46
      rw [← hs, cut_hit _ _ (all_ne ha)]
      by_cases hb : w = [] ∨ 40 < w.length
      · rw [if_pos hb, parse3_bad]
        exact .inl (digitsL_bad hb)
      · rw [if_neg hb]
        have hw := digitsL_of (fun h => hb (.inl h)) (by omega) ha
        simp only
        by_cases hf : (46 : UInt8) ≠ 46 ∨ f = [] ∨ 40 < (f.takeWhile isDig).length ∨ f.takeWhile isDig ≠ f
        · rw [if_pos hf, parse3_bad]
          right
          refine ⟨rfl, ?_⟩
          cases hd : digitsL f with
          | false => rfl
          | true =>
            exfalso
            simp only [digitsL, Bool.and_eq_true, decide_eq_true_eq] at hd
            have ht : f.takeWhile isDig = f := tw_self hd.2
            rw [ht] at hf
            rcases hf with h | h | h | h
            · exact h rfl
            · rw [h] at hd; simp at hd
            · omega
            · exact h rfl
        · rw [if_neg hf]
          have hf2 : f ≠ [] ∧ (f.takeWhile isDig).length ≤ 40 ∧ f.takeWhile isDig = f := by
            refine ⟨fun h => hf (.inr (.inl h)), ?_, ?_⟩
            · exact Nat.le_of_not_lt fun h => hf (.inr (.inr (.inl h)))
            · exact Classical.byContradiction fun h => hf (.inr (.inr (.inr h)))
          have hfa : f.all isDig = true := by rw [← hf2.2.2]; exact tw_all f
          rw [parse3_good _ _ _ _ hw (.inr (digitsL_of hf2.1 (by rw [← hf2.2.2]; exact hf2.2.1) hfa)) (fun h => by cases h)]
    · have hbad : digitsL (Lib.cut s [46]).1 = false := by
        cases hd : digitsL (Lib.cut s [46]).1 with
        | false => rfl
        | true =>
          exfalso
          simp only [digitsL, Bool.and_eq_true] at hd
          -- the head of what is left lies in the whole part
          have hne : ∀ x ∈ (w ++ [c]), x ≠ 46 := by
            intro x hx
            rcases List.mem_append.1 hx with h | h
            · exact all_ne ha x h
            · simp at h; rw [h]; exact h46
          have hmem : c ∈ (Lib.cut s [46]).1 := by
            by_cases h : 46 ∈ f
            · obtain ⟨p, q, hpq, hp⟩ : ∃ p q, f = p ++ 46 :: q ∧ ∀ x ∈ p, x ≠ 46 := by
                clear hs hr
                induction f with
                | nil => cases h
                | cons y f ih =>
                  by_cases hy : y = 46
                  · exact ⟨[], f, by rw [hy]; rfl, by simp⟩
                  · rcases List.mem_cons.1 h with h | h
                    · exact absurd h.symm hy
                    · obtain ⟨p, q, h1, h2⟩ := ih h
                      refine ⟨y :: p, q, by rw [h1]; rfl, ?_⟩
                      intro x hx
                      rcases List.mem_cons.1 hx with hx | hx
                      · rw [hx]; exact hy
                      · exact h2 x hx
              have : s = (w ++ c :: p) ++ 46 :: q := by rw [← hs, hpq]; simp
              rw [this, cut_hit]
              · simp
              · intro x hx
                rcases List.mem_append.1 hx with h | h
                · exact all_ne ha x h
                · rcases List.mem_cons.1 h with h | h
                  · rw [h]; exact h46
                  · exact hp x h
            · have : ∀ x ∈ s, x ≠ 46 := by
                intro x hx
                rw [← hs] at hx
                rcases List.mem_append.1 hx with h1 | h1
                · exact all_ne ha x h1
                · rcases List.mem_cons.1 h1 with h1 | h1
                  · rw [h1]; exact h46
                  · rintro rfl; exact h h1
              rw [cut_miss _ this, ← hs]; simp
          have := List.all_eq_true.1 hd.2 c hmem
          rw [hc] at this; cases this
      rw [parse3_bad _ _ _ _ (.inl hbad)]
      split
      · rfl
      · simp [h46]

/-! ### the reference's loop -/
theorem signed_eq (neg : Bool) {n : Nat} (h : n < 340282366920938463463374607431768211456) :
    cadastreref01_Signed.f neg (hi n, lo n, ()) = some (if n ≤ 9223372036854775807 then (if neg then -(n : Int) else (n : Int), true, ()) else (0, false, ())) := by
  unfold cadastreref01_Signed.f
  simp only
  by_cases h1 : hi n > 0
  · rw [decide_eq_true h1, c_false (by rfl), if_neg (by unfold hi at h1; omega)]
  · rw [decide_eq_false h1, c_true (by rfl)]
    have hlo : lo n = (n : Int) := by unfold hi at h1; unfold lo; omega
    rw [hlo]
    by_cases h2 : n ≤ 9223372036854775807
    · rw [if_pos h2, d_false (show ¬ (n : Int) > 9223372036854775807 by omega), w64 (x := (n : Int)) (by omega) (by omega), w64 (x := 0 - (n : Int)) (by omega) (by omega)]
      cases neg
      · rfl
      · rw [Int.zero_sub]; rfl
    · rw [if_neg h2, d_true (show (n : Int) > 9223372036854775807 by omega)]

/-- What is known of the two words and of 'great' when the exact number is m. -/
def Words (m : Nat) (great : Bool) (n : Nat) : Prop := n < 340282366920938463463374607431768211456 ∧ (great = false → n = m ∧ m < 20769187434139310514121985316880384) ∧ (great = true → 20769187434139310514121985316880384 ≤ m)
theorem words_step {m n : Nat} {great : Bool} (h : Words m great n) (d : Nat) (hd : d < 10) :
    ∃ n', cadastreref03_times.f (hi n, lo n, ()) = some ((hi (10 * n % 340282366920938463463374607431768211456), lo (10 * n % 340282366920938463463374607431768211456), ()), ()) ∧
      cadastreref01_PlusW.f (hi (10 * n % 340282366920938463463374607431768211456), lo (10 * n % 340282366920938463463374607431768211456), ()) (0, (d : Int), ()) = some ((hi n', lo n', ()), ()) ∧
      Words (10 * m + d) (if great = true then true else decide (hi n' ≥ 1125899906842624)) n' := by
  obtain ⟨h1, h2, h3⟩ := h
  have e := plus_eq (a := 10 * n % 340282366920938463463374607431768211456) (b := d) (Nat.mod_lt _ (by decide)) (by omega)
  have eh : hi d = 0 := by unfold hi; omega
  have el : lo d = (d : Int) := by unfold lo; omega
  rw [eh, el] at e
  refine ⟨_, times_eq h1, e, Nat.mod_lt _ (by decide), ?_, ?_⟩
  · intro hg
    cases great with
    | true => simp at hg
    | false =>
      obtain ⟨rfl, hm⟩ := h2 rfl
      simp only [Bool.false_eq_true, if_false, decide_eq_false_iff_not] at hg
      have e1 : 10 * n % 340282366920938463463374607431768211456 = 10 * n := Nat.mod_eq_of_lt (by omega)
      have e2 : (10 * n + d) % 340282366920938463463374607431768211456 = 10 * n + d := Nat.mod_eq_of_lt (by omega)
      rw [e1, e2] at hg ⊢
      unfold hi at hg
      exact ⟨rfl, by omega⟩
  · intro hg
    cases great with
    | true => have := h3 rfl; omega
    | false =>
      obtain ⟨rfl, hm⟩ := h2 rfl
      simp only [Bool.false_eq_true, if_false, decide_eq_true_eq] at hg
      have e1 : 10 * n % 340282366920938463463374607431768211456 = 10 * n := Nat.mod_eq_of_lt (by omega)
      have e2 : (10 * n + d) % 340282366920938463463374607431768211456 = 10 * n + d := Nat.mod_eq_of_lt (by omega)
      rw [e1, e2] at hg
      unfold hi at hg
      omega

theorem take_tw (s : List UInt8) : s.take (s.takeWhile isDig).length = s.takeWhile isDig := by
  have h := List.takeWhile_append_dropWhile (p := isDig) (l := s)
  have h2 : ((s.takeWhile isDig) ++ (s.dropWhile isDig)).take (s.takeWhile isDig).length = s.takeWhile isDig := List.take_left
  rwa [h] at h2
theorem drop_tw (s : List UInt8) : s.drop (s.takeWhile isDig).length = s.dropWhile isDig := by
  have h := List.takeWhile_append_dropWhile (p := isDig) (l := s)
  have h2 : ((s.takeWhile isDig) ++ (s.dropWhile isDig)).drop (s.takeWhile isDig).length = s.dropWhile isDig := List.drop_left
  rwa [h] at h2
theorem tw_len (s : List UInt8) : (s.takeWhile isDig).length ≤ s.length := (List.takeWhile_prefix isDig).length_le

end Go.Proofs.YtaldfmbnfnagjaaDoor.E
