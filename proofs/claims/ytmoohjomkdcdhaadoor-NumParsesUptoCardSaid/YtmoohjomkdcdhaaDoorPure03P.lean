/- The plain statement of NumParses: what num.Parse comes to (parseL) is what the reference comes to, at every text of at most 1048576 bytes. -/
import Derived.Test.YtmoohjomkdcdhaaDoorPure03
import Derived.Laws.BitsLemmas
namespace Go.Proofs.YtmoohjomkdcdhaaDoor.Y
open Go.RowKit Go.Proofs.YtmoohjomkdcdhaaDoor.X Go.Proofs.YtmoohjomkdcdhaaDoorW.PrintWords Go.Proofs.YtmoohjomkdcdhaaDoorW.PrintLast Go.Proofs.YtmoohjomkdcdhaaDoorW.PrintMore
set_option linter.unusedVariables false
set_option linter.unusedSimpArgs false

/-! ### two words -/
theorem wrapu (n : Int) : IntKind.u64.wrap n = n % 18446744073709551616 := by simp [IntKind.wrap, IntKind.bits, IntKind.signed]
def hi (n : Nat) : Int := ((n / 18446744073709551616 : Nat) : Int)
def lo (n : Nat) : Int := ((n % 18446744073709551616 : Nat) : Int)
theorem hi_range {n : Nat} (h : n < 340282366920938463463374607431768211456) : 0 ≤ hi n ∧ hi n < 18446744073709551616 := by unfold hi; omega
theorem lo_range (n : Nat) : 0 ≤ lo n ∧ lo n < 18446744073709551616 := by unfold lo; omega
theorem bits_or1 {x y : Int} (h0 : 0 ≤ x) (h1 : x < 18446744073709551616) (h2 : x % 2 = 0) (h3 : 0 ≤ y) (h4 : y < 2) : Go.bits .or .u64 x y = x + y :=
  bits_join .u64 64 (by decide) (fun n a b => by rw [wrapu]; omega) 1 x y h0 (by omega) (by omega) h3 (by omega) (by omega)
theorem up_eq {n : Nat} (h : n < 340282366920938463463374607431768211456) :
    cadastreref01_Up.f (hi n) (lo n) = some (hi (2 * n % 340282366920938463463374607431768211456), lo (2 * n % 340282366920938463463374607431768211456)) := by
  unfold cadastreref01_Up.f
  have h1 := hi_range h
  have h2 := lo_range n
  rw [wrapu, wrapu, bits_or1 (by omega) (by omega) (by omega) (by omega) (by omega)]
  congr 2
  · unfold hi lo; omega
  · unfold lo; omega
theorem plus_eq {a b : Nat} (ha : a < 340282366920938463463374607431768211456) (hb : b < 340282366920938463463374607431768211456) :
    cadastreref01_PlusW.f (hi a) (lo a) (hi b) (lo b) = some (hi ((a + b) % 340282366920938463463374607431768211456), lo ((a + b) % 340282366920938463463374607431768211456)) := by
  unfold cadastreref01_PlusW.f
  rw [wrapu, wrapu, wrapu]
  by_cases h : (lo a + lo b) % 18446744073709551616 < lo a
  · rw [if_pos h]
    congr 2
    · unfold hi lo at *; omega
    · unfold lo at *; omega
  · rw [if_neg h]
    congr 2
    · unfold hi lo at *; omega
    · unfold lo at *; omega
theorem times_eq {n : Nat} (h : n < 340282366920938463463374607431768211456) :
    cadastreref03_times.f (hi n) (lo n) = some (hi (10 * n % 340282366920938463463374607431768211456), lo (10 * n % 340282366920938463463374607431768211456)) := by
  unfold cadastreref03_times.f
  rw [up_eq h]
  simp only [Option.bind_some]
  rw [up_eq (Nat.mod_lt _ (by decide))]
  simp only [Option.bind_some]
  rw [up_eq (Nat.mod_lt _ (by decide))]
  simp only [Option.bind_some]
  rw [plus_eq (Nat.mod_lt _ (by decide)) (Nat.mod_lt _ (by decide))]
  simp only [Option.bind_some]
  congr 2 <;> congr 1 <;> omega

/-! ### where digits end -/
theorem dig_bt (l : List UInt8) (i : Nat) (h : i < l.length) : isDig (l.getD i 0) = (decide (bt (mk l) (i : Int) ≥ 48) && decide (bt (mk l) (i : Int) ≤ 57)) := by
  rw [bt_mk, show ((i : Int)).toNat = i by omega]
  unfold isDig
  rw [Bool.eq_iff_iff]; simp; omega
theorem end_eq (l : List UInt8) (hl : l.length ≤ 1048576) : ∀ (d i k : Nat), l.length - i = d → i ≤ l.length → d < k →
    cadastreref03_end.l0 k (mk l) (i : Int) = some ((i + ((l.drop i).takeWhile isDig).length : Nat) : Int) := by
  intro d
  induction d with
  | zero =>
    intro i k hd hi hk
    obtain ⟨k, rfl⟩ : ∃ m, k = m + 1 := ⟨k - 1, by omega⟩
    rw [cadastreref03_end.l0, mk_size, if_neg (by omega), List.drop_of_length_le (by omega)]; rfl
  | succ d ih =>
    intro i k hd hi hk
    obtain ⟨k, rfl⟩ : ∃ m, k = m + 1 := ⟨k - 1, by omega⟩
    have hlt : i < l.length := by omega
    rw [cadastreref03_end.l0, mk_size, if_pos (by omega), if_pos (by omega), w64 (by omega) (by omega), getD_drop hlt, List.takeWhile_cons, dig_bt l i hlt]
    by_cases h1 : bt (mk l) (i : Int) ≥ 48
    · rw [if_pos h1, decide_eq_true h1]
      by_cases h2 : bt (mk l) (i : Int) ≤ 57
      · rw [if_pos h2, decide_eq_true h2, show (i : Int) + 1 = ((i + 1 : Nat) : Int) by omega, ih (i + 1) k (by omega) (by omega) (by omega)]
        simp; omega
      · rw [if_neg h2, decide_eq_false h2]; simp
    · rw [if_neg h1, decide_eq_false h1]; simp

/-! ### the reference's numeral, in lists -/
def refP (minus : Bool) (s : List UInt8) : Int × Int :=
  if s.takeWhile isDig = [] ∨ 40 < (s.takeWhile isDig).length then (0, 0)
  else match s.dropWhile isDig with
    | [] => told minus (numeral (s.takeWhile isDig) [])
    | c :: f => if c ≠ 46 ∨ f = [] ∨ 40 < (f.takeWhile isDig).length ∨ f.takeWhile isDig ≠ f then (0, 0) else told minus (numeral (s.takeWhile isDig) f)
theorem digitsL_long {l : List UInt8} (h : 40 < l.length) : digitsL l = false := by
  unfold digitsL; rw [decide_eq_false (by omega)]; simp
theorem digitsL_bad {l : List UInt8} (h : l = [] ∨ 40 < l.length) : digitsL l = false := by
  rcases h with h | h
  · rw [h]; rfl
  · exact digitsL_long h
theorem tw_self {l : List UInt8} (h : l.all isDig = true) : l.takeWhile isDig = l := by
  induction l with
  | nil => rfl
  | cons c l ih =>
    simp only [List.all_cons, Bool.and_eq_true] at h
    rw [List.takeWhile_cons, h.1, if_pos rfl, ih h.2]
theorem tw_all (l : List UInt8) : (l.takeWhile isDig).all isDig = true := List.all_takeWhile
theorem refP_eq (minus : Bool) (s : List UInt8) : refP minus s = parse3 minus (Lib.cut s [46]).1 (Lib.cut s [46]).2.1 (Lib.cut s [46]).2.2 := by
  have hs : s.takeWhile isDig ++ s.dropWhile isDig = s := List.takeWhile_append_dropWhile
  have ha := tw_all s
  unfold refP
  generalize s.takeWhile isDig = w at hs ha ⊢
  cases hr : s.dropWhile isDig with
  | nil =>
    rw [hr, List.append_nil] at hs
    subst hs
    rw [cut_miss _ (all_ne ha)]
    by_cases hb : w = [] ∨ 40 < w.length
    · rw [if_pos hb, parse3_bad]
      exact .inl (digitsL_bad hb)
    · rw [if_neg hb, parse3_good _ _ _ _ (digitsL_of (fun h => hb (.inl h)) (by omega) ha) (.inl rfl) (fun _ => rfl)]
  | cons c f =>
    have hc : isDig c = false := by
      have h4 := List.head?_dropWhile_not isDig s
      rw [hr] at h4
      simpa using h4
    rw [hr] at hs
    by_cases h46 : c = 46
    · subst h46
      rw [← hs, cut_hit _ _ (all_ne ha)]
      by_cases hb : w = [] ∨ 40 < w.length
      · rw [if_pos hb, parse3_bad]
        exact .inl (digitsL_bad hb)
      · rw [if_neg hb]
        have hw := digitsL_of (fun h => hb (.inl h)) (by omega) ha
        simp only
        by_cases hf : (46 : UInt8) ≠ 46 ∨ f = [] ∨ 40 < (f.takeWhile isDig).length ∨ f.takeWhile isDig ≠ f
        · rw [if_pos hf, parse3_bad]
          right
          refine ⟨rfl, ?_⟩
          cases hd : digitsL f with
          | false => rfl
          | true =>
            exfalso
            simp only [digitsL, Bool.and_eq_true, decide_eq_true_eq] at hd
            have ht : f.takeWhile isDig = f := tw_self hd.2
            rw [ht] at hf
            rcases hf with h | h | h | h
            · exact h rfl
            · rw [h] at hd; simp at hd
            · omega
            · exact h rfl
        · rw [if_neg hf]
          have hf2 : f ≠ [] ∧ (f.takeWhile isDig).length ≤ 40 ∧ f.takeWhile isDig = f := by
            refine ⟨fun h => hf (.inr (.inl h)), ?_, ?_⟩
            · exact Nat.le_of_not_lt fun h => hf (.inr (.inr (.inl h)))
            · exact Classical.byContradiction fun h => hf (.inr (.inr (.inr h)))
          have hfa : f.all isDig = true := by rw [← hf2.2.2]; exact tw_all f
          rw [parse3_good _ _ _ _ hw (.inr (digitsL_of hf2.1 (by rw [← hf2.2.2]; exact hf2.2.1) hfa)) (fun h => by cases h)]
    · have hbad : digitsL (Lib.cut s [46]).1 = false := by
        cases hd : digitsL (Lib.cut s [46]).1 with
        | false => rfl
        | true =>
          exfalso
          simp only [digitsL, Bool.and_eq_true] at hd
          -- the head of what is left lies in the whole part
          have hne : ∀ x ∈ (w ++ [c]), x ≠ 46 := by
            intro x hx
            rcases List.mem_append.1 hx with h | h
            · exact all_ne ha x h
            · simp at h; rw [h]; exact h46
          have hmem : c ∈ (Lib.cut s [46]).1 := by
            by_cases h : 46 ∈ f
            · obtain ⟨p, q, hpq, hp⟩ : ∃ p q, f = p ++ 46 :: q ∧ ∀ x ∈ p, x ≠ 46 := by
                clear hs hr
                induction f with
                | nil => cases h
                | cons y f ih =>
                  by_cases hy : y = 46
                  · exact ⟨[], f, by rw [hy]; rfl, by simp⟩
                  · rcases List.mem_cons.1 h with h | h
                    · exact absurd h.symm hy
                    · obtain ⟨p, q, h1, h2⟩ := ih h
                      refine ⟨y :: p, q, by rw [h1]; rfl, ?_⟩
                      intro x hx
                      rcases List.mem_cons.1 hx with hx | hx
                      · rw [hx]; exact hy
                      · exact h2 x hx
              have : s = (w ++ c :: p) ++ 46 :: q := by rw [← hs, hpq]; simp
              rw [this, cut_hit]
              · simp
              · intro x hx
                rcases List.mem_append.1 hx with h | h
                · exact all_ne ha x h
                · rcases List.mem_cons.1 h with h | h
                  · rw [h]; exact h46
                  · exact hp x h
            · have : ∀ x ∈ s, x ≠ 46 := by
                intro x hx
                rw [← hs] at hx
                rcases List.mem_append.1 hx with h1 | h1
                · exact all_ne ha x h1
                · rcases List.mem_cons.1 h1 with h1 | h1
                  · rw [h1]; exact h46
                  · rintro rfl; exact h h1
              rw [cut_miss _ this, ← hs]; simp
          have := List.all_eq_true.1 hd.2 c hmem
          rw [hc] at this; cases this
      rw [parse3_bad _ _ _ _ (.inl hbad)]
      split
      · rfl
      · simp [h46]

/-! ### the reference's loop -/
theorem signed_eq (neg : Bool) {n : Nat} (h : n < 340282366920938463463374607431768211456) : ∀ k, 1 ≤ k →
    cadastreref01_Signed.f k neg (hi n) (lo n) = some (if n ≤ 9223372036854775807 then (if neg then -(n : Int) else (n : Int), true) else (0, false)) := by
  intro k hk
  obtain ⟨k, rfl⟩ : ∃ m, k = m + 1 := ⟨k - 1, by omega⟩
  unfold cadastreref01_Signed.f
  simp only [cadastreref01_Signed.j0]
  by_cases h1 : hi n > 0
  · rw [if_pos h1, if_pos trivial, if_neg (by unfold hi at h1; omega)]
  · rw [if_neg h1]
    have hlo : lo n = (n : Int) := by unfold hi at h1; unfold lo; omega
    rw [hlo]
    by_cases h2 : n ≤ 9223372036854775807
    · rw [if_pos h2, if_neg (by simp; omega), w64 (x := (n : Int)) (by omega) (by omega), w64 (x := -(n : Int)) (by omega) (by omega)]
      cases neg <;> rfl
    · rw [if_neg h2, if_pos (by simp; omega)]

/-- What is known of the two words and of 'great' when the exact number is m. -/
def Words (m : Nat) (great : Bool) (n : Nat) : Prop := n < 340282366920938463463374607431768211456 ∧ (great = false → n = m ∧ m < 20769187434139310514121985316880384) ∧ (great = true → 20769187434139310514121985316880384 ≤ m)
theorem words_step {m n : Nat} {great : Bool} (h : Words m great n) (d : Nat) (hd : d < 10) :
    ∃ n', cadastreref03_times.f (hi n) (lo n) = some (hi (10 * n % 340282366920938463463374607431768211456), lo (10 * n % 340282366920938463463374607431768211456)) ∧
      cadastreref01_PlusW.f (hi (10 * n % 340282366920938463463374607431768211456)) (lo (10 * n % 340282366920938463463374607431768211456)) 0 (d : Int) = some (hi n', lo n') ∧
      Words (10 * m + d) (if great = true then true else decide (hi n' ≥ 1125899906842624)) n' := by
  obtain ⟨h1, h2, h3⟩ := h
  have e := plus_eq (a := 10 * n % 340282366920938463463374607431768211456) (b := d) (Nat.mod_lt _ (by decide)) (by omega)
  have eh : hi d = 0 := by unfold hi; omega
  have el : lo d = (d : Int) := by unfold lo; omega
  rw [eh, el] at e
  refine ⟨_, times_eq h1, e, Nat.mod_lt _ (by decide), ?_, ?_⟩
  · intro hg
    cases great with
    | true => simp at hg
    | false =>
      obtain ⟨rfl, hm⟩ := h2 rfl
      simp only [Bool.false_eq_true, if_false, decide_eq_false_iff_not] at hg
      have e1 : 10 * n % 340282366920938463463374607431768211456 = 10 * n := Nat.mod_eq_of_lt (by omega)
      have e2 : (10 * n + d) % 340282366920938463463374607431768211456 = 10 * n + d := Nat.mod_eq_of_lt (by omega)
      rw [e1, e2] at hg ⊢
      unfold hi at hg
      exact ⟨rfl, by omega⟩
  · intro hg
    cases great with
    | true => have := h3 rfl; omega
    | false =>
      obtain ⟨rfl, hm⟩ := h2 rfl
      simp only [Bool.false_eq_true, if_false, decide_eq_true_eq] at hg
      have e1 : 10 * n % 340282366920938463463374607431768211456 = 10 * n := Nat.mod_eq_of_lt (by omega)
      have e2 : (10 * n + d) % 340282366920938463463374607431768211456 = 10 * n + d := Nat.mod_eq_of_lt (by omega)
      rw [e1, e2] at hg
      unfold hi at hg
      omega

theorem j5_eq (at_ : Nat) (great : Bool) (five : Bool) (m n : Nat) (h : Words m great n) : ∀ k, 2 ≤ k →
    cadastreref03_Parse.j5 k (at_ : Int) great five (hi n) (lo n) = some (told (at_ == 1) (m + if five then 1 else 0)) := by
  intro k hk
  obtain ⟨k, rfl⟩ : ∃ m, k = m + 1 := ⟨k - 1, by omega⟩
  obtain ⟨h1, h2, h3⟩ := h
  have hb : ((at_ : Int) == 1) = (at_ == 1) := by rw [Bool.eq_iff_iff]; simp; omega
  rw [cadastreref03_Parse.j5, hb]
  have key : ∀ n2 m2, n2 < 340282366920938463463374607431768211456 → (great = false → n2 = m2) → (great = true → 9223372036854775807 < m2) →
      ((cadastreref01_Signed.f k (at_ == 1) (hi n2) (lo n2)).bind fun bt => if great = true then some (0, 2) else if bt.2 = true then some (bt.1, 1) else some (0, 2)) = some (told (at_ == 1) m2) := by
    intro n2 m2 hn hg1 hg2
    rw [signed_eq _ hn k (by omega)]
    simp only [Option.bind_some]
    unfold told
    cases great with
    | true => rw [if_pos rfl, if_neg (by have := hg2 rfl; omega)]
    | false =>
      rw [if_neg (by decide), hg1 rfl]
      by_cases hm : m2 ≤ 9223372036854775807
      · rw [if_pos hm, if_pos hm]; simp
      · rw [if_neg hm, if_neg hm]; simp
  cases five with
  | true =>
    rw [if_pos rfl, if_pos rfl]
    have e := plus_eq h1 (b := 1) (by decide)
    have eh : hi 1 = 0 := rfl
    have el : lo 1 = 1 := rfl
    rw [eh, el] at e
    rw [e]
    simp only [Option.bind_some]
    exact key _ _ (Nat.mod_lt _ (by decide)) (fun hg => by obtain ⟨rfl, hm⟩ := h2 hg; omega) (fun hg => by have := h3 hg; omega)
  | false =>
    rw [if_neg (by decide), if_neg (by decide), Nat.add_zero]
    exact key _ _ h1 (fun hg => (h2 hg).1) (fun hg => by have := h3 hg; omega)

theorem dig_val {l : List UInt8} {i : Nat} (h : isDig (l.getD i 0) = true) : ∃ d : Nat, d < 10 ∧ ((bt (mk l) (i : Int)) - 48) % 256 = (d : Int) ∧ (l.getD i 0).toNat - 48 = d := by
  rw [bt_mk, show ((i : Int)).toNat = i by omega]
  have : 48 ≤ (l.getD i 0).toNat ∧ (l.getD i 0).toNat ≤ 57 := by simpa [isDig] using h
  exact ⟨(l.getD i 0).toNat - 48, by omega, by omega, rfl⟩

/-- The loop, from a place behind the dot on. -/
theorem loop_frac (l : List UInt8) (hl : l.length ≤ 1048576) (at_ dot last : Nat) (hd1 : at_ ≤ dot) (hd2 : dot ≤ l.length) (hla : last ≤ l.length) (hla2 : dot ≤ last)
    (frac : List UInt8) (hfr : frac = (l.drop (dot + 1)).take (last - (dot + 1))) (hfa : frac.all isDig = true) :
    ∀ (c j : Nat) (m n : Nat) (great : Bool), 4 - j = c → j ≤ 4 → Words m great n → ∀ k, c + 3 ≤ k →
      cadastreref03_Parse.l0 k (mk l) (at_ : Int) (dot : Int) (last : Int) great ((dot + 1 + j : Nat) : Int) (hi n) (lo n) =
        some (told (at_ == 1) (fold10 m (((pad5 frac).take 4).drop j) + if ((pad5 frac).getD 4 0).toNat ≥ 53 then 1 else 0)) := by
  have hfl : frac.length = last - (dot + 1) := by rw [hfr, List.length_take, List.length_drop]; omega
  have hget : ∀ j, dot + 1 + j < last → (pad5 frac).getD j 0 = l.getD (dot + 1 + j) 0 ∧ isDig (l.getD (dot + 1 + j) 0) = true := by
    intro j hj
    have hjl : j < frac.length := by omega
    have e1 : (pad5 frac).getD j 0 = frac.getD j 0 := by
      unfold pad5
      rw [List.getD_eq_getElem?_getD, List.getD_eq_getElem?_getD, List.getElem?_append_left hjl]
    have e2 : frac.getD j 0 = l.getD (dot + 1 + j) 0 := by
      rw [List.getD_eq_getElem?_getD, List.getD_eq_getElem?_getD, hfr, List.getElem?_take, if_pos (by omega), List.getElem?_drop]
    refine ⟨by rw [e1, e2], ?_⟩
    rw [← e2, List.getD_eq_getElem?_getD, List.getElem?_eq_getElem hjl]
    exact List.all_eq_true.1 hfa _ (List.getElem_mem hjl)
  have hpad : ∀ j, j < 5 → last ≤ dot + 1 + j → (pad5 frac).getD j 0 = 48 := by
    intro j hj hjl
    unfold pad5
    rw [List.getD_eq_getElem?_getD, List.getElem?_append_right (by omega), List.getElem?_replicate, if_pos (by omega)]; rfl
  have hplen : 5 ≤ (pad5 frac).length := by unfold pad5; rw [List.length_append, List.length_replicate]; omega
  intro c
  induction c with
  | zero =>
    intro j m n great hc hj hw k hk
    obtain ⟨k, rfl⟩ : ∃ m, k = m + 1 := ⟨k - 1, by omega⟩
    obtain rfl : j = 4 := by omega
    rw [cadastreref03_Parse.l0, w64 (x := (dot : Int) + 5) (by omega) (by omega), show (dot : Int) + 5 = ((dot + 1 + 4 : Nat) : Int) from by omega, if_neg (by omega), mk_size]
    have hdr : ((pad5 frac).take 4).drop 4 = [] := by rw [List.drop_of_length_le]; rw [List.length_take]; omega
    rw [hdr, fold10_nil]
    by_cases hlast : dot + 1 + 4 < last
    · rw [if_pos (by omega), if_pos (by omega), if_pos (by omega)]
      have hg := (hget 4 hlast).1
      rw [j5_eq at_ great _ m n hw k (by omega), bt_mk, show (((dot + 1 + 4 : Nat) : Int)).toNat = dot + 1 + 4 by omega, ← hg]
      by_cases hf : ((pad5 frac).getD 4 0).toNat ≥ 53
      · rw [if_pos hf, decide_eq_true (by omega), if_pos rfl]
      · rw [if_neg hf, decide_eq_false (by omega), if_neg (by decide)]
    · rw [if_neg (by omega), j5_eq at_ great _ m n hw k (by omega), hpad 4 (by omega) (by omega)]; rfl
  | succ c ih =>
    intro j m n great hc hj hw k hk
    obtain ⟨k, rfl⟩ : ∃ m, k = m + 1 := ⟨k - 1, by omega⟩
    rw [cadastreref03_Parse.l0, w64 (x := (dot : Int) + 5) (by omega) (by omega), show (dot : Int) + 5 = ((dot + 1 + 4 : Nat) : Int) from by omega, w64 (x := ((dot + 1 + j : Nat) : Int) + 1) (by omega) (by omega), show ((dot + 1 + j : Nat) : Int) + 1 = ((dot + 1 + (j + 1) : Nat) : Int) from by omega, if_pos (by omega), if_neg (by omega), mk_size]
    have hdr : ((pad5 frac).take 4).drop j = (pad5 frac).getD j 0 :: ((pad5 frac).take 4).drop (j + 1) := by
      have hlen : j < ((pad5 frac).take 4).length := by rw [List.length_take]; omega
      rw [getD_drop hlen]
      congr 1
      rw [List.getD_eq_getElem?_getD, List.getD_eq_getElem?_getD, List.getElem?_take, if_pos (by omega)]
    rw [hdr, fold10_cons]
    by_cases hlast : dot + 1 + j < last
    · obtain ⟨hg1, hg2⟩ := hget j hlast
      obtain ⟨d, hd10, hd1, hd2⟩ := dig_val hg2
      obtain ⟨n', ht, hp, hw'⟩ := words_step hw d hd10
      rw [if_pos (by omega), if_pos (by omega), if_pos (by omega), ht]
      simp only [Option.bind_some]
      rw [hd1, hp]
      simp only [Option.bind_some]
      rw [hg1, hd2]
      have := ih (j + 1) (10 * m + d) n' _ (by omega) (by omega) hw' k (by omega)
      cases great with
      | true => rw [if_pos rfl]; rw [if_pos rfl] at this; exact this
      | false => rw [if_neg (by decide)]; rw [if_neg (by decide)] at this; exact this
    · obtain ⟨n', ht, hp, hw'⟩ := words_step hw 0 (by omega)
      rw [if_neg (by omega), ht]
      simp only [Option.bind_some]
      have hp0 : cadastreref01_PlusW.f (hi (10 * n % 340282366920938463463374607431768211456)) (lo (10 * n % 340282366920938463463374607431768211456)) 0 0 = some (hi n', lo n') := hp
      rw [hp0]
      simp only [Option.bind_some]
      rw [hpad j (by omega) (by omega)]
      have := ih (j + 1) (10 * m + 0) n' _ (by omega) (by omega) hw' k (by omega)
      cases great with
      | true => rw [if_pos rfl]; rw [if_pos rfl] at this; exact this
      | false => rw [if_neg (by decide)]; rw [if_neg (by decide)] at this; exact this

theorem loop_whole (l : List UInt8) (hl : l.length ≤ 1048576) (at_ dot last : Nat) (hd1 : at_ ≤ dot) (hd2 : dot ≤ l.length) (hla : last ≤ l.length) (hla2 : dot ≤ last)
    (frac whole : List UInt8) (hfr : frac = (l.drop (dot + 1)).take (last - (dot + 1))) (hfa : frac.all isDig = true) (hwh : whole = (l.drop at_).take (dot - at_)) (hwa : whole.all isDig = true) :
    ∀ (c i : Nat) (m n : Nat) (great : Bool), dot - i = c → at_ ≤ i → i ≤ dot → Words m great n → ∀ k, c + 9 ≤ k →
      cadastreref03_Parse.l0 k (mk l) (at_ : Int) (dot : Int) (last : Int) great (i : Int) (hi n) (lo n) =
        some (told (at_ == 1) (fold10 m (whole.drop (i - at_) ++ (pad5 frac).take 4) + if ((pad5 frac).getD 4 0).toNat ≥ 53 then 1 else 0)) := by
  have hwl : whole.length = dot - at_ := by rw [hwh, List.length_take, List.length_drop]; omega
  intro c
  induction c with
  | zero =>
    intro i m n great hc hi1 hi2 hw k hk
    obtain ⟨k, rfl⟩ : ∃ m, k = m + 1 := ⟨k - 1, by omega⟩
    obtain rfl : i = dot := by omega
    rw [cadastreref03_Parse.l0, w64 (x := (i : Int) + 5) (by omega) (by omega), w64 (x := (i : Int) + 1) (by omega) (by omega), show (i : Int) + 1 = ((i + 1 + 0 : Nat) : Int) from by omega, if_pos (by omega), if_pos rfl]
    rw [loop_frac l hl at_ i last hd1 hd2 hla hla2 frac hfr hfa 4 0 m n great rfl (by omega) hw k (by omega)]
    rw [show whole.drop (i - at_) = [] from List.drop_of_length_le (by omega), List.nil_append, List.drop_zero]
  | succ c ih =>
    intro i m n great hc hi1 hi2 hw k hk
    obtain ⟨k, rfl⟩ : ∃ m, k = m + 1 := ⟨k - 1, by omega⟩
    have hil : i - at_ < whole.length := by omega
    have hg : whole.getD (i - at_) 0 = l.getD i 0 := by
      rw [List.getD_eq_getElem?_getD, List.getD_eq_getElem?_getD, hwh, List.getElem?_take, if_pos (by omega), List.getElem?_drop, show at_ + (i - at_) = i by omega]
    have hdg : isDig (l.getD i 0) = true := by
      rw [← hg, List.getD_eq_getElem?_getD, List.getElem?_eq_getElem hil]
      exact List.all_eq_true.1 hwa _ (List.getElem_mem hil)
    obtain ⟨d, hd10, hdv1, hdv2⟩ := dig_val hdg
    obtain ⟨n', ht, hp, hw'⟩ := words_step hw d hd10
    rw [cadastreref03_Parse.l0, w64 (x := (dot : Int) + 5) (by omega) (by omega), w64 (x := (i : Int) + 1) (by omega) (by omega), show (i : Int) + 1 = ((i + 1 : Nat) : Int) from by omega, if_pos (by omega), if_neg (by omega), mk_size, if_pos (by omega), if_pos (by omega), if_pos (by omega), ht]
    simp only [Option.bind_some]
    rw [hdv1, hp]
    simp only [Option.bind_some]
    have := ih (i + 1) (10 * m + d) n' _ (by omega) (by omega) (by omega) hw' k (by omega)
    rw [getD_drop hil, List.cons_append, fold10_cons, hg, hdv2, show i - at_ + 1 = i + 1 - at_ by omega]
    cases great with
    | true => rw [if_pos rfl]; rw [if_pos rfl] at this; exact this
    | false => rw [if_neg (by decide)]; rw [if_neg (by decide)] at this; exact this

theorem take_tw (s : List UInt8) : s.take (s.takeWhile isDig).length = s.takeWhile isDig := by
  have h := List.takeWhile_append_dropWhile (p := isDig) (l := s)
  have h2 : ((s.takeWhile isDig) ++ (s.dropWhile isDig)).take (s.takeWhile isDig).length = s.takeWhile isDig := List.take_left
  rwa [h] at h2
theorem drop_tw (s : List UInt8) : s.drop (s.takeWhile isDig).length = s.dropWhile isDig := by
  have h := List.takeWhile_append_dropWhile (p := isDig) (l := s)
  have h2 : ((s.takeWhile isDig) ++ (s.dropWhile isDig)).drop (s.takeWhile isDig).length = s.dropWhile isDig := List.drop_left
  rwa [h] at h2
theorem tw_len (s : List UInt8) : (s.takeWhile isDig).length ≤ s.length := (List.takeWhile_prefix isDig).length_le

theorem j1_eq (l : List UInt8) (hl : l.length ≤ 1048576) (at_ : Nat) (ha : at_ ≤ l.length) : ∀ k, 1048700 ≤ k →
    cadastreref03_Parse.j1 k (mk l) (at_ : Int) = some (refP (at_ == 1) (l.drop at_)) := by
  intro k hk
  obtain ⟨k, rfl⟩ : ∃ m, k = m + 1 := ⟨k - 1, by omega⟩
  have htl := tw_len (l.drop at_)
  rw [List.length_drop] at htl
  rw [cadastreref03_Parse.j1]
  unfold cadastreref03_end.f
  rw [end_eq l hl _ at_ k rfl ha (by omega)]
  simp only [Option.bind_some]
  unfold refP
  generalize hw : (l.drop at_).takeWhile isDig = w at htl
  have hwt : w = (l.drop at_).take w.length := by rw [← hw, take_tw]
  have hwa : w.all isDig = true := by rw [← hw]; exact tw_all _
  have hdr : (l.drop at_).dropWhile isDig = l.drop (at_ + w.length) := by rw [← drop_tw, hw, List.drop_drop]
  rw [hdr]
  obtain ⟨k, rfl⟩ : ∃ m, k = m + 1 := ⟨k - 1, by omega⟩
  by_cases h0 : w = []
  · rw [if_pos (by rw [h0]; simp), if_pos (.inl h0), cadastreref03_Parse.j2, if_pos rfl]
  · have hw1 : 1 ≤ w.length := by
      cases hh : w with
      | nil => exact absurd hh h0
      | cons _ _ => simp
    rw [if_neg (by omega), w64 (by omega) (by omega), cadastreref03_Parse.j2]
    by_cases h40 : 40 < w.length
    · rw [if_pos (by simp; omega), if_pos (.inr h40)]
    · rw [if_neg (by simp; omega), if_neg (show ¬ (w = [] ∨ 40 < w.length) from fun h => h.elim h0 h40)]
      obtain ⟨k, rfl⟩ : ∃ m, k = m + 1 := ⟨k - 1, by omega⟩
      rw [mk_size]
      have words0 : Words 0 false 0 := ⟨by decide, fun _ => ⟨rfl, by decide⟩, fun h => by cases h⟩
      have fin : ∀ last frac, at_ + w.length ≤ last → last ≤ l.length → frac = (l.drop (at_ + w.length + 1)).take (last - (at_ + w.length + 1)) → frac.all isDig = true →
          cadastreref03_Parse.j3 (k + 1) (mk l) (at_ : Int) ((at_ + w.length : Nat) : Int) (last : Int) = some (told (at_ == 1) (numeral w frac)) := by
        intro last frac hl1 hl2 hfr hfa
        rw [cadastreref03_Parse.j3]
        have := loop_whole l hl at_ (at_ + w.length) last (by omega) (by omega) hl2 hl1 frac w hfr hfa (by rw [show at_ + w.length - at_ = w.length by omega]; exact hwt) hwa
          (at_ + w.length - at_) at_ 0 0 false rfl (Nat.le_refl _) (by omega) words0 k (by omega)
        rw [show hi 0 = 0 from rfl, show lo 0 = 0 from rfl] at this
        rw [this, Nat.sub_self, List.drop_zero]; rfl
      by_cases hend : at_ + w.length < l.length
      · rw [if_pos (by omega), w64 (x := ((at_ + w.length : Nat) : Int) + 1) (by omega) (by omega)]
        rw [show ((at_ + w.length : Nat) : Int) + 1 = ((at_ + w.length + 1 : Nat) : Int) by omega, cadastreref03_end.f, end_eq l hl _ (at_ + w.length + 1) (k + 1) rfl (by omega) (by omega)]
        simp only [Option.bind_some]
        rw [if_pos (by omega), getD_drop hend]
        dsimp only
        have htl2 := tw_len (l.drop (at_ + w.length + 1))
        rw [List.length_drop] at htl2
        have htt := take_tw (l.drop (at_ + w.length + 1))
        have hta := tw_all (l.drop (at_ + w.length + 1))
        have hft : (l.drop (at_ + w.length + 1)).takeWhile isDig = l.drop (at_ + w.length + 1) ↔ ((l.drop (at_ + w.length + 1)).takeWhile isDig).length = l.length - (at_ + w.length + 1) := by
          constructor
          · intro h; rw [h, List.length_drop]
          · intro h; rw [← htt, h, ← List.length_drop, List.take_length]
        generalize hfw : (l.drop (at_ + w.length + 1)).takeWhile isDig = f at htl2 htt hta hft
        have hbt : bt (mk l) ((at_ + w.length : Nat) : Int) = 46 ↔ l.getD (at_ + w.length) 0 = 46 := by
          rw [bt_mk, show (((at_ + w.length : Nat) : Int)).toNat = at_ + w.length by omega]
          constructor
          · intro h; exact u8_eq (n := 46) (by decide) h
          · intro h; rw [h]; rfl
        by_cases hdot : l.getD (at_ + w.length) 0 = 46
        · rw [if_pos (hbt.2 hdot)]
          by_cases hf0 : f = []
          · rw [if_pos (by rw [hf0]; simp), if_pos]
            right
            by_cases hde : l.drop (at_ + w.length + 1) = []
            · exact .inl hde
            · refine .inr (.inr ?_)
              intro h; rw [hf0] at h; exact hde h.symm
          · have hf1 : 1 ≤ f.length := by
              cases hh : f with
              | nil => exact absurd hh hf0
              | cons _ _ => simp
            rw [if_neg (by omega), w64 (x := (((at_ + w.length + 1 + f.length : Nat) : Int) - ((at_ + w.length : Nat) : Int))) (by omega) (by omega), w64 (by omega) (by omega)]
            by_cases hf40 : 40 < f.length
            · rw [if_pos (by omega), if_pos (.inr (.inr (.inl hf40)))]
            · rw [if_neg (by omega)]
              by_cases hfl : at_ + w.length + 1 + f.length < l.length
              · rw [if_pos (by omega), if_pos]
                refine .inr (.inr (.inr ?_))
                intro h
                have := hft.1 h
                omega
              · rw [if_neg (by omega), if_neg]
                · have hfe : f = l.drop (at_ + w.length + 1) := hft.2 (by omega)
                  rw [fin (at_ + w.length + 1 + f.length) f (by omega) (by omega) (by rw [show at_ + w.length + 1 + f.length - (at_ + w.length + 1) = f.length by omega]; exact htt.symm) hta, ← hfe]
                · have hfe : f = l.drop (at_ + w.length + 1) := hft.2 (by omega)
                  rintro (h | h | h | h)
                  · exact h hdot
                  · rw [← hfe] at h; exact hf0 h
                  · exact hf40 h
                  · exact h hfe
        · rw [if_neg (fun h => hdot (hbt.1 h)), if_pos (.inl hdot)]
      · rw [if_neg (by omega), List.drop_of_length_le (by omega)]
        simp only
        exact fin (at_ + w.length) [] (Nat.le_refl _) (by omega) (by simp) rfl

theorem refparse_eq (l : List UInt8) (hl : l.length ≤ 1048576) : ∀ k, 1048701 ≤ k → cadastreref03_Parse.f k (mk l) = some (parseL l) := by
  intro k hk
  obtain ⟨k, rfl⟩ : ∃ m, k = m + 1 := ⟨k - 1, by omega⟩
  unfold cadastreref03_Parse.f parseL
  rw [mk_size]
  have h0 := j1_eq l hl 0 (Nat.zero_le _) k (by omega)
  rw [List.drop_zero, refP_eq] at h0
  cases hh : l with
  | nil =>
    rw [if_neg (by simp), if_neg (by simp), cadastreref03_Parse.j0, if_neg (by decide)]
    rw [hh] at h0; exact h0
  | cons c r =>
    rw [← hh]
    have hlen : 1 ≤ l.length := by rw [hh]; simp
    have hb : (bt (mk l) 0 == 45) = decide (l.head? = some 45) := by
      rw [bt_mk, hh, Bool.eq_iff_iff, beq_iff_eq, decide_eq_true_eq, List.head?_cons]
      constructor
      · intro h; rw [u8_eq (c := c) (n := 45) (by decide) h]; rfl
      · intro h; rw [Option.some.inj h]; rfl
    rw [if_pos (by omega), if_pos (by omega), cadastreref03_Parse.j0, hb]
    by_cases h45 : l.head? = some 45
    · rw [decide_eq_true h45, if_pos rfl, if_pos h45]
      have h1 := j1_eq l hl 1 hlen k (by omega)
      rw [refP_eq] at h1
      exact h1
    · rw [decide_eq_false h45, if_neg (by decide), if_neg h45]
      exact h0

theorem parses_pure (a : ByteArray) (h : a.size ≤ 1048576) : ∃ k, cadastrelaw03_NumParses.f k a = some true := by
  obtain ⟨K, hK⟩ := lives_ev
  refine ⟨max K 1048701, ?_⟩
  have hl : cadastrelaw03_lives.f (max K 1048701) = some true := hK _ (by omega)
  have hp : num_Parse.f a = some (parseL a.data.toList) := by unfold num_Parse.f; rw [if_pos (by omega)]
  have hr := refparse_eq a.data.toList (by rw [size_toList]; exact h) (max K 1048701) (by omega)
  rw [mk_self] at hr
  unfold cadastrelaw03_NumParses.f
  rw [hp, hr, hl]
  simp
end Go.Proofs.YtmoohjomkdcdhaaDoor.Y
namespace Go.Proofs.YtmoohjomkdcdhaaDoor.Pure
theorem NumParses : ∀ (a0 : ByteArray), a0.size ≤ 1048576 → ∃ k, Y.cadastrelaw03_NumParses.f k a0 = some true := Y.parses_pure
end Go.Proofs.YtmoohjomkdcdhaaDoor.Pure
