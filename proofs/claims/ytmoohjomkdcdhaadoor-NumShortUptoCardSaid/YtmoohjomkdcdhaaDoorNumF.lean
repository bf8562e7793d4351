/- What the printed functions of numbers' texts come to: num.Print and its reference: printL; num.Digits and its reference: itoa; the small living call: true. -/
import Derived.Test.YtmoohjomkdcdhaaDoorNumL
import Derived.Test.YtmoohjomkdcdhaaDoorYx
namespace Go.Proofs.YtmoohjomkdcdhaaDoor.Y
open Go.RowKit Go.Proofs.YtmoohjomkdcdhaaDoor.X Go.Proofs.YtmoohjomkdcdhaaDoorW.PrintWords Go.Proofs.YtmoohjomkdcdhaaDoorW.PrintLast Go.Proofs.YtmoohjomkdcdhaaDoorW.PrintMore
set_option linter.unusedVariables false
set_option linter.unusedSimpArgs false

/-! ### texts as lists -/
abbrev mk (l : List UInt8) : ByteArray := ⟨l.toArray⟩
theorem mk_list (l : List UInt8) : (mk l).data.toList = l := rfl
theorem mk_toList (l : List UInt8) : (mk l).toList = l := by rw [toList_eq]
theorem mk_size (l : List UInt8) : (mk l).size = l.length := rfl
theorem mk_append (a b : List UInt8) : mk a ++ mk b = mk (a ++ b) := by
  apply ByteArray.ext
  rw [ByteArray.data_append]
  show a.toArray ++ b.toArray = (a ++ b).toArray
  simp
theorem mk_drop (l : List UInt8) (n : Nat) : (mk l).extract n (mk l).size = mk (l.drop n) := by
  apply ByteArray.ext
  rw [ByteArray.data_extract]
  show l.toArray.extract n l.length = (l.drop n).toArray
  simp
  exact List.take_of_length_le (by simp)
theorem mk_take (l : List UInt8) (n : Nat) : (mk l).extract 0 n = mk (l.take n) := by
  apply ByteArray.ext
  rw [ByteArray.data_extract]
  show l.toArray.extract 0 n = (l.take n).toArray
  simp
theorem mk_self (s : ByteArray) : mk s.data.toList = s := by
  apply ByteArray.ext; show s.data.toList.toArray = s.data; simp
theorem bt_mk (l : List UInt8) (i : Int) : bt (mk l) i = ((l.getD i.toNat 0).toNat : Int) := by
  unfold bt
  by_cases h : i.toNat < (mk l).size
  · rw [dif_pos h, List.getD_eq_getElem?_getD, List.getElem?_eq_getElem (show i.toNat < l.length from h)]; rfl
  · rw [dif_neg h, List.getD_eq_getElem?_getD, List.getElem?_eq_none (show l.length ≤ i.toNat from Nat.le_of_not_lt h)]; rfl
theorem w64 {x : Int} (h1 : -9223372036854775808 ≤ x) (h2 : x ≤ 9223372036854775807) : wrap64 x = x := by unfold wrap64; omega
theorem wu64 {x : Int} (h1 : 0 ≤ x) (h2 : x ≤ 18446744073709551615) : IntKind.u64.wrap x = x := by
  simp only [IntKind.wrap]; rw [show IntKind.u64.bits = 64 from rfl, show IntKind.u64.signed = false from rfl]; simp; omega

theorem can_ev (a : Int) : Ev (fun k => fix_Can.f k a) (a != -9223372036854775808) := by
  refine ⟨2, fun k hk => ?_⟩
  obtain ⟨m, rfl⟩ : ∃ m, k = m + 2 := ⟨k - 2, by omega⟩
  unfold fix_Can.f fix_can.f
  have hr : rd [a] 0 = a := rfl
  simp only [fix_can.l0, List.length_singleton]
  rw [if_pos (by decide), if_pos (by decide), if_pos (by decide), hr]
  by_cases h : a = -9223372036854775808
  · rw [if_pos h]; simp [h]
  · rw [if_neg h, w64 (by omega) (by omega), if_neg (by decide)]; simp [h]

theorem itoa_pos {n : Int} (h : 0 ≤ n) : Lib.itoa n = Lib.decDigits n.toNat := by unfold Lib.itoa; rw [if_neg (by omega)]
theorem itoa_neg {n : Int} (h : n < 0) : Lib.itoa n = 45 :: Lib.decDigits n.natAbs := by unfold Lib.itoa; rw [if_pos h]
theorem format_eq {n : Int} (h1 : -9223372036854775808 ≤ n) (h2 : n ≤ 9223372036854775807) : strconv_FormatInt.f n 10 = some (mk (Lib.itoa n)) := by
  unfold strconv_FormatInt.f; rw [if_pos h1, if_pos h2, if_pos rfl]
theorem trimR_eq {l : List UInt8} (h : l.length ≤ 9223372036854775807) : strings_TrimRight.f (mk l) (⟨#[48]⟩ : ByteArray) = some (mk (strip0 l)) := by
  unfold strings_TrimRight.f
  rw [if_pos (show (mk l).size ≤ 9223372036854775807 from h), if_pos (by decide), if_pos (by decide)]; rfl

theorem fracL_len (r : Nat) (h : r < 10000) : (fracL r).length ≤ 4 := (fracL_spec r h).2.1
theorem dec_len {n : Nat} (h : n ≤ 18446744073709551615) : (Lib.decDigits n).length ≤ 20 := decDigits_len n 20 (by omega) (Nat.lt_of_le_of_lt h (by decide))
theorem sizeL_len {n : Nat} (h : n ≤ 9223372036854775807) : (sizeL n).length ≤ 25 := by
  unfold sizeL
  have h1 := dec_len (n := n / 10000) (by omega)
  have h2 := fracL_len (n % 10000) (Nat.mod_lt _ (by omega))
  rw [List.length_append]
  split
  · simp; omega
  · simp; omega

theorem print_j0 (x : Nat) (s : List UInt8) (hx : x ≤ 9223372036854775807) (hs : s.length ≤ 1) (k : Nat) (hk : 1 ≤ k) :
    num_Print.j0 k (x : Int) (mk s) = some (mk (s ++ sizeL x)) := by
  obtain ⟨m, rfl⟩ : ∃ m, k = m + 1 := ⟨k - 1, by omega⟩
  have hd : (x : Int).tdiv 10000 = ((x / 10000 : Nat) : Int) := by rw [Int.tdiv_eq_ediv_of_nonneg (by omega)]; omega
  have hm : (x : Int).tmod 10000 = ((x % 10000 : Nat) : Int) := by rw [Int.tmod_eq_emod_of_nonneg (by omega)]; omega
  have hr : x % 10000 < 10000 := Nat.mod_lt _ (by omega)
  have h20 := dec_len (n := x / 10000) (by omega)
  have h5 := dec_len (n := 10000 + x % 10000) (by omega)
  have hf := fracL_len _ hr
  have hdl : 1 ≤ (Lib.decDigits (10000 + x % 10000)).length := by
    have := decDigits_ne (10000 + x % 10000)
    cases hh : Lib.decDigits (10000 + x % 10000) with
    | nil => exact absurd hh this
    | cons _ _ => simp
  simp only [num_Print.j0]
  rw [hd, hm, w64 (by omega) (by omega), format_eq (by omega) (by omega), itoa_pos (by omega)]
  rw [show ((((x % 10000 : Nat) : Int) + 10000).toNat) = 10000 + x % 10000 by omega]
  simp only [Option.bind_some]
  rw [if_pos (by rw [mk_size]; omega), mk_drop, trimR_eq (by rw [List.length_drop]; omega)]
  simp only [Option.bind_some]
  rw [show strip0 (List.drop 1 (Lib.decDigits (10000 + x % 10000))) = fracL (x % 10000) from rfl]
  rw [w64 (by omega) (by omega), format_eq (by omega) (by omega), itoa_pos (by omega)]
  rw [show (((x / 10000 : Nat) : Int).toNat) = x / 10000 by omega, mk_toList]
  unfold sizeL
  by_cases h0 : fracL (x % 10000) = []
  · rw [if_pos h0, if_pos h0]
    simp only [Option.bind_some]
    rw [mk_append, mk_append]
    rw [if_pos (by rw [mk_size, mk_size]; omega), if_pos (by rw [mk_size, mk_size, List.length_append]; omega), h0]
    simp
  · rw [if_neg h0, if_neg h0, if_pos (by rw [mk_size]; omega)]
    simp only [Option.bind_some]
    rw [show (⟨#[46]⟩ : ByteArray) = mk [46] from rfl, mk_append, mk_append, mk_append]
    rw [if_pos (by rw [mk_size, mk_size]; omega), if_pos (by rw [mk_size, mk_size, List.length_append, List.length_append]; simp; omega)]
    simp

theorem print_ev (a : Int) (h1 : -9223372036854775808 ≤ a) (h2 : a ≤ 9223372036854775807) : Ev (fun k => num_Print.f k a) (mk (printL a)) := by
  obtain ⟨K, hK⟩ := can_ev a
  refine ⟨max K 1, fun k hk => ?_⟩
  show num_Print.f k a = some (mk (printL a))
  have hc : fix_Can.f k a = some _ := hK k (by omega)
  unfold num_Print.f printL
  rw [hc]
  simp only [Option.bind_some]
  by_cases h : a = -9223372036854775808
  · rw [if_neg (by simp [h]), if_pos h]
  · rw [if_pos (by simp [h]), if_neg h]
    by_cases hn : a < 0
    · rw [if_pos hn, if_pos hn, w64 (by omega) (by omega)]
      have e : -a = ((a.natAbs : Nat) : Int) := by omega
      rw [e]
      exact print_j0 a.natAbs [45] (by omega) (by simp) k (by omega)
    · rw [if_neg hn, if_neg hn]
      have e : a = ((a.toNat : Nat) : Int) := by omega
      conv => lhs; rw [e]
      exact print_j0 a.toNat [] (by omega) (by simp) k (by omega)

/-! ### the reference's digits -/
theorem whole_ev (n : Nat) (h : n ≤ 18446744073709551615) : ∀ k, 21 ≤ k → cadastreref03_Whole.f k (n : Int) = some (mk (Lib.decDigits n)) := by
  have key : ∀ (d n k : Nat), n < 10 ^ d → 1 ≤ d → d ≤ 20 → n ≤ 18446744073709551615 → d < k → cadastreref03_Whole.f k (n : Int) = some (mk (Lib.decDigits n)) := by
    intro d
    induction d with
    | zero => intro n k _ h1; omega
    | succ d ih =>
      intro n k hn _ hd20 h64 hk
      obtain ⟨m, rfl⟩ : ∃ m, k = m + 1 := ⟨k - 1, by omega⟩
      have hm : (n : Int).tmod 10 = ((n % 10 : Nat) : Int) := by rw [Int.tmod_eq_emod_of_nonneg (by omega)]; omega
      have hq : (n : Int).tdiv 10 = ((n / 10 : Nat) : Int) := by rw [Int.tdiv_eq_ediv_of_nonneg (by omega)]; omega
      have hs : strOfNums [(48 + ((n : Int).tmod 10 % 256)) % 256] = mk [UInt8.ofNat (48 + n % 10)] := by
        rw [hm]
        have e : (48 + (((n % 10 : Nat) : Int) % 256)) % 256 = ((48 + n % 10 : Nat) : Int) := by omega
        rw [e]
        rfl
      simp only [cadastreref03_Whole.f, Option.bind_some]
      rw [hs, hq, decDigits_eq]
      by_cases h10 : n < 10
      · rw [if_neg (by omega), if_pos h10, show n % 10 = n by omega]
      · rw [if_pos (by omega), if_neg h10, wu64 (by omega) (by omega)]
        have hd : 1 ≤ d := by
          rcases Nat.eq_zero_or_pos d with rfl | h0
          · simp at hn; omega
          · exact h0
        rw [ih (n / 10) m (by rw [Nat.pow_succ] at hn; omega) hd (by omega) (by omega) (by omega)]
        simp only [Option.bind_some]
        have := decDigits_len (n / 10) 20 (by omega) (Nat.lt_of_le_of_lt (show n / 10 ≤ 18446744073709551615 by omega) (by decide))
        rw [if_pos (by rw [mk_size, mk_size]; simp; omega), mk_append]
  intro k hk
  exact key 20 n k (Nat.lt_of_le_of_lt h (by decide)) (by omega) (by omega) h (by omega)

theorem size_eq (a : Int) (h1 : -9223372036854775808 ≤ a) (h2 : a ≤ 9223372036854775807) : cadastreref01_Size.f a = some ((a.natAbs : Nat) : Int) := by
  unfold cadastreref01_Size.f
  by_cases h : a < 0
  · rw [if_pos h, w64 (x := a + 1) (by omega) (by omega), w64 (x := -(a + 1)) (by omega) (by omega), wu64 (x := -(a + 1)) (by omega) (by omega), wu64 (by omega) (by omega)]
    congr 1; omega
  · rw [if_neg h, wu64 (by omega) (by omega)]
    congr 1; omega

/-- The loop that strips noughts: from the right. -/
theorem strip_loop (x0 : Int) (w : List UInt8) (hw : w.length ≤ 20) (f : List UInt8) (hf : f.length ≤ 5) (hne : strip0 f ≠ []) : ∀ k, f.length + 1 ≤ k →
    cadastreref03_Print.l0 k x0 (mk w) (mk f) = some (mk ((if x0 < 0 then [45] else []) ++ (w ++ 46 :: strip0 f))) := by
  revert hf hne
  refine snoc_ind (P := fun f => f.length ≤ 5 → strip0 f ≠ [] → ∀ k, f.length + 1 ≤ k → cadastreref03_Print.l0 k x0 (mk w) (mk f) = some (mk ((if x0 < 0 then [45] else []) ++ (w ++ 46 :: strip0 f)))) ?_ ?_ f
  · intro _ h; exact absurd strip0_nil h
  · intro l c ih hl hne k hk
    obtain ⟨m, rfl⟩ : ∃ m, k = m + 1 := ⟨k - 1, by omega⟩
    have hz : (((l ++ [c]).length : Nat) : Int) - 1 = (l.length : Int) := by simp
    have hll : (l ++ [c]).length = l.length + 1 := by simp
    simp only [cadastreref03_Print.l0, mk_size]
    rw [w64 (by omega) (by omega), hz]
    rw [if_pos (by omega), if_pos (by omega)]
    have hb : bt (mk (l ++ [c])) (l.length : Int) = (c.toNat : Int) := by
      rw [bt_mk]; simp
    rw [hb]
    rw [strip0_snoc] at hne ⊢
    by_cases hc : c = 48
    · subst hc
      rw [if_pos (rfl : (48 : UInt8) = 48)] at hne ⊢
      rw [if_pos (show (((48 : UInt8).toNat : Nat) : Int) = 48 from rfl), if_pos (Int.ofNat_le.2 (by rw [hll]; omega))]
      rw [show ((l.length : Int) : Int).toNat = l.length by omega, mk_take]
      rw [show (l ++ [(48 : UInt8)]).take l.length = l by simp]
      exact ih (by omega) hne m (by omega)
    · have hc2 : ¬ ((c.toNat : Int) = 48) := by
        intro e
        apply hc
        have : c.toNat = 48 := by omega
        have h2 : c = UInt8.ofNat c.toNat := by simp
        rw [h2, this]; rfl
      rw [if_neg hc2, if_neg hc]
      rw [show (⟨#[46]⟩ : ByteArray) = mk [46] from rfl, mk_append, mk_append]
      rw [if_pos (by omega), if_pos (by rw [mk_size, List.length_append]; simp; omega)]
      by_cases hx : x0 < 0
      · rw [if_pos hx, if_pos hx, show (⟨#[45]⟩ : ByteArray) = mk [45] from rfl, mk_append, if_pos (by rw [mk_size, List.length_append, List.length_append]; simp; omega)]
        simp
      · rw [if_neg hx, if_neg hx]
        simp

theorem refprint_ev (a : Int) (h1 : -9223372036854775808 ≤ a) (h2 : a ≤ 9223372036854775807) : ∀ k, 21 ≤ k → cadastreref03_Print.f k a = some (mk (printL a)) := by
  intro k hk
  unfold cadastreref03_Print.f cadastreref01_Can.f printL
  simp only [Option.bind_some]
  by_cases h : a = -9223372036854775808
  · rw [if_neg (by simp [h]), if_pos h]
  · rw [if_pos (by simp [h]), if_neg h, size_eq a h1 h2]
    simp only [Option.bind_some]
    have hd : (((a.natAbs : Nat) : Int)).tdiv 10000 = ((a.natAbs / 10000 : Nat) : Int) := by rw [Int.tdiv_eq_ediv_of_nonneg (by omega)]; omega
    have hm : (((a.natAbs : Nat) : Int)).tmod 10000 = ((a.natAbs % 10000 : Nat) : Int) := by rw [Int.tmod_eq_emod_of_nonneg (by omega)]; omega
    have hr : a.natAbs % 10000 < 10000 := Nat.mod_lt _ (by omega)
    have hs := fracL_spec _ hr
    have h20 := dec_len (n := a.natAbs / 10000) (by omega)
    rw [hd, hm, wu64 (by omega) (by omega), whole_ev _ (by omega) k hk]
    simp only [Option.bind_some]
    have hna : ¬ a < 0 → a.toNat = a.natAbs := by omega
    unfold sizeL
    by_cases h0 : a.natAbs % 10000 = 0
    · have hf : fracL (a.natAbs % 10000) = [] := hs.2.2.2.2.2 h0
      rw [if_neg (by omega)]
      by_cases hn : a < 0
      · rw [if_pos hn, if_pos hn, hf, if_pos rfl, if_pos (by rw [mk_size]; omega), show (⟨#[45]⟩ : ByteArray) = mk [45] from rfl, mk_append]; simp
      · rw [if_neg hn, if_neg hn, hna hn, hf, if_pos rfl]; simp
    · have hf : fracL (a.natAbs % 10000) ≠ [] := fun e => h0 (hs.2.2.2.2.1 e)
      have hdl : (Lib.decDigits (10000 + a.natAbs % 10000)).length ≤ 5 := decDigits_len _ 5 (by omega) (by omega)
      have hd1 : 1 ≤ (Lib.decDigits (10000 + a.natAbs % 10000)).length := by
        have := decDigits_ne (10000 + a.natAbs % 10000)
        cases hh : Lib.decDigits (10000 + a.natAbs % 10000) with
        | nil => exact absurd hh this
        | cons _ _ => simp
      rw [if_pos (by omega), wu64 (by omega) (by omega), show (10000 : Int) + ((a.natAbs % 10000 : Nat) : Int) = ((10000 + a.natAbs % 10000 : Nat) : Int) by omega, whole_ev _ (by omega) k hk]
      simp only [Option.bind_some]
      rw [if_pos (by rw [mk_size]; omega), mk_drop]
      rw [strip_loop a _ h20 _ (by rw [List.length_drop]; omega) hf k (by rw [List.length_drop]; omega)]
      by_cases hn : a < 0
      · rw [if_pos hn, if_pos hn, if_neg hf]; rfl
      · rw [if_neg hn, if_neg hn, hna hn, if_neg hf]; rfl

theorem digits_eq (a : Int) (h1 : -9223372036854775808 ≤ a) (h2 : a ≤ 9223372036854775807) : num_Digits.f a = some (mk (Lib.itoa a)) := by
  unfold num_Digits.f strconv_Itoa.f
  rw [if_pos h1, if_pos h2]; rfl
theorem refdigits_ev (a : Int) (h1 : -9223372036854775808 ≤ a) (h2 : a ≤ 9223372036854775807) : ∀ k, 21 ≤ k → cadastreref03_Digits.f k a = some (mk (Lib.itoa a)) := by
  intro k hk
  unfold cadastreref03_Digits.f
  by_cases h : a < 0
  · have := dec_len (n := a.natAbs) (by omega)
    rw [if_pos h, size_eq a h1 h2, itoa_neg h]
    simp only [Option.bind_some]
    rw [whole_ev _ (by omega) k hk]
    simp only [Option.bind_some]
    rw [if_pos (by rw [mk_size]; omega), show (⟨#[45]⟩ : ByteArray) = mk [45] from rfl, mk_append]; rfl
  · rw [if_neg h, itoa_pos (by omega), wu64 (by omega) (by omega)]
    have e : a = ((a.toNat : Nat) : Int) := by omega
    conv => lhs; rw [e]
    rw [whole_ev _ (by omega) k hk]; rfl

/-! ### what is printed is read back -/
theorem dec_digits {n : Nat} (h : n ≤ 18446744073709551615) : digitsL (Lib.decDigits n) = true := by
  have h1 := decDigits_ne n
  have h2 := dec_len h
  unfold digitsL
  rw [decDigits_all, Bool.and_true, Bool.and_eq_true]
  refine ⟨?_, decide_eq_true (by omega)⟩
  cases hh : Lib.decDigits n with
  | nil => exact absurd hh h1
  | cons _ _ => rfl
theorem parse_size (minus : Bool) (n : Nat) (hn : n ≤ 9223372036854775807) :
    parse3 minus (Lib.cut (sizeL n) [46]).1 (Lib.cut (sizeL n) [46]).2.1 (Lib.cut (sizeL n) [46]).2.2 = (if minus then -(n : Int) else (n : Int), 1) := by
  have hr : n % 10000 < 10000 := Nat.mod_lt _ (by omega)
  obtain ⟨hs1, hs2, hs3, hs4, hs5⟩ := fracL_spec _ hr
  have hd := dec_digits (n := n / 10000) (by omega)
  have fin : ∀ m, m = n → told minus m = (if minus then -(n : Int) else (n : Int), 1) := by rintro m rfl; unfold told; rw [if_pos hn]
  have hlen : ((pad5 (fracL (n % 10000))).take 4).length = 4 := by unfold pad5; rw [List.length_take, List.length_append, List.length_replicate]; omega
  have hv : numeral (Lib.decDigits (n / 10000)) (fracL (n % 10000)) = n := by
    unfold numeral
    rw [hs4, if_neg (by decide), fold10_append, decDigits_val, fold10_eq, hs3, hlen]; omega
  unfold sizeL
  by_cases h0 : fracL (n % 10000) = []
  · rw [if_pos h0, List.append_nil, cut_miss _ (all_ne (decDigits_all _))]
    rw [parse3_good _ _ _ _ hd (.inl rfl) (fun _ => rfl)]
    rw [h0] at hv
    exact fin _ hv
  · rw [if_neg h0, cut_hit _ _ (all_ne (decDigits_all _))]
    rw [parse3_good _ _ _ _ hd (.inr ?_) (fun h => by cases h)]
    · exact fin _ hv
    · unfold digitsL
      rw [hs1, Bool.and_true, Bool.and_eq_true]
      refine ⟨?_, decide_eq_true (Nat.le_trans hs2 (by decide))⟩
      cases hh : fracL (n % 10000) with
      | nil => exact absurd hh h0
      | cons _ _ => rfl
theorem sizeL_head (n : Nat) : (sizeL n).head? ≠ some 45 := by
  unfold sizeL
  have h1 := decDigits_ne (n / 10000)
  have h2 := decDigits_all (n / 10000)
  cases hh : Lib.decDigits (n / 10000) with
  | nil => exact absurd hh h1
  | cons c l =>
    rw [hh] at h2
    simp only [List.all_cons, Bool.and_eq_true] at h2
    simp only [List.cons_append, List.head?_cons, ne_eq, Option.some.injEq]
    rintro rfl
    exact absurd h2.1 (by decide)
theorem parse_none : parseL [110, 111, 110, 101] = (0, 0) := by
  unfold parseL
  rw [if_neg (by decide), cut_miss _ (by decide)]
  exact parse3_bad _ _ _ _ (.inl (by decide))
theorem parse_print (a : Int) (h1 : -9223372036854775808 ≤ a) (h2 : a ≤ 9223372036854775807) : parseL (printL a) = if a = -9223372036854775808 then (0, 0) else (a, 1) := by
  unfold printL
  by_cases h : a = -9223372036854775808
  · rw [if_pos h, if_pos h]; exact parse_none
  · rw [if_neg h, if_neg h]
    by_cases hn : a < 0
    · rw [if_pos hn]
      unfold parseL
      rw [if_pos (show (45 :: sizeL a.natAbs).head? = some 45 from rfl), List.drop_succ_cons, List.drop_zero, parse_size true _ (by omega)]
      simp; omega
    · rw [if_neg hn]
      unfold parseL
      rw [if_neg (sizeL_head _), parse_size false _ (by omega)]
      simp; omega
theorem parseF_eq {l : List UInt8} (h : l.length < 4294967281) : num_Parse.f (mk l) = some (parseL l) := by
  unfold num_Parse.f; rw [if_pos (show (mk l).size < 4294967281 from h)]
theorem printL_len (a : Int) (h1 : -9223372036854775808 ≤ a) (h2 : a ≤ 9223372036854775807) : (printL a).length ≤ 26 := by
  unfold printL
  split
  · decide
  · split
    · have := sizeL_len (n := a.natAbs) (by omega)
      simp; omega
    · have := sizeL_len (n := a.toNat) (by omega)
      omega

/-! ### the small living call -/
theorem lives_ev : Ev (fun k => cadastrelaw03_lives.f k) true := by
  obtain ⟨K, hK⟩ := print_ev (-12500) (by omega) (by omega)
  refine ⟨K, fun k hk => ?_⟩
  show cadastrelaw03_lives.f k = some true
  unfold cadastrelaw03_lives.f
  have e1 : num_Parse.f (⟨#[48, 46, 48, 48, 48, 48, 53]⟩ : ByteArray) = some (1, 1) := by
    rw [show (⟨#[48, 46, 48, 48, 48, 48, 53]⟩ : ByteArray) = mk ([48] ++ 46 :: [48, 48, 48, 48, 53]) from rfl, parseF_eq (by decide)]
    unfold parseL
    rw [if_neg (by decide), cut_hit _ _ (by decide), parse3_good _ _ _ _ (by decide) (.inr (by decide)) (fun h => by cases h)]
    rfl
  have e2 : printL (-12500) = [45, 49, 46, 50, 53] := by
    unfold printL sizeL fracL
    rw [if_neg (by decide), if_pos (by decide)]
    rw [show (-12500 : Int).natAbs = 12500 from rfl]
    rw [show 12500 / 10000 = 1 from rfl, show 12500 % 10000 = 2500 from rfl]
    rw [decDigits_eq 1, if_pos (by decide)]
    obtain ⟨a, b, c, d, ha, hb, hc, hd, hr, he⟩ := decDigits_five 2500 (by decide)
    obtain ⟨rfl, rfl, rfl, rfl⟩ : a = 2 ∧ b = 5 ∧ c = 0 ∧ d = 0 := by omega
    rw [he]
    rfl
  have e3 : Lib.itoa (-7) = [45, 55] := by
    rw [itoa_neg (by decide), show (-7 : Int).natAbs = 7 from rfl, decDigits_eq, if_pos (by decide)]; rfl
  rw [e1]
  simp only [Option.bind_some]
  have hc : num_Print.f k (-12500) = some _ := hK k hk
  rw [if_pos trivial, if_pos trivial, hc]
  simp only [Option.bind_some]
  rw [mk_toList, e2, if_pos rfl, digits_eq _ (by omega) (by omega)]
  simp only [Option.bind_some]
  rw [mk_toList, e3]; rfl
end Go.Proofs.YtmoohjomkdcdhaaDoor.Y
