/- The plain statements of chapter 03, but for NumParses: what the laws of num compute is true, at every input. -/
import Derived.Test.YtmoohjomkdcdhaaDoorNumF
namespace Go.Proofs.YtmoohjomkdcdhaaDoor.Y
open Go.RowKit Go.Proofs.YtmoohjomkdcdhaaDoor.X Go.Proofs.YtmoohjomkdcdhaaDoorW.PrintWords Go.Proofs.YtmoohjomkdcdhaaDoorW.PrintLast Go.Proofs.YtmoohjomkdcdhaaDoorW.PrintMore
set_option linter.unusedVariables false
set_option linter.unusedSimpArgs false

theorem wf64 {a : Int} (h : (Lit.int .i64 a).wf = true) : -9223372036854775808 ≤ a ∧ a ≤ 9223372036854775807 := by
  simp [Lit.wf, IntKind.min, IntKind.max, IntKind.bits, IntKind.signed] at h; omega
theorem wf8 {a : Int} (h : (Lit.int .u8 a).wf = true) : 0 ≤ a ∧ a ≤ 255 := by
  simp [Lit.wf, IntKind.min, IntKind.max, IntKind.bits, IntKind.signed] at h; omega

theorem digits_pure (a : Int) (h : (Lit.int .i64 a).wf = true) : ∃ k, cadastrelaw03_NumDigits.f k a = some true := by
  obtain ⟨h1, h2⟩ := wf64 h
  obtain ⟨K, hK⟩ := lives_ev
  refine ⟨max K 21, ?_⟩
  have hl : cadastrelaw03_lives.f (max K 21) = some true := hK _ (by omega)
  unfold cadastrelaw03_NumDigits.f
  rw [digits_eq a h1 h2, refdigits_ev a h1 h2 _ (by omega), hl]
  simp

theorem prints_pure (a : Int) (h : (Lit.int .i64 a).wf = true) : ∃ k, cadastrelaw03_NumPrints.f k a = some true := by
  obtain ⟨h1, h2⟩ := wf64 h
  obtain ⟨K, hK⟩ := lives_ev
  obtain ⟨K2, hK2⟩ := print_ev a h1 h2
  refine ⟨max (max K 21) K2, ?_⟩
  generalize hk : max (max K 21) K2 = k
  have hl : cadastrelaw03_lives.f k = some true := hK _ (by omega)
  have hp : num_Print.f k a = some (mk (printL a)) := hK2 _ (by omega)
  have hlen := printL_len a h1 h2
  unfold cadastrelaw03_NumPrints.f cadastreref01_Can.f
  rw [hp, refprint_ev a h1 h2 _ (by omega), hl]
  simp only [Option.bind_some]
  rw [if_pos trivial, parseF_eq (by omega), parse_print a h1 h2]
  simp only [Option.bind_some]
  by_cases hm : a = -9223372036854775808
  · rw [if_neg (by simp [hm]), if_pos hm]; rfl
  · rw [if_pos (by simp [hm]), if_neg hm]; simp

/-! ### NumShort -/
theorem parse_range (l : List UInt8) (h : (parseL l).2 = 1) : -9223372036854775807 ≤ (parseL l).1 ∧ (parseL l).1 ≤ 9223372036854775807 := by
  have h3 : ∀ m w f d, (d = false → f = []) → (parse3 m w f d).2 = 1 → -9223372036854775807 ≤ (parse3 m w f d).1 ∧ (parse3 m w f d).1 ≤ 9223372036854775807 := by
    intro m w f d hdf h
    cases hw : digitsL w with
    | false => rw [parse3_bad m w f d (.inl hw)] at h; cases h
    | true =>
      by_cases hg : d = false ∨ digitsL f = true
      · rw [parse3_good m w f d hw hg hdf] at h ⊢
        unfold told at h ⊢
        by_cases hn : numeral w f ≤ 9223372036854775807
        · rw [if_pos hn]
          cases m <;> simp <;> omega
        · rw [if_neg hn] at h; cases h
      · rw [parse3_bad m w f d (.inr ?_)] at h
        · cases h
        · cases d <;> cases hf : digitsL f <;> simp_all
  unfold parseL at h ⊢
  split
  · rename_i hc
    rw [if_pos hc] at h
    exact h3 _ _ _ _ (cut_nodot _ _) h
  · rename_i hc
    rw [if_neg hc] at h
    exact h3 _ _ _ _ (cut_nodot _ _) h

theorem parse_zero (l : List UInt8) (h : (parseL l).2 ≠ 1) : (parseL l).1 = 0 := by
  have h3 : ∀ m w f d, (d = false → f = []) → (parse3 m w f d).2 ≠ 1 → (parse3 m w f d).1 = 0 := by
    intro m w f d hdf h
    cases hw : digitsL w with
    | false => rw [parse3_bad m w f d (.inl hw)]
    | true =>
      by_cases hg : d = false ∨ digitsL f = true
      · rw [parse3_good m w f d hw hg hdf] at h ⊢
        unfold told at h ⊢
        by_cases hn : numeral w f ≤ 9223372036854775807
        · rw [if_pos hn] at h; exact absurd rfl h
        · rw [if_neg hn]
      · rw [parse3_bad m w f d (.inr ?_)]
        cases d <;> cases hf : digitsL f <;> simp_all
  unfold parseL at h ⊢
  split
  · rename_i hc
    rw [if_pos hc] at h
    exact h3 _ _ _ _ (cut_nodot _ _) h
  · rename_i hc
    rw [if_neg hc] at h
    exact h3 _ _ _ _ (cut_nodot _ _) h

theorem dec_head {m : Nat} {l : List UInt8} (h : Lib.decDigits m = 48 :: l) : m = 0 := by
  induction m using Nat.strongRecOn generalizing l with
  | _ m ih =>
    rw [decDigits_eq] at h
    by_cases h10 : m < 10
    · rw [if_pos h10] at h
      have h1 : UInt8.ofNat (48 + m) = 48 := (List.cons.inj h).1
      have := congrArg UInt8.toNat h1
      rw [ofNat_dig h10] at this
      simp at this; exact this
    · rw [if_neg h10] at h
      cases hd : Lib.decDigits (m / 10) with
      | nil => exact absurd hd (decDigits_ne _)
      | cons c r =>
        rw [hd, List.cons_append] at h
        have hc : c = 48 := (List.cons.inj h).1
        rw [hc] at hd
        have := ih (m / 10) (by omega) hd
        omega
theorem sizeL_len21 {n : Nat} (h : n ≤ 9223372036854775807) : (sizeL n).length ≤ 20 := by
  unfold sizeL
  have h1 := decDigits_len (n / 10000) 15 (by omega) (by omega)
  have h2 := fracL_len (n % 10000) (Nat.mod_lt _ (by omega))
  rw [List.length_append]
  split
  · simp; omega
  · simp; omega
theorem sizeL_zero {n : Nat} (h : sizeL n = [48]) : n = 0 := by
  unfold sizeL at h
  have hr : n % 10000 < 10000 := Nat.mod_lt _ (by omega)
  by_cases h0 : fracL (n % 10000) = []
  · rw [if_pos h0, List.append_nil] at h
    have := dec_head h
    have := (fracL_spec _ hr).2.2.2.2.1 h0
    omega
  · rw [if_neg h0] at h
    have h1 := decDigits_ne (n / 10000)
    cases hd : Lib.decDigits (n / 10000) with
    | nil => exact absurd hd h1
    | cons c r =>
      rw [hd] at h
      have := congrArg List.length h
      simp at this
theorem sizeL_dot {n : Nat} (h : 46 ∈ sizeL n) : ∃ m c, sizeL n = m ++ [c] ∧ c ≠ 48 := by
  unfold sizeL at h ⊢
  by_cases h0 : fracL (n % 10000) = []
  · rw [if_pos h0, List.append_nil] at h
    exact absurd rfl (all_ne (decDigits_all _) 46 h)
  · rw [if_neg h0]
    obtain ⟨m, c, hm⟩ : ∃ m c, fracL (n % 10000) = m ++ [c] := by
      have : fracL (n % 10000) ≠ [] → ∃ m c, fracL (n % 10000) = m ++ [c] :=
        snoc_ind (P := fun l => l ≠ [] → ∃ m c, l = m ++ [c]) (fun h => absurd rfl h) (fun l c _ _ => ⟨l, c, rfl⟩) _
      exact this h0
    refine ⟨Lib.decDigits (n / 10000) ++ 46 :: m, c, ?_, ?_⟩
    · rw [hm]; simp
    · exact strip0_last _ c m hm
theorem sizeL_lead {n : Nat} {c : UInt8} {l : List UInt8} (h : sizeL n = 48 :: c :: l) : c = 46 := by
  unfold sizeL at h
  cases hd : Lib.decDigits (n / 10000) with
  | nil => exact absurd hd (decDigits_ne _)
  | cons x r =>
    rw [hd, List.cons_append] at h
    obtain ⟨hx, hr⟩ := List.cons.inj h
    rw [hx] at hd
    have h0 := dec_head hd
    have hrn : r = [] := by
      rw [h0, decDigits_eq, if_pos (by decide)] at hd
      exact (List.cons.inj hd).2.symm
    rw [hrn, List.nil_append] at hr
    by_cases hf : fracL (n % 10000) = []
    · rw [if_pos hf] at hr; cases hr
    · rw [if_neg hf] at hr; exact (List.cons.inj hr).1.symm

/-- What the law asks of a text. -/
def Shape (t : List UInt8) : Prop := (46 ∈ t → ∃ m c, t = m ++ [c] ∧ c ≠ 48) ∧ t ≠ [45, 48] ∧ (∀ c l, t = 48 :: c :: l → c = 46) ∧ t ≠ []
theorem printL_shape (a : Int) (h1 : -9223372036854775808 < a) (h2 : a ≤ 9223372036854775807) : Shape (printL a) := by
  unfold printL
  rw [if_neg (by omega)]
  by_cases hn : a < 0
  · rw [if_pos hn]
    refine ⟨fun h => ?_, fun h => ?_, fun c l h => ?_, by simp⟩
    · rcases List.mem_cons.1 h with h | h
      · cases h
      · obtain ⟨m, c, hm, hc⟩ := sizeL_dot h
        exact ⟨45 :: m, c, by rw [hm]; rfl, hc⟩
    · have := sizeL_zero (List.cons.inj h).2
      omega
    · cases (List.cons.inj h).1
  · rw [if_neg hn]
    refine ⟨sizeL_dot, fun h => ?_, fun c l h => sizeL_lead h, fun h => ?_⟩
    · exact sizeL_head _ (by rw [h]; rfl)
    · unfold sizeL at h
      exact decDigits_ne _ (List.append_eq_nil_iff.1 h).1

theorem getD_cons_zero (c : UInt8) (l : List UInt8) : (c :: l).getD 0 0 = c := rfl
theorem u8_eq {c : UInt8} {n : Nat} (hn : n < 256) (h : (c.toNat : Int) = (n : Int)) : c = UInt8.ofNat n := by
  have : c.toNat = n := by omega
  have h2 : c = UInt8.ofNat c.toNat := by simp
  rw [h2, this]

theorem short_l0 (t : List UInt8) (hs : Shape t) (hl : t.length ≤ 100) : ∀ (d i : Nat), i ≤ t.length → t.length - i = d → Ev (fun k => cadastrelaw03_NumShort.l0 k (mk t) (i : Int)) true := by
  intro d
  induction d with
  | zero =>
    intro i hi hd
    obtain rfl : i = t.length := by omega
    have stop : ∀ k, cadastrelaw03_NumShort.l0 (k + 1) (mk t) (t.length : Int) = cadastrelaw03_lives.f k := by
      intro k
      simp only [cadastrelaw03_NumShort.l0, mk_size, mk_toList]
      rw [if_neg (by omega), if_neg hs.2.1]
      have hb : ((cadastrelaw03_lives.f k).bind fun t => some t) = cadastrelaw03_lives.f k := by cases cadastrelaw03_lives.f k <;> rfl
      rw [hb]
      by_cases h2 : (t.length : Int) < 2
      · rw [if_pos h2]
      · rw [if_neg h2, if_pos (by omega)]
        by_cases h0 : bt (mk t) 0 = 48
        · rw [if_pos h0, if_pos (by omega)]
          have h1 : bt (mk t) 1 = 46 := by
            rw [bt_mk] at h0 ⊢
            match t, hs with
            | [], _ => simp at h2
            | [c], _ => simp at h2
            | c :: c2 :: l, hs =>
              have : c = 48 := u8_eq (n := 48) (by decide) h0
              have := hs.2.2.1 c2 l (by rw [this])
              rw [this]; rfl
          rw [if_pos h1]
        · rw [if_neg h0]
    exact Ev.step stop lives_ev
  | succ d ih =>
    intro i hi hd
    have step : ∀ k, cadastrelaw03_NumShort.l0 (k + 1) (mk t) (i : Int) = cadastrelaw03_NumShort.l0 k (mk t) ((i + 1 : Nat) : Int) := by
      intro k
      simp only [cadastrelaw03_NumShort.l0, mk_size]
      rw [if_pos (by omega), if_pos (by omega), w64 (x := (i : Int) + 1) (by omega) (by omega)]
      by_cases h : bt (mk t) (i : Int) = 46
      · rw [if_pos h]
        simp only [w64 (x := (t.length : Int) - 1) (by omega) (by omega)]
        rw [if_pos (by omega), if_pos (by omega), if_neg]
        · congr 1
        · have hm : 46 ∈ t := by
            rw [bt_mk] at h
            have h46 := u8_eq (n := 46) (by decide) h
            rw [show ((i : Int)).toNat = i by omega, List.getD_eq_getElem?_getD, List.getElem?_eq_getElem (by omega)] at h46
            have : t[i] = 46 := h46
            rw [← this]; exact List.getElem_mem _
          obtain ⟨m, c, hm, hc⟩ := hs.1 hm
          rw [bt_mk, hm]
          intro e
          apply hc
          have e2 : (((m ++ [c]).length : Nat) : Int) - 1 = (m.length : Int) := by simp
          rw [e2] at e
          have := u8_eq (n := 48) (by decide) e
          simpa using this
      · rw [if_neg h]; congr 1
    exact Ev.step step (ih (i + 1) (by omega) (by omega))

theorem short_pure (a : ByteArray) (h : a.size ≤ 1048576) : ∃ k, cadastrelaw03_NumShort.f k a = some true := by
  have hp : num_Parse.f a = some (parseL a.data.toList) := by unfold num_Parse.f; rw [if_pos (by omega)]
  by_cases h1 : (parseL a.data.toList).2 = 1
  · obtain ⟨hr1, hr2⟩ := parse_range _ h1
    generalize hx : (parseL a.data.toList).1 = x at hr1 hr2
    obtain ⟨K1, hK1⟩ := print_ev x (by omega) (by omega)
    have hsh := printL_shape x (by omega) (by omega)
    have hlen : (printL x).length ≤ 21 := by
      unfold printL
      rw [if_neg (by omega)]
      split
      · have := sizeL_len21 (n := x.natAbs) (by omega); simp; omega
      · have := sizeL_len21 (n := x.toNat) (by omega); omega
    obtain ⟨K2, hK2⟩ := short_l0 (printL x) hsh (by omega) _ 0 (Nat.zero_le _) rfl
    refine ⟨max K1 (K2 + 1), ?_⟩
    generalize hk : max K1 (K2 + 1) = k
    obtain ⟨m, rfl⟩ : ∃ m, k = m + 1 := ⟨k - 1, by omega⟩
    have e1 : num_Print.f (m + 1) x = some (mk (printL x)) := hK1 _ (by omega)
    have e2 : cadastrelaw03_NumShort.l0 m (mk (printL x)) 0 = some true := hK2 m (by omega)
    unfold cadastrelaw03_NumShort.f
    rw [hp]
    simp only [Option.bind_some]
    rw [if_pos h1, hx, e1]
    simp only [Option.bind_some]
    rw [parseF_eq (by omega), parse_print x (by omega) (by omega), if_neg (by omega)]
    simp only [Option.bind_some]
    rw [if_pos trivial, if_pos trivial]
    simp only [cadastrelaw03_NumShort.j0, mk_size]
    rw [if_neg (by simp; omega), e2]
  · obtain ⟨K, hK⟩ := lives_ev
    refine ⟨K, ?_⟩
    have hl : cadastrelaw03_lives.f K = some true := hK _ (Nat.le_refl _)
    unfold cadastrelaw03_NumShort.f
    rw [hp]
    simp only [Option.bind_some]
    rw [if_neg h1, if_pos (parse_zero _ h1), hl]; rfl

/-! ### noughts ahead and behind -/
theorem fold_noughts (z : Nat) (l : List UInt8) : fold10 0 (List.replicate z 48 ++ l) = fold10 0 l := by
  induction z with
  | zero => simp
  | succ z ih => rw [List.replicate_succ, List.cons_append, fold10_cons]; exact ih
theorem take_noughts (f : List UInt8) (a b : Nat) (ha : 5 ≤ f.length + a) (hb : 5 ≤ f.length + b) : (f ++ List.replicate a (48 : UInt8)).take 5 = (f ++ List.replicate b 48).take 5 := by
  rw [List.take_append, List.take_append, List.take_replicate, List.take_replicate]
  congr 2; omega
theorem numeral_five (w f g : List UInt8) (h : (pad5 f).take 5 = (pad5 g).take 5) : numeral w f = numeral w g := by
  have h1 : (pad5 f).take 4 = (pad5 g).take 4 := by
    have := congrArg (List.take 4) h
    simpa [List.take_take] using this
  have h2 : (pad5 f).getD 4 0 = (pad5 g).getD 4 0 := by
    have h3 := congrArg (fun l => l[4]?) h
    simp only [List.getElem?_take] at h3
    rw [List.getD_eq_getElem?_getD, List.getD_eq_getElem?_getD]
    simpa using congrArg (fun o => o.getD (0 : UInt8)) h3
  unfold numeral; rw [h1, h2]
theorem numeral_behind (w f : List UInt8) (z : Nat) : numeral w (f ++ List.replicate z 48) = numeral w f := by
  refine numeral_five _ _ _ ?_
  unfold pad5
  rw [List.append_assoc, List.replicate_append_replicate]
  refine take_noughts f _ _ ?_ ?_
  · rw [List.length_append, List.length_replicate]; omega
  · omega
theorem numeral_ahead (w f : List UInt8) (z : Nat) : numeral (List.replicate z 48 ++ w) f = numeral w f := by
  unfold numeral; rw [List.append_assoc, fold_noughts]
theorem numeral_size (n : Nat) : numeral (Lib.decDigits (n / 10000)) (fracL (n % 10000)) = n := by
  obtain ⟨hs1, hs2, hs3, hs4, hs5⟩ := fracL_spec _ (Nat.mod_lt n (by omega : 10000 > 0))
  have hlen : ((pad5 (fracL (n % 10000))).take 4).length = 4 := by unfold pad5; rw [List.length_take, List.length_append, List.length_replicate]; omega
  unfold numeral
  rw [hs4, if_neg (by decide), fold10_append, decDigits_val, fold10_eq, hs3, hlen]; omega
theorem rep_all (z : Nat) (c : UInt8) (h : isDig c = true) : (List.replicate z c).all isDig = true := by
  rw [List.all_eq_true]; intro x hx; rw [List.mem_replicate] at hx; rw [hx.2]; exact h
theorem digitsL_of {l : List UInt8} (h1 : l ≠ []) (h2 : l.length ≤ 40) (h3 : l.all isDig = true) : digitsL l = true := by
  unfold digitsL
  rw [h3, Bool.and_true, Bool.and_eq_true]
  refine ⟨?_, decide_eq_true h2⟩
  cases l with
  | nil => exact absurd rfl h1
  | cons _ _ => rfl
/-- Noughts ahead of the digits, and behind those behind the dot. -/
theorem parse_noughts (a : Int) (h1 : -9223372036854775808 < a) (h2 : a ≤ 9223372036854775807) (x y : Nat) (hx : x ≤ 20) (hy : 1 ≤ y + (fracL (a.natAbs % 10000)).length) (hy2 : y ≤ 31) :
    parseL ((if a < 0 then [45] else []) ++ (List.replicate x 48 ++ (Lib.decDigits (a.natAbs / 10000) ++ 46 :: (fracL (a.natAbs % 10000) ++ List.replicate y 48)))) = (a, 1) := by
  have hr : a.natAbs % 10000 < 10000 := Nat.mod_lt _ (by omega)
  obtain ⟨hs1, hs2, hs3, hs4, hs5⟩ := fracL_spec _ hr
  have hd15 := decDigits_len (a.natAbs / 10000) 15 (by omega) (by omega)
  have hall : (List.replicate x 48 ++ Lib.decDigits (a.natAbs / 10000)).all isDig = true := by rw [List.all_append, rep_all _ _ (by decide), decDigits_all]; rfl
  have hd1 : digitsL (List.replicate x 48 ++ Lib.decDigits (a.natAbs / 10000)) = true :=
    digitsL_of (fun h => decDigits_ne _ (List.append_eq_nil_iff.1 h).2) (by rw [List.length_append, List.length_replicate]; omega) hall
  have hd2 : digitsL (fracL (a.natAbs % 10000) ++ List.replicate y 48) = true := by
    refine digitsL_of (fun h => ?_) (by rw [List.length_append, List.length_replicate]; omega) (by rw [List.all_append, hs1, rep_all _ _ (by decide)]; rfl)
    have := congrArg List.length h
    rw [List.length_append, List.length_replicate, List.length_nil] at this
    omega
  have hcut := cut_hit (List.replicate x 48 ++ Lib.decDigits (a.natAbs / 10000)) (fracL (a.natAbs % 10000) ++ List.replicate y 48) (all_ne hall)
  rw [List.append_assoc] at hcut
  have hn : numeral (List.replicate x 48 ++ Lib.decDigits (a.natAbs / 10000)) (fracL (a.natAbs % 10000) ++ List.replicate y 48) = a.natAbs := by
    rw [numeral_behind, numeral_ahead, numeral_size]
  have fin : ∀ m : Bool, (if m then -((a.natAbs : Nat) : Int) else ((a.natAbs : Nat) : Int)) = a → told m a.natAbs = (a, 1) := by
    intro m hm; unfold told; rw [if_pos (by omega), hm]
  by_cases hneg : a < 0
  · rw [if_pos hneg]
    unfold parseL
    rw [if_pos (by rfl)]
    rw [show List.drop 1 ([45] ++ (List.replicate x (48 : UInt8) ++ (Lib.decDigits (a.natAbs / 10000) ++ 46 :: (fracL (a.natAbs % 10000) ++ List.replicate y 48)))) = (List.replicate x (48 : UInt8) ++ (Lib.decDigits (a.natAbs / 10000) ++ 46 :: (fracL (a.natAbs % 10000) ++ List.replicate y 48))) from rfl]
    rw [hcut, parse3_good _ _ _ _ hd1 (.inr hd2) (fun h => by cases h), hn]
    exact fin true (by simp; omega)
  · rw [if_neg hneg, List.nil_append]
    unfold parseL
    rw [if_neg]
    · rw [hcut, parse3_good _ _ _ _ hd1 (.inr hd2) (fun h => by cases h), hn]
      exact fin false (by simp; omega)
    · rw [← List.append_assoc]
      intro hh
      cases hw : List.replicate x (48 : UInt8) ++ Lib.decDigits (a.natAbs / 10000) with
      | nil => rw [hw] at hd1; revert hd1; decide
      | cons c r =>
        rw [hw] at hh hall
        simp only [List.cons_append, List.head?_cons, Option.some.injEq] at hh
        rw [hh] at hall
        simp [isDig] at hall

/-! ### NumNoughts -/
theorem tmod_w {x m : Int} (h0 : 0 ≤ x) (h1 : x ≤ 255) (hm : 0 < m) (hm2 : m ≤ 255) : wrap64 (x.tmod m) = x % m := by
  rw [Int.tmod_eq_emod_of_nonneg h0]
  have h3 := Int.emod_nonneg x (show m ≠ 0 by omega)
  have h4 := Int.emod_lt_of_pos x hm
  exact w64 (by omega) (by omega)

theorem noughts_l2 (x0 : Int) (n : Nat) (hn : n ≤ 30) (x2 : Int) (hx : wrap64 (x2.tmod 30) = (n : Int)) (sg : List UInt8) (hsg : sg.length ≤ 1) :
    ∀ (d i : Nat) (s : List UInt8), n - i = d → i ≤ n → s.length ≤ 100 + i → parseL (sg ++ (s ++ List.replicate d 48)) = (x0, 1) → Ev (fun k => cadastrelaw03_NumNoughts.l2 k x0 x2 (mk s) (mk sg) (i : Int)) true := by
  intro d
  induction d with
  | zero =>
    intro i s hd hi hl hp
    have stop : ∀ k, cadastrelaw03_NumNoughts.l2 (k + 1) x0 x2 (mk s) (mk sg) (i : Int) = cadastrelaw03_lives.f k := by
      intro k
      simp only [cadastrelaw03_NumNoughts.l2, hx, mk_append]
      rw [if_neg (by omega), if_pos (by rw [mk_size, mk_size]; omega), parseF_eq (by rw [List.length_append]; omega)]
      rw [show parseL (sg ++ s) = (x0, 1) by rw [← hp]; simp]
      simp only [Option.bind_some]
      rw [if_pos trivial, if_pos trivial]
      cases cadastrelaw03_lives.f k <;> rfl
    exact Ev.step stop lives_ev
  | succ d ih =>
    intro i s hd hi hl hp
    have step : ∀ k, cadastrelaw03_NumNoughts.l2 (k + 1) x0 x2 (mk s) (mk sg) (i : Int) = cadastrelaw03_NumNoughts.l2 k x0 x2 (mk (s ++ [48])) (mk sg) ((i + 1 : Nat) : Int) := by
      intro k
      rw [cadastrelaw03_NumNoughts.l2, hx]
      rw [if_pos (by omega), if_pos (by rw [mk_size]; omega), w64 (by omega) (by omega), show (⟨#[48]⟩ : ByteArray) = mk [48] from rfl, mk_append]; rfl
    refine Ev.step step (ih (i + 1) (s ++ [48]) (by omega) (by omega) (by rw [List.length_append]; simp; omega) ?_)
    rw [← hp, List.append_assoc]; rfl

theorem noughts_l1 (x0 x1 x2 : Int) (n1 : Nat) (h1 : wrap64 (x1.tmod 20) = (n1 : Int)) (hn1 : n1 ≤ 20) (n2 : Nat) (h2 : wrap64 (x2.tmod 30) = (n2 : Int)) (hn2 : n2 ≤ 30) (sg : List UInt8) (hsg : sg.length ≤ 1) :
    ∀ (d i : Nat) (s : List UInt8), n1 - i = d → i ≤ n1 → s.length ≤ 60 + i → parseL (sg ++ ((List.replicate d 48 ++ s) ++ List.replicate n2 48)) = (x0, 1) → Ev (fun k => cadastrelaw03_NumNoughts.l1 k x0 x1 x2 (mk s) (mk sg) (i : Int)) true := by
  intro d
  induction d with
  | zero =>
    intro i s hd hi hl hp
    have stop : ∀ k, cadastrelaw03_NumNoughts.l1 (k + 1) x0 x1 x2 (mk s) (mk sg) (i : Int) = cadastrelaw03_NumNoughts.l2 k x0 x2 (mk s) (mk sg) ((0 : Nat) : Int) := by
      intro k
      rw [cadastrelaw03_NumNoughts.l1, h1, if_neg (by omega)]; rfl
    refine Ev.step stop (noughts_l2 x0 n2 hn2 x2 h2 sg hsg n2 0 s rfl (Nat.zero_le _) (by omega) ?_)
    rw [← hp]; simp
  | succ d ih =>
    intro i s hd hi hl hp
    have step : ∀ k, cadastrelaw03_NumNoughts.l1 (k + 1) x0 x1 x2 (mk s) (mk sg) (i : Int) = cadastrelaw03_NumNoughts.l1 k x0 x1 x2 (mk ([48] ++ s)) (mk sg) ((i + 1 : Nat) : Int) := by
      intro k
      rw [cadastrelaw03_NumNoughts.l1, h1]
      rw [if_pos (by omega), if_pos (by rw [mk_size]; omega), w64 (by omega) (by omega), show (⟨#[48]⟩ : ByteArray) = mk [48] from rfl, mk_append]; rfl
    refine Ev.step step (ih (i + 1) ([48] ++ s) (by omega) (by omega) (by rw [List.length_append]; simp; omega) ?_)
    rw [← hp, List.replicate_succ']; simp

theorem noughts_l0 (x0 x1 x2 : Int) (sg : ByteArray) (s : List UInt8) (hl : s.length ≤ 50) :
    ∀ (d i : Nat) (flag : Bool), s.length - i = d → i ≤ s.length →
      Ev (fun k => cadastrelaw03_NumNoughts.j2 k x0 x1 x2 (mk (if (flag || (s.drop i).any (· == 46)) = true then s else s ++ [46, 48])) sg) true →
      Ev (fun k => cadastrelaw03_NumNoughts.l0 k x0 x1 x2 (mk s) sg flag (i : Int)) true := by
  intro d
  induction d with
  | zero =>
    intro i flag hd hi he
    obtain rfl : i = s.length := by omega
    rw [List.drop_of_length_le (Nat.le_refl _), List.any_nil, Bool.or_false] at he
    refine Ev.step (fun k => ?_) he
    simp only [cadastrelaw03_NumNoughts.l0, mk_size]
    rw [if_neg (by omega)]
    cases flag
    · rw [if_neg (by decide), if_pos (by omega), if_neg (by decide), show (⟨#[46, 48]⟩ : ByteArray) = mk [46, 48] from rfl, mk_append]
    · rw [if_pos rfl, if_pos rfl]
  | succ d ih =>
    intro i flag hd hi he
    have hdr : s.drop i = s.getD i 0 :: s.drop (i + 1) := getD_drop (by omega)
    rw [hdr, List.any_cons] at he
    have hb : ((bt (mk s) (i : Int)) == 46) = (s.getD i 0 == 46) := by
      rw [bt_mk, show ((i : Int)).toNat = i by omega, Bool.eq_iff_iff, beq_iff_eq, beq_iff_eq]
      constructor
      · intro h; exact u8_eq (n := 46) (by decide) h
      · intro h; rw [h]; rfl
    refine Ev.step (f := fun k => cadastrelaw03_NumNoughts.l0 k x0 x1 x2 (mk s) sg (flag || (s.getD i 0 == 46)) ((i + 1 : Nat) : Int)) (fun k => ?_) (ih (i + 1) _ (by omega) (by omega) ?_)
    · rw [cadastrelaw03_NumNoughts.l0]
      rw [if_pos (show (i : Int) < ((mk s).size : Int) by rw [mk_size]; omega), w64 (x := (i : Int) + 1) (by omega) (by omega)]
      cases flag
      · rw [if_neg (by decide), if_pos (by omega), hb]; simp
      · rw [if_pos rfl]; simp
    · rw [Bool.or_assoc]; exact he

theorem noughts_pure (a x y : Int) (ha : (Lit.int .i64 a).wf = true) (hx : (Lit.int .u8 x).wf = true) (hy : (Lit.int .u8 y).wf = true) : ∃ k, cadastrelaw03_NumNoughts.f k a x y = some true := by
  obtain ⟨a1, a2⟩ := wf64 ha
  obtain ⟨x1, x2⟩ := wf8 hx
  obtain ⟨y1, y2⟩ := wf8 hy
  by_cases hm : a = -9223372036854775808
  · obtain ⟨K, hK⟩ := lives_ev
    refine ⟨K, ?_⟩
    have hl : cadastrelaw03_lives.f K = some true := hK _ (Nat.le_refl _)
    unfold cadastrelaw03_NumNoughts.f cadastreref01_Can.f
    simp only [Option.bind_some]
    rw [if_neg (by simp [hm]), hl]; rfl
  · have hw1 := tmod_w x1 x2 (show (0 : Int) < 20 by omega) (by omega)
    have hw2 := tmod_w y1 y2 (show (0 : Int) < 30 by omega) (by omega)
    obtain ⟨n1, hn1⟩ : ∃ n : Nat, x % 20 = (n : Int) := ⟨(x % 20).toNat, by omega⟩
    obtain ⟨n2, hn2⟩ : ∃ n : Nat, y % 30 = (n : Int) := ⟨(y % 30).toNat, by omega⟩
    rw [hn1] at hw1; rw [hn2] at hw2
    have hr : a.natAbs % 10000 < 10000 := Nat.mod_lt _ (by omega)
    obtain ⟨hs1, hs2, hs3, hs4, hs5⟩ := fracL_spec _ hr
    have hd15 := decDigits_len (a.natAbs / 10000) 15 (by omega) (by omega)
    have hsl := sizeL_len21 (n := a.natAbs) (by omega)
    -- the text with a dot
    have main : ∀ sg : List UInt8, (sg = if a < 0 then [45] else []) → Ev (fun k => cadastrelaw03_NumNoughts.j0 k a x y (mk (sizeL a.natAbs)) (mk sg)) true := by
      intro sg hsg
      have hsgl : sg.length ≤ 1 := by rw [hsg]; split <;> simp
      refine Ev.step (f := fun k => cadastrelaw03_NumNoughts.l0 k a x y (mk (sizeL a.natAbs)) (mk sg) false ((0 : Nat) : Int)) (fun k => by rw [cadastrelaw03_NumNoughts.j0]; rfl) ?_
      refine noughts_l0 a x y (mk sg) _ (by omega) _ 0 false rfl (Nat.zero_le _) ?_
      rw [Bool.false_or, List.drop_zero]
      refine Ev.step (f := fun k => cadastrelaw03_NumNoughts.l1 k a x y (mk (if (sizeL a.natAbs).any (· == 46) = true then sizeL a.natAbs else sizeL a.natAbs ++ [46, 48])) (mk sg) ((0 : Nat) : Int)) (fun k => by rw [cadastrelaw03_NumNoughts.j2]; rfl) ?_
      refine noughts_l1 a x y n1 hw1 (by omega) n2 hw2 (by omega) sg hsgl n1 0 _ rfl (Nat.zero_le _) ?_ ?_
      · split
        · omega
        · rw [List.length_append]; simp; omega
      · have hpn := fun z h1 h2 => parse_noughts a (by omega) a2 n1 z (by omega) h1 h2
        rw [← hsg] at hpn
        unfold sizeL
        by_cases h0 : fracL (a.natAbs % 10000) = []
        · rw [if_pos h0, List.append_nil]
          have hno : ((Lib.decDigits (a.natAbs / 10000)).any (· == 46)) = false := by
            rw [List.any_eq_false]; intro c hc; simpa using all_ne (decDigits_all _) c hc
          rw [hno, if_neg (by decide)]
          have := hpn (n2 + 1) (by omega) (by omega)
          rw [h0, List.nil_append, List.replicate_succ] at this
          rw [← this]; simp
        · rw [if_neg h0]
          have hyes : ((Lib.decDigits (a.natAbs / 10000) ++ 46 :: fracL (a.natAbs % 10000)).any (· == 46)) = true := by
            rw [List.any_append, List.any_cons]; simp
          rw [hyes, if_pos rfl]
          have hfl : 1 ≤ (fracL (a.natAbs % 10000)).length := by
            cases hh : fracL (a.natAbs % 10000) with
            | nil => exact absurd hh h0
            | cons _ _ => simp
          rw [← hpn n2 (by omega) (by omega)]; simp
    by_cases hn : a < 0
    · obtain ⟨K, hK⟩ := main [45] (by rw [if_pos hn])
      refine ⟨max K 21, ?_⟩
      have hj : cadastrelaw03_NumNoughts.j0 (max K 21) a x y (mk (sizeL a.natAbs)) (mk [45]) = some true := hK _ (by omega)
      unfold cadastrelaw03_NumNoughts.f cadastreref01_Can.f
      simp only [Option.bind_some]
      rw [if_pos (by simp [hm]), refprint_ev a a1 a2 _ (by omega)]
      simp only [Option.bind_some]
      have hp : printL a = 45 :: sizeL a.natAbs := by unfold printL; rw [if_neg hm, if_pos hn]
      rw [if_pos hn, if_pos (by rw [mk_size, hp]; simp; omega), mk_drop, hp]
      exact hj
    · obtain ⟨K, hK⟩ := main [] (by rw [if_neg hn])
      refine ⟨max K 21, ?_⟩
      have hj : cadastrelaw03_NumNoughts.j0 (max K 21) a x y (mk (sizeL a.natAbs)) (mk []) = some true := hK _ (by omega)
      unfold cadastrelaw03_NumNoughts.f cadastreref01_Can.f
      simp only [Option.bind_some]
      rw [if_pos (by simp [hm]), refprint_ev a a1 a2 _ (by omega)]
      simp only [Option.bind_some]
      have hp : printL a = sizeL a.natAbs := by unfold printL; rw [if_neg hm, if_neg hn, show a.toNat = a.natAbs by omega]
      rw [if_neg hn, hp]
      exact hj

/-! ### NumLong -/
theorem long_j2 (v w : Int) (bad : Bool) (h : if bad = true then v = 0 ∧ w = 0 else w = 1 ∧ v > 0 ∧ v ≤ 1111) : Ev (fun k => cadastrelaw03_NumLong.j2 k v w bad) true := by
  refine Ev.step (f := cadastrelaw03_lives.f) (fun k => ?_) lives_ev
  have hb : ((cadastrelaw03_lives.f k).bind fun t => some t) = cadastrelaw03_lives.f k := by cases cadastrelaw03_lives.f k <;> rfl
  rw [cadastrelaw03_NumLong.j2]
  cases bad
  · simp only [Bool.false_eq_true, if_false] at h
    rw [if_neg (by decide), if_pos h.1, if_pos h.2.1, if_pos h.2.2, hb]
  · simp only [if_true] at h
    rw [if_pos rfl, if_pos h.2, if_pos h.1, hb]
theorem ones (m : Nat) (hm : 1 ≤ m) (w : List UInt8) (hw : fold10 0 w = 0) : 0 < numeral w (List.replicate m 49) ∧ numeral w (List.replicate m 49) ≤ 1111 := by
  have h5 : (pad5 (List.replicate m (49 : UInt8))).take 5 = (pad5 (List.replicate (min m 5) 49)).take 5 := by
    rcases Nat.lt_or_ge m 5 with h | h
    · rw [Nat.min_eq_left (Nat.le_of_lt h)]
    · rw [Nat.min_eq_right h]
      unfold pad5
      simp only [List.length_replicate]
      rw [show 5 - m = 0 by omega, show 5 - 5 = 0 by omega, List.replicate_zero, List.append_nil, List.append_nil, List.take_replicate, List.take_replicate, show min 5 m = 5 by omega]; rfl
  rw [numeral_five _ _ _ h5]
  have : min m 5 = 1 ∨ min m 5 = 2 ∨ min m 5 = 3 ∨ min m 5 = 4 ∨ min m 5 = 5 := by omega
  unfold numeral
  rw [fold10_append, hw]
  rcases this with h | h | h | h | h <;> rw [h] <;> decide
theorem long_end (n m : Nat) (hn : n ≤ 50) (hm : m ≤ 50) :
    Ev (fun k => cadastrelaw03_NumLong.l1 k (n : Int) (m : Int) (mk (List.replicate n 48)) (mk (List.replicate m 49)) (m : Int)) true := by
  have hp : parseL (List.replicate n 48 ++ 46 :: List.replicate m 49) = if 1 ≤ n ∧ n ≤ 40 ∧ 1 ≤ m ∧ m ≤ 40 then (((numeral (List.replicate n 48) (List.replicate m 49) : Nat) : Int), 1) else (0, 0) := by
    have hh : (List.replicate n (48 : UInt8) ++ 46 :: List.replicate m 49).head? ≠ some 45 := by
      cases n with
      | zero => simp
      | succ n => rw [List.replicate_succ]; simp
    unfold parseL
    rw [if_neg hh, cut_hit _ _ (all_ne (rep_all _ _ (by decide)))]
    have hz : ∀ (c : UInt8) (k : Nat), isDig c = true → (digitsL (List.replicate k c) = true ↔ 1 ≤ k ∧ k ≤ 40) := by
      intro c k hc
      unfold digitsL
      rw [rep_all _ _ hc, Bool.and_true, Bool.and_eq_true, List.length_replicate, decide_eq_true_eq]
      cases k with
      | zero => simp
      | succ k => rw [List.replicate_succ]; simp
    have hz1 := hz 48 n (by decide)
    have hz2 := hz 49 m (by decide)
    by_cases hg : 1 ≤ n ∧ n ≤ 40 ∧ 1 ≤ m ∧ m ≤ 40
    · rw [if_pos hg, parse3_good _ _ _ _ (hz1.2 ⟨hg.1, hg.2.1⟩) (.inr (hz2.2 ⟨hg.2.2.1, hg.2.2.2⟩)) (fun h => by cases h)]
      have := ones m hg.2.2.1 (List.replicate n 48) (by have := fold_noughts n []; rw [List.append_nil] at this; exact this)
      unfold told; rw [if_pos (by omega)]; simp
    · rw [if_neg hg, parse3_bad]
      by_cases h1 : 1 ≤ n ∧ n ≤ 40
      · right
        refine ⟨rfl, ?_⟩
        cases hd : digitsL (List.replicate m 49) with
        | false => rfl
        | true => have := hz2.1 hd; exact absurd ⟨h1.1, h1.2, this.1, this.2⟩ hg
      · left
        cases hd : digitsL (List.replicate n 48) with
        | false => rfl
        | true => exact absurd (hz1.1 hd) h1
  have hbad : ∀ (v w : Int) (bad : Bool), (parseL (List.replicate n 48 ++ 46 :: List.replicate m 49)) = (v, w) → (bad = true ↔ ¬ (1 ≤ n ∧ n ≤ 40 ∧ 1 ≤ m ∧ m ≤ 40)) → Ev (fun k => cadastrelaw03_NumLong.j2 k v w bad) true := by
    intro v w bad h hb
    rw [hp] at h
    apply long_j2
    by_cases hg : 1 ≤ n ∧ n ≤ 40 ∧ 1 ≤ m ∧ m ≤ 40
    · have hbf : bad = false := by cases bad <;> simp_all
      rw [if_pos hg] at h
      have := ones m hg.2.2.1 (List.replicate n 48) (by have := fold_noughts n []; rw [List.append_nil] at this; exact this)
      obtain ⟨rfl, rfl⟩ := Prod.mk.inj h
      rw [hbf, if_neg (by decide)]
      exact ⟨rfl, by omega, by omega⟩
    · have hbt : bad = true := hb.2 hg
      rw [if_neg hg] at h
      obtain ⟨rfl, rfl⟩ := Prod.mk.inj h
      rw [hbt, if_pos rfl]; exact ⟨rfl, rfl⟩
  have stop : ∀ k, cadastrelaw03_NumLong.l1 (k + 1) (n : Int) (m : Int) (mk (List.replicate n 48)) (mk (List.replicate m 49)) (m : Int) =
      cadastrelaw03_NumLong.j2 k (parseL (List.replicate n 48 ++ 46 :: List.replicate m 49)).1 (parseL (List.replicate n 48 ++ 46 :: List.replicate m 49)).2 (!decide (1 ≤ n ∧ n ≤ 40 ∧ 1 ≤ m ∧ m ≤ 40)) := by
    intro k
    rw [cadastrelaw03_NumLong.l1, show (⟨#[46]⟩ : ByteArray) = mk [46] from rfl]
    simp only [mk_append]
    rw [if_neg (by omega), if_pos (by rw [mk_size, List.length_replicate]; omega), if_pos (by rw [mk_size, mk_size, List.length_append, List.length_replicate, List.length_replicate]; simp; omega)]
    rw [List.append_assoc, show [46] ++ List.replicate m (49 : UInt8) = 46 :: List.replicate m 49 from rfl, parseF_eq (by rw [List.length_append, List.length_replicate, List.length_cons, List.length_replicate]; omega)]
    simp only [Option.bind_some, cadastrelaw03_most.f]
    by_cases h1 : (n : Int) < 1
    · rw [if_pos h1]; congr 1; simp; omega
    · rw [if_neg h1]
      by_cases h2 : (n : Int) > 40
      · rw [if_pos h2]; congr 1; simp; omega
      · rw [if_neg h2]
        by_cases h3 : (m : Int) < 1
        · rw [if_pos h3]; congr 1; simp; omega
        · rw [if_neg h3]; congr 1
          rw [Bool.eq_iff_iff]; simp; omega
  exact Ev.step stop (hbad _ _ _ rfl (by rw [Bool.not_eq_true', decide_eq_false_iff_not]))
theorem long_l1 (n m : Nat) (hn : n ≤ 50) (hm : m ≤ 50) : ∀ (d i : Nat), m - i = d → i ≤ m →
    Ev (fun k => cadastrelaw03_NumLong.l1 k (n : Int) (m : Int) (mk (List.replicate n 48)) (mk (List.replicate i 49)) (i : Int)) true := by
  intro d
  induction d with
  | zero => intro i hd hi; obtain rfl : i = m := by omega
            exact long_end n i hn hm
  | succ d ih =>
    intro i hd hi
    refine Ev.step (f := fun k => cadastrelaw03_NumLong.l1 k (n : Int) (m : Int) (mk (List.replicate n 48)) (mk (List.replicate (i + 1) 49)) ((i + 1 : Nat) : Int)) (fun k => ?_) (ih (i + 1) (by omega) (by omega))
    rw [cadastrelaw03_NumLong.l1, if_pos (by omega), if_pos (by rw [mk_size, List.length_replicate]; omega), w64 (by omega) (by omega), show (⟨#[49]⟩ : ByteArray) = mk [49] from rfl, mk_append, List.replicate_succ']; rfl
theorem long_l0 (n m : Nat) (hn : n ≤ 50) (hm : m ≤ 50) : ∀ (d i : Nat), n - i = d → i ≤ n →
    Ev (fun k => cadastrelaw03_NumLong.l0 k (n : Int) (m : Int) (mk (List.replicate i 48)) (mk []) (i : Int)) true := by
  intro d
  induction d with
  | zero =>
    intro i hd hi
    obtain rfl : i = n := by omega
    refine Ev.step (f := fun k => cadastrelaw03_NumLong.l1 k (i : Int) (m : Int) (mk (List.replicate i 48)) (mk (List.replicate 0 49)) ((0 : Nat) : Int)) (fun k => ?_) (long_l1 i m hn hm m 0 rfl (Nat.zero_le _))
    rw [cadastrelaw03_NumLong.l0, if_neg (by omega)]; rfl
  | succ d ih =>
    intro i hd hi
    refine Ev.step (f := fun k => cadastrelaw03_NumLong.l0 k (n : Int) (m : Int) (mk (List.replicate (i + 1) 48)) (mk []) ((i + 1 : Nat) : Int)) (fun k => ?_) (ih (i + 1) (by omega) (by omega))
    rw [cadastrelaw03_NumLong.l0, if_pos (by omega), if_pos (by rw [mk_size, List.length_replicate]; omega), w64 (by omega) (by omega), show (⟨#[48]⟩ : ByteArray) = mk [48] from rfl, mk_append, List.replicate_succ']; rfl
theorem long_pure (x y : Int) (hx : (Lit.int .u8 x).wf = true) (hy : (Lit.int .u8 y).wf = true) : ∃ k, cadastrelaw03_NumLong.f k x y = some true := by
  obtain ⟨x1, x2⟩ := wf8 hx
  obtain ⟨y1, y2⟩ := wf8 hy
  unfold cadastrelaw03_NumLong.f
  rw [tmod_w x1 x2 (by omega) (by omega), tmod_w y1 y2 (by omega) (by omega)]
  obtain ⟨n, hn⟩ : ∃ n : Nat, x % 50 = (n : Int) := ⟨(x % 50).toNat, by omega⟩
  obtain ⟨m, hm⟩ : ∃ n : Nat, y % 50 = (n : Int) := ⟨(y % 50).toNat, by omega⟩
  rw [hn, hm]
  exact (long_l0 n m (by omega) (by omega) n 0 rfl (Nat.zero_le _)).rounds
end Go.Proofs.YtmoohjomkdcdhaaDoor.Y
namespace Go.Proofs.YtmoohjomkdcdhaaDoor.Pure
theorem NumDigits : ∀ (a0 : Int), (Lit.int .i64 a0).wf = true → ∃ k, Y.cadastrelaw03_NumDigits.f k a0 = some true := Y.digits_pure
theorem NumPrints : ∀ (a0 : Int), (Lit.int .i64 a0).wf = true → ∃ k, Y.cadastrelaw03_NumPrints.f k a0 = some true := Y.prints_pure
theorem NumShort : ∀ (a0 : ByteArray), a0.size ≤ 1048576 → ∃ k, Y.cadastrelaw03_NumShort.f k a0 = some true := Y.short_pure
theorem NumNoughts : ∀ (a0 a1 a2 : Int), (Lit.int .i64 a0).wf = true → (Lit.int .u8 a1).wf = true → (Lit.int .u8 a2).wf = true → ∃ k, Y.cadastrelaw03_NumNoughts.f k a0 a1 a2 = some true := Y.noughts_pure
theorem NumLong : ∀ (a0 a1 : Int), (Lit.int .u8 a0).wf = true → (Lit.int .u8 a1).wf = true → ∃ k, Y.cadastrelaw03_NumLong.f k a0 a1 = some true := Y.long_pure
end Go.Proofs.YtmoohjomkdcdhaaDoor.Pure
