/- num.Parse: what the printed function comes to. -/
import Derived.Test.YtaldfmbnfnagjaaDoorEvPlain
import Derived.Test.YtaldfmbnfnagjaaDoorEvFns
namespace Go.Proofs.YtaldfmbnfnagjaaDoor.E
set_option linter.unusedVariables false
set_option linter.unusedSimpArgs false
theorem strings_CutPrefix_eq (a0 : ByteArray) : strings_CutPrefix.f a0 ⟨#[45]⟩ = some (if a0.data.toList.head? = some 45 then (a0.extract 1 a0.size, true, ()) else (a0, false, ())) := by
  have hl := size_toList a0
  unfold strings_CutPrefix.f internal_stringslite_CutPrefix.f internal_stringslite_HasPrefix.f
  have h1 : ((⟨#[45]⟩ : ByteArray).size : Int) = 1 := rfl
  have h2 : (⟨#[45]⟩ : ByteArray).toList = [45] := by rw [toList_eq]
  have e : (a0.extract 0 (1 : Int).toNat).data.toList = a0.data.toList.take 1 := by rw [ByteArray.data_extract]; simp
  simp only [h1, h2, cond_eq_ite, decide_eq_true_eq, toList_eq, beq_iff_eq, e]
  cases hd : a0.data.toList with
  | nil =>
    rw [hd] at hl
    have : ¬ ((a0.size : Int) ≥ 1) := by simp at hl; omega
    simp [this]
  | cons c r =>
    rw [hd] at hl
    have : (a0.size : Int) ≥ 1 := by simp at hl; omega
    have h3 : (1 : Int) ≤ (a0.size : Int) := this
    rw [if_pos this, if_pos (by omega), if_pos h3]
    by_cases hc : c = 45
    · subst hc; simp [h3]
    · simp [hc]
theorem num_digits_eq (s : ByteArray) (hs : s.size ≤ 9223372036854775807) : num_digits.f s = some (digitsL s.data.toList, ()) := by
  have hl := size_toList s
  unfold num_digits.f digitsL
  simp only [toList_eq]
  by_cases h1 : s.data.toList = ([] : List UInt8)
  · rw [h1]; rfl
  · have e : s.data.toList.isEmpty = false := by simpa using h1
    have e2 : (s.data.toList == ([] : List UInt8)) = false := by rw [beq_eq_false_iff_ne]; exact h1
    rw [e, e2, c_true (by rfl)]
    by_cases h2 : (s.size : Int) ≤ 40
    · rw [decide_eq_true h2, c_true (by rfl)]
      unfold ext_Trim
      rw [if_pos hs, if_pos (by decide), if_pos (by decide)]
      simp only [Option.bind_some, toList_eq]
      rw [hl, decide_eq_true (by omega : s.size ≤ 40)]
      simp only [Bool.not_false, Bool.true_and]
      congr 2
      rw [Bool.eq_iff_iff, beq_iff_eq]
      rw [trimS_nil]
      have : (fun c => (⟨#[48, 49, 50, 51, 52, 53, 54, 55, 56, 57]⟩ : ByteArray).data.toList.contains c) = isDig := by
        funext c
        rw [Bool.eq_iff_iff, isDig_iff]
        exact List.contains_iff_mem
      rw [this]
    · rw [decide_eq_false h2, hl, decide_eq_false (by omega : ¬ s.size ≤ 40)]
      simp
def padB (s : ByteArray) : ByteArray := bmk (pad5 s.data.toList)
theorem parse_l0 (n : Nat) (x : Bool × ByteArray × ByteArray × Unit) (h : 5 - x.2.2.1.size < n) (hs : x.2.2.1.size ≤ 4294967281) : loopN num_Parse.l0 n x = some (.go (x.1, x.2.1, padB x.2.2.1, ())) := by
  refine loop_ind (s := num_Parse.l0) (fun x r => x.2.2.1.size ≤ 4294967281 → r = some (.go (x.1, x.2.1, padB x.2.2.1, ()))) (fun x => 5 - x.2.2.1.size) ?_ n x h hs
  clear h hs x n
  rintro ⟨m, w, f, u⟩ rec ih hs
  simp only at hs ⊢
  have hl := size_toList f
  unfold num_Parse.l0
  simp only
  by_cases h4 : (f.size : Int) ≤ 4
  · have h1 : (⟨#[48]⟩ : ByteArray).size = 1 := rfl
    rw [d_true h4, d_false (by rw [h1, max64]; omega), ih _ (by simp only [ByteArray.size_append, h1]; omega) (by simp only [ByteArray.size_append, h1]; omega)]
    have : padB (f ++ ⟨#[48]⟩) = padB f := by
      unfold padB
      congr 1
      rw [ByteArray.data_append, Array.toList_append]
      unfold pad5
      rw [List.length_append, List.append_assoc]
      congr 1
      show [48] ++ List.replicate (5 - (f.data.toList.length + 1)) 48 = _
      rw [show 5 - f.data.toList.length = (5 - (f.data.toList.length + 1)) + 1 by omega, List.replicate_succ]; rfl
    rw [this]
  · rw [d_false h4]
    have : padB f = f := by unfold padB pad5; rw [show 5 - f.data.toList.length = 0 by omega]; simp
    rw [this]
abbrev L1 := Bool × ByteArray × Int × (List Int) × Int × Int × Unit
theorem parse_l1 (l : List UInt8) (hd : l.all isDig = true) (hl : l.length ≤ 4294967281) (n : Nat) (mi : Bool) (fr : ByteArray) (h : l.length < n) :
    loopN num_Parse.l1 n (mi, fr, 0, l.map (fun c => (c.toNat : Int)), (l.length : Int), 0, ()) = match digs 0 l with | none => some (.out (0, 2, ())) | some k => some (.go (mi, fr, (k : Int), ())) := by
  have key := loop_ind (s := num_Parse.l1) (fun x r => ∀ i m : Nat, x = (mi, fr, (m : Int), l.map (fun c => (c.toNat : Int)), (l.length : Int), (i : Int), ()) → i ≤ l.length → m ≤ 9223372036854775807 →
    r = match digs m (l.drop i) with | none => some (.out (0, 2, ())) | some k => some (.go (mi, fr, (k : Int), ()))) (fun x => l.length - x.2.2.2.2.2.1.toNat) ?_
  · have := key n (mi, fr, 0, l.map (fun c => (c.toNat : Int)), (l.length : Int), 0, ()) (by simp; exact h) 0 0 rfl (Nat.zero_le _) (by omega)
    simpa using this
  · rintro x rec ih i m rfl hi hm
    unfold num_Parse.l1
    simp only
    by_cases h : i < l.length
    · obtain ⟨c, hc⟩ : ∃ c, l[i]? = some c := ⟨_, List.getElem?_eq_getElem h⟩
      have hdc : 48 ≤ c.toNat ∧ c.toNat ≤ 57 := by
        have := List.all_eq_true.1 hd c (List.mem_of_getElem? hc)
        simpa [isDig] using this
      rw [d_true (by omega), idx_nat, List.getElem?_map, hc]
      simp only [Option.map_some, Option.bind_some]
      rw [wu8 (by omega) (by omega), wu64 (x := (c.toNat : Int) - 48) (by omega) (by omega), wu64 (x := 9223372036854775807 - ((c.toNat : Int) - 48)) (by omega) (by omega)]
      rw [Int.tdiv_eq_ediv_of_nonneg (by omega), wu64 (by omega) (by omega), drop_cons hc, digs]
      by_cases hg : m > (9223372036854775807 - (c.toNat - 48)) / 10
      · rw [d_true (by omega), if_pos hg]
      · rw [d_false (by omega), if_neg hg, wu64 (x := 10 * (m : Int)) (by omega) (by omega), wu64 (by omega) (by omega), w64 (by omega) (by omega)]
        refine ih _ (by simp only; omega) (i + 1) (10 * m + (c.toNat - 48)) ?_ (by omega) (by omega)
        congr 3
        · omega
    · rw [d_false (by omega), List.drop_of_length_le (by omega)]
      rfl
theorem num_Parse_eq (s : ByteArray) (hs : s.size < 4294967281) : num_Parse.f s = some ((parseL s.data.toList).1, (parseL s.data.toList).2, ()) := by
  have core : ∀ (a : ByteArray) (mi : Bool), a.size < 4294967281 → strings_CutPrefix.f s ⟨#[45]⟩ = some (a, mi, ()) →
      num_Parse.f s = some ((parse3 mi (Lib.cut a.data.toList [46]).1 (Lib.cut a.data.toList [46]).2.1 (Lib.cut a.data.toList [46]).2.2).1, (parse3 mi (Lib.cut a.data.toList [46]).1 (Lib.cut a.data.toList [46]).2.1 (Lib.cut a.data.toList [46]).2.2).2, ()) := by
    intro a mi ha hp
    have hla := size_toList a
    have hcl := cut_len a.data.toList [46]
    have hnd := cut_nodot a.data.toList [46]
    unfold num_Parse.f
    rw [hp]
    simp only [Option.bind_some]
    unfold ext_Cut
    rw [if_pos ha]
    simp only [Option.bind_some]
    generalize Lib.cut a.data.toList [46] = c at hcl hnd ⊢
    obtain ⟨w, f, dot⟩ := c
    simp only at hcl hnd ⊢
    rw [num_digits_eq _ (by show w.length ≤ _; omega), num_digits_eq _ (by show f.length ≤ _; omega)]
    simp only [Option.bind_some]
    show cutBind (cond ((!digitsL w) == false) (cond (dot == true) (cond (!digitsL f) _ _) _) _) _ = _
    by_cases hgood : (digitsL w && (!dot || digitsL f)) = true
    · have hw : digitsL w = true := by simp only [Bool.and_eq_true] at hgood; exact hgood.1
      have hf : f.all isDig = true := by
        cases dot with
        | false => rw [hnd rfl]; rfl
        | true => simp only [Bool.and_eq_true, Bool.not_true, Bool.false_or] at hgood; have := hgood.2; simp only [digitsL, Bool.and_eq_true] at this; exact this.2
      have e : (cond ((!digitsL w) == false) (cond (dot == true) (cond (!digitsL f) (some (Cut.out ((0 : Int), (0 : Int), ()))) (some (Cut.go (mi, bmk w, bmk f, ())))) (some (Cut.go (mi, bmk w, bmk f, ())))) (some (Cut.out ((0 : Int), (0 : Int), ()))) : Option (Cut (Bool × ByteArray × ByteArray × Unit) (Int × Int × Unit))) = some (Cut.go (mi, bmk w, bmk f, ())) := by
        rw [hw]
        cases dot with
        | false => rfl
        | true => simp only [Bool.and_eq_true, Bool.not_true, Bool.false_or] at hgood; rw [hgood.2]; rfl
      have hbw : (bmk w).size = w.length := rfl
      have hbf : (bmk f).size = f.length := rfl
      have hw40 : w.length ≤ 40 := by simp only [digitsL, Bool.and_eq_true, decide_eq_true_eq] at hw; omega
      rw [e, cutBind_go, parse_l0 _ _ (by simp only; omega) (by show f.length ≤ _; omega), cutBind_go]
      simp only
      have hp5 : 5 ≤ (pad5 f).length := by unfold pad5; rw [List.length_append, List.length_replicate]; omega
      have hpz : (padB (bmk f)).size = (pad5 f).length := rfl
      have hpl : (padB (bmk f)).data.toList = pad5 f := rfl
      have hpm : (pad5 f).length ≤ f.length + 5 := by unfold pad5; rw [List.length_append, List.length_replicate]; omega
      have hall : (w ++ (pad5 f).take 4).all isDig = true := by
        simp only [digitsL, Bool.and_eq_true] at hw
        rw [List.all_append, hw.2, Bool.true_and, List.all_eq_true]
        intro c hc
        have hc := List.mem_of_mem_take hc
        rcases List.mem_append.1 hc with hc | hc
        · exact List.all_eq_true.1 hf c hc
        · rw [List.mem_replicate] at hc; rw [hc.2]; decide
      have hex : bmk w ++ (padB (bmk f)).extract 0 4 = bmk (w ++ (pad5 f).take 4) := by
        unfold padB
        show bmk w ++ (bmk (pad5 f)).extract 0 4 = _
        rw [mk_take, mk_append]
      have hz4 : (bmk w).size + ((padB (bmk f)).extract 0 4).size ≤ w.length + 4 := by
        unfold padB
        show w.length + ((bmk (pad5 f)).extract 0 4).size ≤ _
        rw [mk_take]; show _ + ((pad5 f).take 4).length ≤ _
        rw [List.length_take]; omega
      rw [d_true (by rw [hpz]; omega), d_false (by rw [max64]; omega), hex]
      have hbl : bytesL (bmk (w ++ (pad5 f).take 4)) = (w ++ (pad5 f).take 4).map (fun c => (c.toNat : Int)) := rfl
      rw [hbl, List.length_map, parse_l1 _ hall (by rw [List.length_append, List.length_take]; omega) _ mi (padB (bmk f)) (by omega)]
      unfold parse3
      rw [if_pos hgood]
      have hfive : sidx (padB (bmk f)) 4 = some (((pad5 f).getD 4 0).toNat : Int) := by
        rw [sidx_some (by decide), hpl, List.getD_eq_getElem?_getD]
        have : (pad5 f)[(4 : Int).toNat]? = some (pad5 f)[4] := List.getElem?_eq_getElem (by omega)
        rw [this]
        have : (pad5 f)[4]? = some (pad5 f)[4] := List.getElem?_eq_getElem (by omega)
        rw [this]; rfl
      have hdm := digs_eq _ hall 0 (by omega)
      cases hq : digs 0 (w ++ (pad5 f).take 4) with
      | none => rw [cutBind_out]; rfl
      | some k =>
        have hk : k ≤ 9223372036854775807 := by
          rw [hq] at hdm
          split at hdm
          · rename_i h; cases hdm; exact h
          · cases hdm
        simp only [cutBind_go]
        rw [hfive]
        simp only [Option.bind_some, val]
        generalize ((pad5 f).getD 4 0).toNat = five
        by_cases h5 : (five : Int) ≥ 53
        · simp only [if_pos h5]
          rw [d_true h5, wu64 (by omega) (by omega)]
          by_cases hb : k + 1 > 9223372036854775807
          · rw [d_true (by omega), if_pos hb]
          · rw [d_false (by omega), if_neg hb, w64 (x := (k : Int) + 1) (by omega) (by omega)]
            cases mi
            · rfl
            · rw [w64 (by omega) (by omega), Int.zero_sub]; rfl
        · simp only [if_neg h5]
          rw [d_false h5]
          by_cases hb : k > 9223372036854775807
          · omega
          · rw [d_false (by omega), if_neg hb, w64 (x := (k : Int)) (by omega) (by omega)]
            cases mi
            · rfl
            · rw [w64 (by omega) (by omega), Int.zero_sub]; rfl
    · have e : (cond ((!digitsL w) == false) (cond (dot == true) (cond (!digitsL f) (some (Cut.out ((0 : Int), (0 : Int), ()))) (some (Cut.go (mi, bmk w, bmk f, ())))) (some (Cut.go (mi, bmk w, bmk f, ())))) (some (Cut.out ((0 : Int), (0 : Int), ()))) : Option (Cut (Bool × ByteArray × ByteArray × Unit) (Int × Int × Unit))) = some (Cut.out (0, 0, ())) := by
        cases hw : digitsL w with
        | false => rfl
        | true =>
          cases dot with
          | false => rw [hw] at hgood; simp at hgood
          | true => rw [hw] at hgood; simp at hgood; rw [hgood]; rfl
      rw [e, cutBind_out]
      unfold parse3
      rw [if_neg hgood]
  unfold parseL
  have h1 := strings_CutPrefix_eq s
  by_cases hc : s.data.toList.head? = some 45
  · rw [if_pos hc] at h1 ⊢
    have hz : (s.extract 1 s.size).data.toList = s.data.toList.drop 1 := by
      rw [ByteArray.data_extract]; simp [size_toList, List.take_of_length_le]
    have := core _ _ (by rw [ByteArray.size_extract]; omega) h1
    rw [hz] at this
    exact this
  · rw [if_neg hc] at h1 ⊢
    exact core _ _ hs h1
end Go.Proofs.YtaldfmbnfnagjaaDoor.E
