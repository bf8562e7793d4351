/- The reference's numeral: all of it (parseL). -/
import Derived.Test.YtaldfmbnfnagjaaDoorEvRef3b
namespace Go.Proofs.YtaldfmbnfnagjaaDoor.E
open Go.RowKit
set_option linter.unusedVariables false
set_option linter.unusedSimpArgs false
theorem ref_fin (at_ : Nat) (great : Bool) (m n : Nat) (five : Bool) (h : Words m great n) :
    ∃ (n2 : Nat), (if five = true then cadastreref01_PlusW.f (hi n, lo n, ()) ((0 : Int), (1 : Int), ()) else some ((hi n, lo n, ()), ())) = some ((hi n2, lo n2, ()), ()) ∧
      ((cadastreref01_Signed.f ((at_ : Int) == (1 : Int)) (hi n2, lo n2, ())).bind fun y37 => cond (great == false) (cond (!y37.2.1) (some ((0 : Int), (2 : Int), ())) (some (y37.1, (1 : Int), ()))) (some ((0 : Int), (2 : Int), ()))) =
        some ((told (at_ == 1) (m + if five then 1 else 0)).1, (told (at_ == 1) (m + if five then 1 else 0)).2, ()) := by
  obtain ⟨h1, h2, h3⟩ := h
  have hb : ((at_ : Int) == 1) = (at_ == 1) := by rw [Bool.eq_iff_iff]; simp; omega
  rw [hb]
  have key : ∀ n2 m2 : Nat, n2 < 340282366920938463463374607431768211456 → (great = false → n2 = m2) → (great = true → 9223372036854775807 < m2) →
      ((cadastreref01_Signed.f (at_ == 1) (hi n2, lo n2, ())).bind fun y37 => cond (great == false) (cond (!y37.2.1) (some ((0 : Int), (2 : Int), ())) (some (y37.1, (1 : Int), ()))) (some ((0 : Int), (2 : Int), ()))) = some ((told (at_ == 1) m2).1, (told (at_ == 1) m2).2, ()) := by
    intro n2 m2 hn hg1 hg2
    rw [signed_eq _ hn]
    simp only [Option.bind_some]
    unfold told
    cases great with
    | true => rw [c_false (by rfl), if_neg (by have := hg2 rfl; omega)]
    | false =>
      rw [c_true (by rfl), hg1 rfl]
      by_cases hm : m2 ≤ 9223372036854775807
      · rw [if_pos hm, if_pos hm]; rfl
      · rw [if_neg hm, if_neg hm]; rfl
  cases five with
  | true =>
    have e := plus_eq h1 (b := 1) (by decide)
    refine ⟨(n + 1) % 340282366920938463463374607431768211456, by rw [if_pos rfl]; exact e, ?_⟩
    exact key _ _ (Nat.mod_lt _ (by decide)) (fun hg => by obtain ⟨rfl, hm⟩ := h2 hg; simp only [if_true]; omega) (fun hg => by have := h3 hg; simp only [if_true]; omega)
  | false =>
    refine ⟨n, by rw [if_neg (by decide)], ?_⟩
    exact key _ _ h1 (fun hg => (h2 hg).1) (fun hg => by have := h3 hg; simp only [Bool.false_eq_true, if_false]; omega)

theorem refparse_eq (l : List UInt8) (hl : l.length ≤ 1048576) : cadastreref03_Parse.f (bmk l) = some ((parseL l).1, (parseL l).2, ()) := by
  have hz : (bmk l).size = l.length := rfl
  have first : ∃ at_ : Nat, at_ ≤ l.length ∧ at_ ≤ 1 ∧ parseL l = refP (at_ == 1) (l.drop at_) ∧
      (cond ((decide (((bmk l).size : Int) > (0 : Int))) == true) ((sidx (bmk l) (0 : Int)).bind fun c2 => cond (c2 == (45 : Int)) (some (Cut.go ((bmk l), (1 : Int), ()))) (some (Cut.go ((bmk l), (0 : Int), ())))) (some (Cut.go ((bmk l), (0 : Int), ()))) : Option (Cut (ByteArray × Int × Unit) (Int × Int × Unit))) = some (Cut.go ((bmk l), (at_ : Int), ())) := by
    unfold parseL
    cases hh : l with
    | nil => exact ⟨0, Nat.zero_le _, by decide, by rw [if_neg (by simp), refP_eq] <;> rfl, rfl⟩
    | cons c r =>
      have h0 : sidx (bmk (c :: r)) 0 = some ((c.toNat : Nat) : Int) := sidx_mk (c :: r) 0 (by simp)
      have hs : ((bmk (c :: r)).size : Int) > 0 := by show (((c :: r).length : Nat) : Int) > 0; rw [List.length_cons]; omega
      rw [decide_eq_true hs, c_true (by rfl), h0]
      simp only [Option.bind_some]
      by_cases hc : c = 45
      · subst hc
        exact ⟨1, by simp, by decide, by rw [if_pos (show (45 :: r).head? = some 45 from rfl), refP_eq] <;> rfl, rfl⟩
      · refine ⟨0, Nat.zero_le _, by decide, by rw [if_neg (by simp [hc]), refP_eq] <;> rfl, ?_⟩
        rw [c_false]
        · rfl
        rw [beq_eq_false_iff_ne]
        intro h
        exact hc (u8_eq (c := c) (n := 45) (by decide) h)
  obtain ⟨at_, ha, ha1, hp, hf⟩ := first
  rw [hp]
  unfold cadastreref03_Parse.f
  rw [hf, cutBind_go]
  simp only
  have htl := tw_len (l.drop at_)
  rw [List.length_drop] at htl
  rw [end_eq l hl at_ ha]
  simp only [Option.bind_some]
  unfold refP
  generalize hw : (l.drop at_).takeWhile isDig = w at htl
  have hwt : w = (l.drop at_).take w.length := by rw [← hw, take_tw]
  have hwa : w.all isDig = true := by rw [← hw]; exact tw_all _
  have hdr : (l.drop at_).dropWhile isDig = l.drop (at_ + w.length) := by rw [← drop_tw, hw, List.drop_drop]
  rw [hdr]
  by_cases h0 : w = []
  · rw [if_pos (.inl h0), h0, c_false (by simp), cutBind_out]
  · have hw1 : 1 ≤ w.length := by
      cases hh : w with
      | nil => exact absurd hh h0
      | cons _ _ => simp
    rw [c_true (by rw [beq_iff_eq, beq_eq_false_iff_ne]; omega), w64 (x := ((at_ + w.length : Nat) : Int) - (at_ : Int)) (by omega) (by omega)]
    by_cases h40 : 40 < w.length
    · rw [d_true (by omega), if_pos (.inr h40), cutBind_out]
    · rw [d_false (by omega), if_neg (show ¬ (w = [] ∨ 40 < w.length) from fun h => h.elim h0 h40), cutBind_go]
      simp only
      rw [hz]
      have fin : ∀ (last : Nat) (frac : List UInt8), at_ + w.length ≤ last → last ≤ l.length → frac = (l.drop (at_ + w.length + 1)).take (last - (at_ + w.length + 1)) → frac.all isDig = true → ∀ N, at_ + w.length + 5 < N →
          (cutBind (loopN cadastreref03_Parse.l0 N (bmk l, (at_ : Int), ((at_ + w.length : Nat) : Int), (last : Int), ((0 : Int), (0 : Int), ()), false, (at_ : Int), ())) fun x31 =>
            cutBind (T := Int × (Int × Int × Unit) × Bool × Unit) (
            cond ((decide ((IntKind.i64.wrap (x31.2.2.1 + (5 : Int))) < x31.2.2.2.1)) == true)
            ((sidx x31.1 (IntKind.i64.wrap (x31.2.2.1 + (5 : Int)))).bind fun c34 =>
            cond (decide (c34 ≥ (53 : Int)))
            ((cadastreref01_PlusW.f x31.2.2.2.2.1 ((0 : Int), (1 : Int), ())).bind fun y35 =>
            some (.go (x31.2.1, (y35.1.1, y35.1.2.1, ()), x31.2.2.2.2.2.1, ())))
            (some (.go (x31.2.1, (x31.2.2.2.2.1.1, x31.2.2.2.2.1.2.1, ()), x31.2.2.2.2.2.1, ()))))
            (some (.go (x31.2.1, (x31.2.2.2.2.1.1, x31.2.2.2.2.1.2.1, ()), x31.2.2.2.2.2.1, ()))))
            fun x36 =>
            (cadastreref01_Signed.f (x36.1 == (1 : Int)) x36.2.1).bind fun y37 =>
            cond (x36.2.2.1 == false)
            (cond (!y37.2.1)
            (some ((0 : Int), (2 : Int), ()))
            (some (y37.1, (1 : Int), ())))
            (some ((0 : Int), (2 : Int), ()))) = some ((told (at_ == 1) (numeral w frac)).1, (told (at_ == 1) (numeral w frac)).2, ()) := by
        intro last frac hl1 hl2 hfr hfa N hN
        obtain ⟨n', g', hloop, hw'⟩ := ref_l0 l hl at_ (at_ + w.length) last (by omega) (by omega) hl2 hl1 frac w hfr hfa (by rw [show at_ + w.length - at_ = w.length by omega]; exact hwt) hwa N hN
        rw [hloop, cutBind_go]
        simp only
        obtain ⟨n2, hn2, hs⟩ := ref_fin at_ g' _ n' (decide (((pad5 frac).getD 4 0).toNat ≥ 53)) hw'
        have hnum : numeral w frac = fold10 0 (w ++ (pad5 frac).take 4) + (if decide (((pad5 frac).getD 4 0).toNat ≥ 53) = true then 1 else 0) := by unfold numeral; simp only [decide_eq_true_eq]
        rw [hnum, ← hs]
        rw [w64 (x := ((at_ + w.length : Nat) : Int) + 5) (by omega) (by omega)]
        have hfl : frac.length = last - (at_ + w.length + 1) := by rw [hfr, List.length_take, List.length_drop]; omega
        by_cases hlast : at_ + w.length + 5 < last
        · rw [decide_eq_true (show ((at_ + w.length : Nat) : Int) + 5 < (last : Int) by omega), c_true (by rfl), show ((at_ + w.length : Nat) : Int) + 5 = ((at_ + w.length + 5 : Nat) : Int) by omega, sidx_mk l _ (by omega)]
          simp only [Option.bind_some]
          have hg : (pad5 frac).getD 4 0 = l.getD (at_ + w.length + 5) 0 := by
            unfold pad5
            rw [List.getD_eq_getElem?_getD, List.getD_eq_getElem?_getD, List.getElem?_append_left (by omega), hfr, List.getElem?_take, if_pos (by omega), List.getElem?_drop]
          rw [hg] at hn2
          by_cases h5 : (l.getD (at_ + w.length + 5) 0).toNat ≥ 53
          · rw [if_pos (by simpa using h5)] at hn2
            rw [d_true (by omega), hn2]; rfl
          · rw [if_neg (by simpa using h5)] at hn2
            rw [d_false (by omega), cutBind_go]
            simp only [Option.some.injEq, Prod.mk.injEq, and_true] at hn2
            rw [hn2.1, hn2.2]
        · have hg : (pad5 frac).getD 4 0 = 48 := by
            unfold pad5
            rw [List.getD_eq_getElem?_getD, List.getElem?_append_right (by omega), List.getElem?_replicate, if_pos (by omega)]; rfl
          rw [hg, if_neg (by decide)] at hn2
          rw [decide_eq_false (show ¬ ((at_ + w.length : Nat) : Int) + 5 < (last : Int) by omega), c_false (by rfl), cutBind_go]
          simp only [Option.some.injEq, Prod.mk.injEq, and_true] at hn2
          rw [hn2.1, hn2.2]
      by_cases hend : at_ + w.length < l.length
      · rw [d_true (by omega), w64 (x := ((at_ + w.length : Nat) : Int) + 1) (by omega) (by omega)]
        rw [show ((at_ + w.length : Nat) : Int) + 1 = ((at_ + w.length + 1 : Nat) : Int) by omega, end_eq l hl (at_ + w.length + 1) (by omega), sidx_mk l (at_ + w.length) hend]
        simp only [Option.bind_some]
        rw [getD_drop hend]
        dsimp only
        have htl2 := tw_len (l.drop (at_ + w.length + 1))
        rw [List.length_drop] at htl2
        have htt := take_tw (l.drop (at_ + w.length + 1))
        have hta := tw_all (l.drop (at_ + w.length + 1))
        have hft : (l.drop (at_ + w.length + 1)).takeWhile isDig = l.drop (at_ + w.length + 1) ↔ ((l.drop (at_ + w.length + 1)).takeWhile isDig).length = l.length - (at_ + w.length + 1) := by
          constructor
          · intro h; rw [h, List.length_drop]
          · intro h; rw [← htt, h, ← List.length_drop, List.take_length]
        generalize hfw : (l.drop (at_ + w.length + 1)).takeWhile isDig = f at htl2 htt hta hft
        have hbt : ((l.getD (at_ + w.length) 0).toNat : Int) = 46 ↔ l.getD (at_ + w.length) 0 = 46 := by
          constructor
          · intro h; exact u8_eq (n := 46) (by decide) h
          · intro h; rw [h]; rfl
        by_cases hdot : l.getD (at_ + w.length) 0 = 46
        · rw [c_true (by rw [hbt.2 hdot]; rfl)]
          by_cases hf0 : f = []
          · rw [c_false (by rw [hf0]; simp), cutBind_out, if_pos]
            right
            by_cases hde : l.drop (at_ + w.length + 1) = []
            · exact .inl hde
            · refine .inr (.inr ?_)
              intro h; rw [hf0] at h; exact hde h.symm
          · have hf1 : 1 ≤ f.length := by
              cases hh : f with
              | nil => exact absurd hh hf0
              | cons _ _ => simp
            rw [c_true (by rw [beq_iff_eq, beq_eq_false_iff_ne]; omega), w64 (x := (((at_ + w.length + 1 + f.length : Nat) : Int) - ((at_ + w.length : Nat) : Int))) (by omega) (by omega), w64 (by omega) (by omega)]
            by_cases hf40 : 40 < f.length
            · rw [decide_eq_true (by omega), c_false (by rfl), cutBind_out, if_pos (.inr (.inr (.inl hf40)))]
            · rw [decide_eq_false (by omega), c_true (by rfl)]
              by_cases hfl : at_ + w.length + 1 + f.length < l.length
              · rw [d_true (by omega), cutBind_out, if_pos]
                refine .inr (.inr (.inr ?_))
                intro h
                have := hft.1 h
                omega
              · rw [d_false (by omega), cutBind_go, if_neg]
                · have hfe : f = l.drop (at_ + w.length + 1) := hft.2 (by omega)
                  simp only
                  rw [hz, fin (at_ + w.length + 1 + f.length) f (by omega) (by omega) (by rw [show at_ + w.length + 1 + f.length - (at_ + w.length + 1) = f.length by omega]; exact htt.symm) hta _ (by omega), ← hfe]
                · have hfe : f = l.drop (at_ + w.length + 1) := hft.2 (by omega)
                  rintro (h | h | h | h)
                  · exact h hdot
                  · rw [← hfe] at h; exact hf0 h
                  · exact hf40 h
                  · exact h hfe
        · rw [c_false (by rw [beq_eq_false_iff_ne]; intro h; rw [bne_eq_false_iff_eq] at h; exact hdot (hbt.1 h)), cutBind_out, if_pos (.inl hdot)]
      · rw [d_false (by omega), cutBind_go, List.drop_of_length_le (by omega)]
        simp only
        rw [hz]
        exact fin (at_ + w.length) [] (Nat.le_refl _) (by omega) (by simp) rfl _ (by omega)
end Go.Proofs.YtaldfmbnfnagjaaDoor.E
