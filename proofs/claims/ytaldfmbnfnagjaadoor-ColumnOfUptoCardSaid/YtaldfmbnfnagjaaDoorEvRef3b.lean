/- The reference's numeral: its loop and all of it. -/
import Derived.Test.YtaldfmbnfnagjaaDoorEvRef3
namespace Go.Proofs.YtaldfmbnfnagjaaDoor.E
open Go.RowKit
set_option linter.unusedVariables false
set_option linter.unusedSimpArgs false
def restL (whole frac : List UInt8) (at_ dot i : Nat) : List UInt8 := if i ≤ dot then whole.drop (i - at_) ++ (pad5 frac).take 4 else ((pad5 frac).take 4).drop (i - dot - 1)
theorem ref_l0 (l : List UInt8) (hl : l.length ≤ 1048576) (at_ dot last : Nat) (hd1 : at_ ≤ dot) (hd2 : dot ≤ l.length) (hla : last ≤ l.length) (hla2 : dot ≤ last)
    (frac whole : List UInt8) (hfr : frac = (l.drop (dot + 1)).take (last - (dot + 1))) (hfa : frac.all isDig = true) (hwh : whole = (l.drop at_).take (dot - at_)) (hwa : whole.all isDig = true) (N : Nat) (hN : dot + 5 < N) :
    ∃ (n' : Nat) (g' : Bool), loopN cadastreref03_Parse.l0 N (bmk l, (at_ : Int), (dot : Int), (last : Int), ((0 : Int), (0 : Int), ()), false, (at_ : Int), ()) = some (.go (bmk l, (at_ : Int), (dot : Int), (last : Int), (hi n', lo n', ()), g', ())) ∧ Words (fold10 0 (whole ++ (pad5 frac).take 4)) g' n' := by
  have hfl : frac.length = last - (dot + 1) := by rw [hfr, List.length_take, List.length_drop]; omega
  have hwl : whole.length = dot - at_ := by rw [hwh, List.length_take, List.length_drop]; omega
  have hplen : 5 ≤ (pad5 frac).length := by unfold pad5; rw [List.length_append, List.length_replicate]; omega
  have hgetf : ∀ j, dot + 1 + j < last → (pad5 frac).getD j 0 = l.getD (dot + 1 + j) 0 ∧ isDig (l.getD (dot + 1 + j) 0) = true := by
    intro j hj
    have hjl : j < frac.length := by omega
    have e1 : (pad5 frac).getD j 0 = frac.getD j 0 := by
      unfold pad5
      rw [List.getD_eq_getElem?_getD, List.getD_eq_getElem?_getD, List.getElem?_append_left hjl]
    have e2 : frac.getD j 0 = l.getD (dot + 1 + j) 0 := by
      rw [List.getD_eq_getElem?_getD, List.getD_eq_getElem?_getD, hfr, List.getElem?_take, if_pos (by omega), List.getElem?_drop]
    refine ⟨by rw [e1, e2], ?_⟩
    rw [← e2, List.getD_eq_getElem?_getD, List.getElem?_eq_getElem hjl]
    exact List.all_eq_true.1 hfa _ (List.getElem_mem hjl)
  have hpad : ∀ j, j < 5 → last ≤ dot + 1 + j → (pad5 frac).getD j 0 = 48 := by
    intro j hj hjl
    unfold pad5
    rw [List.getD_eq_getElem?_getD, List.getElem?_append_right (by omega), List.getElem?_replicate, if_pos (by omega)]; rfl
  have hgetw : ∀ i, at_ ≤ i → i < dot → whole.getD (i - at_) 0 = l.getD i 0 ∧ isDig (l.getD i 0) = true := by
    intro i h1 h2
    have hil : i - at_ < whole.length := by omega
    have hg : whole.getD (i - at_) 0 = l.getD i 0 := by
      rw [List.getD_eq_getElem?_getD, List.getD_eq_getElem?_getD, hwh, List.getElem?_take, if_pos (by omega), List.getElem?_drop, show at_ + (i - at_) = i by omega]
    refine ⟨hg, ?_⟩
    rw [← hg, List.getD_eq_getElem?_getD, List.getElem?_eq_getElem hil]
    exact List.all_eq_true.1 hwa _ (List.getElem_mem hil)
  have rest_w : ∀ i, at_ ≤ i → i < dot → restL whole frac at_ dot i = whole.getD (i - at_) 0 :: restL whole frac at_ dot (i + 1) := by
    intro i h1 h2
    unfold restL
    rw [if_pos (by omega), if_pos (by omega), getD_drop (show i - at_ < whole.length by omega), show i - at_ + 1 = i + 1 - at_ by omega]; rfl
  have rest_f : ∀ i, dot < i → i < dot + 5 → restL whole frac at_ dot i = (pad5 frac).getD (i - dot - 1) 0 :: restL whole frac at_ dot (i + 1) := by
    intro i h1 h2
    unfold restL
    have hlen : i - dot - 1 < ((pad5 frac).take 4).length := by rw [List.length_take]; omega
    rw [if_neg (by omega), if_neg (by omega), getD_drop hlen, show i - dot - 1 + 1 = i + 1 - dot - 1 by omega]
    congr 1
    rw [List.getD_eq_getElem?_getD, List.getD_eq_getElem?_getD, List.getElem?_take, if_pos (by omega)]
  have rest_d : restL whole frac at_ dot dot = restL whole frac at_ dot (dot + 1) := by
    unfold restL
    rw [if_pos (Nat.le_refl _), if_neg (by omega), show dot + 1 - dot - 1 = 0 by omega, List.drop_zero, List.drop_of_length_le (by omega), List.nil_append]
  have key := loop_ind (s := cadastreref03_Parse.l0) (fun x r => ∀ (i m n : Nat) (g : Bool), x = (bmk l, (at_ : Int), (dot : Int), (last : Int), (hi n, lo n, ()), g, (i : Int), ()) → at_ ≤ i → i ≤ dot + 5 → Words m g n →
    ∃ (n' : Nat) (g' : Bool), r = some (.go (bmk l, (at_ : Int), (dot : Int), (last : Int), (hi n', lo n', ()), g', ())) ∧ Words (fold10 m (restL whole frac at_ dot i)) g' n') (fun x => dot + 5 - x.2.2.2.2.2.2.1.toNat) ?_
  · have := key N (bmk l, (at_ : Int), (dot : Int), (last : Int), ((0 : Int), (0 : Int), ()), false, (at_ : Int), ()) (by simp only; omega) at_ 0 0 false rfl (Nat.le_refl _) (by omega) ⟨by decide, fun _ => ⟨rfl, by decide⟩, fun h => by cases h⟩
    have e : restL whole frac at_ dot at_ = whole ++ (pad5 frac).take 4 := by unfold restL; rw [if_pos hd1, Nat.sub_self, List.drop_zero]
    rw [e] at this
    exact this
  · rintro x rec ih i m n g rfl hi1 hi2 hw
    unfold cadastreref03_Parse.l0
    simp only
    rw [w64 (x := (dot : Int) + 5) (by omega) (by omega)]
    by_cases h5 : i < dot + 5
    · rw [d_true (show (i : Int) < (dot : Int) + 5 by omega), w64 (x := (i : Int) + 1) (by omega) (by omega)]
      by_cases hd : i = dot
      · subst hd
        rw [c_true (by simp)]
        rw [rest_d]
        exact ih _ (by simp only; omega) (i + 1) m n g (by congr 7) (by omega) (by omega) hw
      · rw [c_false (by simp; omega)]
        by_cases hlast : i < last
        · have hdig : isDig (l.getD i 0) = true ∧ restL whole frac at_ dot i = l.getD i 0 :: restL whole frac at_ dot (i + 1) := by
            by_cases hlt : i < dot
            · obtain ⟨a, b⟩ := hgetw i hi1 hlt
              exact ⟨b, by rw [rest_w i hi1 hlt, a]⟩
            · obtain ⟨a, b⟩ := hgetf (i - dot - 1) (by omega)
              rw [show dot + 1 + (i - dot - 1) = i by omega] at a b
              exact ⟨b, by rw [rest_f i (by omega) h5, a]⟩
          obtain ⟨hdig, hrest⟩ := hdig
          have hc : 48 ≤ (l.getD i 0).toNat ∧ (l.getD i 0).toNat ≤ 57 := by simpa [isDig] using hdig
          obtain ⟨n', ht, hp, hw'⟩ := words_step hw ((l.getD i 0).toNat - 48) (by omega)
          rw [d_true (show (i : Int) < (last : Int) by omega), sidx_mk l i (by omega)]
          simp only [Option.bind_some]
          rw [ht]
          simp only [Option.bind_some]
          rw [wu8 (by omega) (by omega), wu64 (by omega) (by omega), show ((l.getD i 0).toNat : Int) - 48 = (((l.getD i 0).toNat - 48 : Nat) : Int) by omega, hp]
          simp only [Option.bind_some]
          rw [hrest, fold10_cons]
          cases g with
          | false => rw [c_true (by rfl)]; exact ih _ (by simp only; omega) (i + 1) _ n' _ (by congr 7) (by omega) (by omega) (by simpa using hw')
          | true => rw [c_false (by rfl)]; exact ih _ (by simp only; omega) (i + 1) _ n' _ (by congr 7) (by omega) (by omega) (by simpa using hw')
        · obtain ⟨n', ht, hp, hw'⟩ := words_step hw 0 (by omega)
          have hp0 : cadastreref01_PlusW.f (hi (10 * n % 340282366920938463463374607431768211456), lo (10 * n % 340282366920938463463374607431768211456), ()) ((0 : Int), (0 : Int), ()) = some ((hi n', lo n', ()), ()) := hp
          rw [d_false (show ¬ (i : Int) < (last : Int) by omega), ht]
          simp only [Option.bind_some]
          rw [hp0]
          simp only [Option.bind_some]
          rw [rest_f i (by omega) h5, hpad (i - dot - 1) (by omega) (by omega), fold10_cons]
          cases g with
          | false => rw [c_true (by rfl)]; exact ih _ (by simp only; omega) (i + 1) _ n' _ (by congr 7) (by omega) (by omega) (by simpa using hw')
          | true => rw [c_false (by rfl)]; exact ih _ (by simp only; omega) (i + 1) _ n' _ (by congr 7) (by omega) (by omega) (by simpa using hw')
    · rw [d_false (show ¬ (i : Int) < (dot : Int) + 5 by omega)]
      refine ⟨n, g, rfl, ?_⟩
      have : restL whole frac at_ dot i = [] := by
        unfold restL
        rw [if_neg (by omega), List.drop_of_length_le (by rw [List.length_take]; omega)]
      rw [this, fold10_nil]; exact hw
end Go.Proofs.YtaldfmbnfnagjaaDoor.E
