/- What num.Parse comes to, as a function of lists of bytes (parseL), and that the Go code does that: a walk by hand, over the contracts of what it calls. -/
import Derived.Test.YtaldfmbnfnagjaaDoorXx
import Derived.WalkKit
import Derived.Outline
import Derived.Deep.QuietTactic
import Derived.BigQuiet
namespace Go.Proofs.YtaldfmbnfnagjaaDoor.X
open Go.RowKit Go.Proofs.YtaldfmbnfnagjaaDoorW.PrintWords Go.Proofs.YtaldfmbnfnagjaaDoorW.PrintLast Go.Proofs.YtaldfmbnfnagjaaDoorW.PrintMore
set_option linter.unusedVariables false
set_option linter.unusedSimpArgs false
def padB (s : ByteArray) (k : Nat) : ByteArray := s ++ ⟨Array.replicate k 48⟩
theorem padB_zero (s : ByteArray) : padB s 0 = s := by unfold padB; apply ByteArray.ext; rw [ByteArray.data_append]; exact Array.append_empty
theorem padB_succ (s : ByteArray) (k : Nat) : padB s k ++ (⟨#[48]⟩ : ByteArray) = padB s (k + 1) := by
  unfold padB; apply ByteArray.ext; rw [ByteArray.data_append, ByteArray.data_append, ByteArray.data_append, Array.append_assoc]; congr 1; rw [Array.replicate_succ]; rfl
theorem padB_size (s : ByteArray) (k : Nat) : (padB s k).size = s.size + k := by
  unfold padB; rw [ByteArray.size_append]; show s.size + (Array.replicate k (48 : UInt8)).size = _; rw [Array.size_replicate]
theorem padB_list (s : ByteArray) (k : Nat) : (padB s k).data.toList = s.data.toList ++ List.replicate k 48 := by
  unfold padB; rw [ByteArray.data_append, Array.toList_append]; simp

/-- The number that digits say, digit by digit, while it is at most Most. -/
def digs : Nat → List UInt8 → Option Nat
  | n, [] => some n
  | n, c :: l => if n > (9223372036854775807 - (c.toNat - 48)) / 10 then none else digs (10 * n + (c.toNat - 48)) l
def val (minus : Bool) (five : Int) : Option Nat → Int × Int
  | none => (0, 2)
  | some n => if (if five ≥ 53 then n + 1 else n) > 9223372036854775807 then (0, 2) else (if minus then -((if five ≥ 53 then n + 1 else n : Nat) : Int) else ((if five ≥ 53 then n + 1 else n : Nat) : Int), 1)
def isDig (c : UInt8) : Bool := decide (48 ≤ c.toNat) && decide (c.toNat ≤ 57)
def digitsL (l : List UInt8) : Bool := !l.isEmpty && decide (l.length ≤ 40) && l.all isDig
def pad5 (l : List UInt8) : List UInt8 := l ++ List.replicate (5 - l.length) 48
/-- A numeral's number, and what it is: none 0, one 1, too great 2. -/
def parse3 (minus : Bool) (whole frac : List UInt8) (dot : Bool) : Int × Int :=
  if (digitsL whole && (!dot || digitsL frac)) = true then val minus ((pad5 frac).getD 4 0).toNat (digs 0 (whole ++ (pad5 frac).take 4)) else (0, 0)
def parseL (l : List UInt8) : Int × Int :=
  if l.head? = some 45 then parse3 true (Lib.cut (l.drop 1) [46]).1 (Lib.cut (l.drop 1) [46]).2.1 (Lib.cut (l.drop 1) [46]).2.2
  else parse3 false (Lib.cut l [46]).1 (Lib.cut l [46]).2.1 (Lib.cut l [46]).2.2

theorem size_toList (s : ByteArray) : s.data.toList.length = s.size := by rw [Array.length_toList]; rfl
theorem toList_eq (s : ByteArray) : s.toList = s.data.toList := Lib.toList_data s
theorem isDig_iff (c : UInt8) : isDig c = true ↔ c ∈ ([48, 49, 50, 51, 52, 53, 54, 55, 56, 57] : List UInt8) := by
  have h := c.toNat_lt
  simp only [isDig, Bool.and_eq_true, decide_eq_true_eq]
  constructor
  · rintro ⟨h1, h2⟩
    have : c = UInt8.ofNat c.toNat := by simp
    rw [this]
    generalize c.toNat = n at h1 h2
    have : n = 48 ∨ n = 49 ∨ n = 50 ∨ n = 51 ∨ n = 52 ∨ n = 53 ∨ n = 54 ∨ n = 55 ∨ n = 56 ∨ n = 57 := by omega
    rcases this with rfl | rfl | rfl | rfl | rfl | rfl | rfl | rfl | rfl | rfl <;> decide
  · intro h
    simp only [List.mem_cons, List.mem_nil_iff, or_false] at h
    rcases h with rfl | rfl | rfl | rfl | rfl | rfl | rfl | rfl | rfl | rfl <;> decide
theorem dropWhile_nil {α : Type} (p : α → Bool) (l : List α) : l.dropWhile p = [] ↔ l.all p = true := by
  induction l with
  | nil => simp
  | cons a l ih => by_cases h : p a = true <;> simp [List.dropWhile_cons, h, ih]
theorem trimS_nil (l cs : List UInt8) : Lib.trimS l cs = [] ↔ l.all (cs.contains ·) = true := by
  unfold Lib.trimS Lib.trimLeftS Lib.trimRightS
  rw [dropWhile_nil]
  constructor
  · intro h
    have h2 : (l.reverse.dropWhile (cs.contains ·)).all (cs.contains ·) = true := by rw [← List.all_reverse]; exact h
    cases hd : l.reverse.dropWhile (cs.contains ·) with
    | nil => rw [dropWhile_nil, List.all_reverse] at hd; exact hd
    | cons a r =>
      rw [hd] at h2
      have h3 : (cs.contains a) = true := by simp only [List.all_cons, Bool.and_eq_true] at h2; exact h2.1
      have h4 := List.head?_dropWhile_not (fun c => cs.contains c) l.reverse
      rw [hd] at h4
      simp only [List.head?_cons] at h4
      rw [h3] at h4
      cases h4
  · intro h
    have : l.reverse.dropWhile (cs.contains ·) = [] := by rw [dropWhile_nil, List.all_reverse]; exact h
    rw [this]; rfl

theorem num_digits_eq (s : ByteArray) (hs : s.size ≤ 9223372036854775807) : num_digits.f s = some (digitsL s.data.toList) := by
  have hl := size_toList s
  unfold num_digits.f digitsL
  rw [toList_eq]
  by_cases h1 : s.data.toList = ([] : List UInt8)
  · rw [if_pos h1, h1]; rfl
  · rw [if_neg h1]
    by_cases h2 : (s.size : Int) ≤ 40
    · rw [if_pos h2]
      unfold strings_Trim.f
      rw [if_pos hs, if_pos (by decide), if_pos (by decide)]
      simp only [Option.bind_some, toList_eq]
      have e : s.data.toList.isEmpty = false := by simpa using h1
      rw [e, hl, decide_eq_true (by omega : s.size ≤ 40)]
      simp only [Bool.not_false, Bool.true_and]
      congr 1
      rw [Bool.eq_iff_iff, beq_iff_eq]
      rw [trimS_nil]
      have : (fun c => (⟨#[48, 49, 50, 51, 52, 53, 54, 55, 56, 57]⟩ : ByteArray).data.toList.contains c) = isDig := by
        funext c
        rw [Bool.eq_iff_iff, isDig_iff]
        exact List.contains_iff_mem
      rw [this]
    · rw [if_neg h2, hl, decide_eq_false (by omega : ¬ s.size ≤ 40)]
      simp

theorem strings_CutPrefix_eq (a0 : ByteArray) : strings_CutPrefix.f a0 ⟨#[45]⟩ = some (if a0.data.toList.head? = some 45 then (a0.extract 1 a0.size, true) else (a0, false)) := by
  have hl := size_toList a0
  unfold strings_CutPrefix.f stringslite_CutPrefix.f stringslite_HasPrefix.f
  have h1 : ((⟨#[45]⟩ : ByteArray).size : Int) = 1 := rfl
  have h2 : (⟨#[45]⟩ : ByteArray).toList = [45] := by rw [toList_eq]
  rw [h1]
  by_cases hz : (a0.size : Int) ≥ 1
  · rw [if_pos hz, if_pos (by omega), if_pos (by omega)]
    simp only [Option.bind_some]
    rw [h2, toList_eq]
    have e : (a0.extract 0 (1 : Int).toNat).data.toList = a0.data.toList.take 1 := by rw [ByteArray.data_extract]; simp
    rw [e]
    cases hd : a0.data.toList with
    | nil => rw [hd] at hl; simp at hl; omega
    | cons c r =>
      by_cases hc : c = 45
      · subst hc
        have : ((List.take 1 ((45 : UInt8) :: r)) == ([45] : List UInt8)) = true := by simp
        rw [this, if_pos rfl, if_pos (by omega), if_pos (by omega)]; simp
      · have : ((List.take 1 (c :: r)) == ([45] : List UInt8)) = false := by simp [hc]
        rw [this]; simp [hc]
  · rw [if_neg hz]
    have : a0.data.toList = [] := List.eq_nil_of_length_eq_zero (by omega)
    rw [this]; simp

theorem getD_drop {l : List UInt8} {j : Nat} (h : j < l.length) : l.drop j = l.getD j 0 :: l.drop (j + 1) := by
  rw [List.drop_eq_getElem_cons h]; congr 1; simp [List.getD, h]

theorem digits_bytes {whole frac : ByteArray} {k : Nat} (h1 : digitsL whole.data.toList = true) (h2 : frac.data.toList.all isDig = true) :
    ∀ j, j < (whole ++ (padB frac k).extract 0 4).size → 48 ≤ ((whole ++ (padB frac k).extract 0 4).data.toList.getD j 0).toNat ∧ ((whole ++ (padB frac k).extract 0 4).data.toList.getD j 0).toNat ≤ 57 := by
  have hall : (whole ++ (padB frac k).extract 0 4).data.toList.all isDig = true := by
    rw [ByteArray.data_append, Array.toList_append, List.all_append]
    have e : ((padB frac k).extract 0 4).data.toList = (padB frac k).data.toList.take 4 := by simp [ByteArray.data_extract]
    rw [e, padB_list]
    simp only [digitsL, Bool.and_eq_true] at h1
    rw [h1.2, Bool.true_and, List.all_eq_true]
    intro c hc
    have hc := List.mem_of_mem_take hc
    rcases List.mem_append.1 hc with hc | hc
    · exact List.all_eq_true.1 h2 c hc
    · rw [List.mem_replicate] at hc; rw [hc.2]; decide
  intro j hj
  rw [← size_toList] at hj
  have := List.all_eq_true.1 hall ((whole ++ (padB frac k).extract 0 4).data.toList.getD j 0) (by
    rw [List.getD_eq_getElem?_getD, List.getElem?_eq_getElem hj]; exact List.getElem_mem hj)
  simpa [isDig, Bool.and_eq_true] using this

theorem below_bytes (w : World) (e : TypeId) (s : ByteArray) : Below w.heap.size w (Lib.bytesWorld w e s) :=
  ⟨rfl, rfl, rfl, by rw [Lib.bytesWorld_size]; omega, fun k hk => Lib.bytesWorld_at_old w e s k hk⟩

set_option maxHeartbeats 1000000 in
theorem parse_good (a0 s whole frac : ByteArray) (minus dot : Bool) (w : World) (hGm : GoodM w) (P : Ending → World → Prop)
   (h1 : strings_CutPrefix.f a0 ⟨#[45]⟩ = some (s, minus)) (h2 : strings_Cut.f s ⟨#[46]⟩ = some (whole, frac, dot))
   (h3 : num_digits.f whole = some true) (h4 : dot = false ∨ dot = true ∧ num_digits.f frac = some true)
   (hP : ∀ k, k ≤ 5 - frac.size → 5 ≤ frac.size + k → ∀ W, Below w.heap.size w W → P (.returned (.tuple #[.int .i64 (val minus (bt (padB frac k) 4) (digs 0 (whole ++ (padB frac k).extract 0 4).data.toList)).1, .int .i64 (val minus (bt (padB frac k) 4) (digs 0 (whole ++ (padB frac k).extract 0 4).data.toList)).2])) W)
   (hs : whole.size ≤ 40) (hf : frac.size ≤ 40) (hd1 : digitsL whole.data.toList = true) (hd2 : frac.data.toList.all isDig = true) :
    Calls Tryd.prog 54 #[.string a0] w P := by
  have H1 := Aside0.mk h1; have H2 := Aside0.mk h2; have H3 := Aside0.mk h3; clear h1 h2 h3
  have HD1 := Aside0.mk hd1; have HD2 := Aside0.mk hd2; clear hd1 hd2
  have kc := fun (w : World) (s : ByteArray) => Lib.run_convert_string_bytes (P := Tryd.prog) w 9 81 5 s Tryd.underlying9 Tryd.underlying81 Tryd.underlying5
  go_enter Tryd.func54, Tryd.ntmps54
  go_wp2_with fail
  refine (strings_CutPrefix.calls _ _ _ _ _ H1.out).mono ?_
  rintro e w1 ⟨rfl, hq1⟩
  have hG1 := hGm.drawn hq1
  go_wp2_with fail
  refine (strings_Cut.calls _ _ _ _ _ _ hG1 H2.out).mono ?_
  rintro e w2 ⟨rfl, hq2⟩
  have hb2 := (hq1.below).trans (hq2.below.mono hq1.below.size)
  clear hGm hG1
  go_wp2_with fail
  refine (num_digits.calls _ _ _ H3.out).mono ?_
  rintro e w3 ⟨rfl, hq3⟩
  have hb3 := hb2.trans (hq3.mono hb2.size)
  clear hq1 hq2 hq3 hb2 H1 H2 H3
  rcases h4 with h4 | h4
  all_goals first
    | (subst h4
       have HB3 := Aside0.mk hb3; clear hb3
       go_wp2_with fail
       obtain ⟨wq, rfl⟩ : ∃ wq, wq = w3 := ⟨_, rfl⟩)
    | (obtain ⟨h4, h5⟩ := h4
       subst h4
       have H5 := Aside0.mk h5; clear h5
       go_wp2_with fail
       refine (num_digits.calls _ _ _ H5.out).mono ?_
       rintro e wq ⟨rfl, hq4⟩
       have hb3' := hb3.trans (hq4.mono hb3.size)
       have HB3 := Aside0.mk hb3'; clear hb3 hb3' hq4
       go_wp2_with fail)
  all_goals
    go_loop [6] (fun v => ∃ k : Nat, k ≤ 5 - frac.size ∧ v = .string (padB frac k)) (fun v => match v with | .string s => 5 - s.size | _ => 0)
    case atStart => exact ⟨0, by omega, by rw [padB_zero]⟩
    case round =>
      obtain ⟨k, hk, rfl⟩ := hrel
      have hz := padB_size frac k
      by_cases hlt : frac.size + k ≤ 4
      · have e1 : decide ((padB frac k).size ≤ 4) = true := by rw [hz]; simpa using hlt
        have e2 : decide (((padB frac k).size : Int) ≤ 4) = true := by rw [hz]; simp; omega
        have e4 : (9223372036854775807 < (padB frac k).size + 1) = False := by rw [hz]; exact eq_false (by omega)
        have HZ := Aside0.mk hz
        clear hz
        go_wp2
        go_round
        case rel => exact ⟨k + 1, by omega, by rw [padB_succ]⟩
        case measure => simp only [padB_succ, padB_size]; omega
      · have e1 : decide ((padB frac k).size ≤ 4) = false := by rw [hz]; simp; omega
        have e2 : decide (((padB frac k).size : Int) ≤ 4) = false := by rw [hz]; simp; omega
        have e3 : 4 ≤ (padB frac k).size := by omega
        have e3' : (4 : Int) ≤ ((padB frac k).size : Int) := by omega
        have hk5 : frac.size + k = 5 ∨ 5 ≤ frac.size ∧ k = 0 := by omega
        have e5 : (9223372036854775807 < whole.size + 4) = False := eq_false (by omega)
        have HZ := Aside0.mk hz
        clear hz
        go_wp2_with fail
        replace hP := hP k hk (by omega)
        have hbw : Below w.heap.size w (Lib.bytesWorld wq 5 (whole ++ (padB frac k).extract 0 4)) := HB3.out.trans ((below_bytes wq _ _).mono HB3.out.size)
        have hall := digits_bytes (k := k) HD1.out HD2.out
        obtain ⟨bs, hbs⟩ : ∃ bs, bs = whole ++ (padB frac k).extract 0 4 := ⟨_, rfl⟩
        have hbz : bs.size = whole.size + 4 := by rw [hbs]; simp [ByteArray.size_append]; omega
        rw [← hbs] at hP hbw hall ⊢
        rw [show ((whole.size : Int) + 4) = (bs.size : Int) by omega]
        rw [show whole.size + 4 = bs.size by omega]
        have hcell : ∀ j, j < bs.size → (Lib.bytesWorld wq 5 bs).cell? ⟨wq.heap.size, j, none⟩ = some (.int .u8 (bs.data.toList.getD j 0).toNat) := fun j hj => Lib.bytesWorld_cell wq 5 bs j hj
        generalize Lib.bytesWorld wq 5 bs = W at hcell hbw ⊢
        have HBW := Aside0.mk hbw; clear hbw
        obtain ⟨R, hR⟩ : ∃ R, digs 0 bs.data.toList = R := ⟨_, rfl⟩
        rw [hR] at hP
        have hb44 : bs.size ≤ 44 := by omega
        have HBZ := Aside0.mk hbz; have HBS := Aside0.mk hbs; have HR := Aside0.mk hR; have HALL := Aside0.mk hall; have HCELL := Aside0.mk hcell
        have HP := Aside0.mk hP
        clear hbz hbs hR hall hcell e5 e3 e3' e2 e1 hP
        go_loop [8, 45] (fun n i => ∃ j m : Nat, j ≤ bs.size ∧ m ≤ 9223372036854775807 ∧ i = .int .i64 j ∧ n = .int .u64 m ∧ Aside0 (digs m (bs.data.toList.drop j) = R)) (fun n i => bs.size - (intOf i).toNat)
        case atStart => exact ⟨0, 0, by omega, by omega, rfl, rfl, by simpa using HR⟩
        case round =>
          obtain ⟨j, m, hj, hm, rfl, rfl, hrec⟩ := hrel
          by_cases hlt : j < bs.size
          · have hc := HCELL.out j hlt
            have hal := HALL.out j hlt
            have hdrop := getD_drop (l := bs.data.toList) (j := j) (by rw [size_toList]; exact hlt)
            have hr2 := hrec.out
            rw [hdrop, digs] at hr2
            obtain ⟨c, hcc⟩ : ∃ c : Nat, c = (bs.data.toList.getD j 0).toNat := ⟨_, rfl⟩
            rw [← hcc] at hc hal hr2
            have hal1 := hal.1; have hal2 := hal.2
            clear hcc hdrop hal hrec
            by_cases hgt : m > (9223372036854775807 - (c - 48)) / 10
            · have g : ((m : Int) > (9223372036854775807 - ((c : Int) - 48)) / 10) := by omega
              rw [if_pos hgt] at hr2
              have HR2 := Aside0.mk hr2
              clear hr2
              go_wp2
              have hP2 := HP.out
              rw [← HR2.out] at hP2
              exact hP2 W HBW.out
            · have g : ¬ ((m : Int) > (9223372036854775807 - ((c : Int) - 48)) / 10) := by omega
              rw [if_neg hgt] at hr2
              have HR2 := Aside0.mk hr2
              clear hr2
              have hj1 : (j : Int) + 1 ≤ 9223372036854775807 := by omega
              go_wp2
              go_round
              case rel => exact ⟨j + 1, 10 * m + (c - 48), by omega, by omega, by go_num, by congr 1; omega, HR2⟩
              case measure => simp [intOf]; omega
          · obtain rfl : j = bs.size := by omega
            have hr2 := hrec.out
            rw [List.drop_of_length_le (by simp)] at hr2
            have h4 : 4 < (padB frac k).size := by have := HZ.out; omega
            have hb5 : bt (padB frac k) 4 = (((padB frac k)[4]'h4).toNat : Int) := (bt_at _ 4 h4).symm
            have hp4 : (0 : Int) ≤ 4 := by omega
            have q4 : (4 : Int) < ((padB frac k).size : Int) := by omega
            have hP2 := HP.out
            rw [← hr2, hb5] at hP2
            have fin : ∀ p : Int × Int, val minus (((padB frac k)[4]'h4).toNat : Int) (some m) = p → P (.returned (.tuple #[.int .i64 p.1, .int .i64 p.2])) W := fun p hp => by
              rw [← hp]; exact hP2 W HBW.out
            have FIN := Aside0.mk fin
            clear hr2 hP2 hrec hb5 fin
            by_cases h5 : (53 : Int) ≤ (((padB frac k)[4]'h4).toNat : Int)
            · by_cases hmm : m = 9223372036854775807
              · have g : (9223372036854775807 < (m : Int) + 1) := by omega
                have HV := Aside0.mk (show val minus (((padB frac k)[4]'h4).toNat : Int) (some m) = (0, 2) by simp only [val]; rw [if_pos h5, if_pos (by omega)])
                clear hmm
                go_wp2
                exact FIN.out _ HV.out
              · have g : ¬ (9223372036854775807 < (m : Int) + 1) := by omega
                cases minus
                · have HV := Aside0.mk (show val false (((padB frac k)[4]'h4).toNat : Int) (some m) = ((m : Int) + 1, 1) by simp only [val]; rw [if_pos h5, if_neg (by omega)]; simp)
                  clear hmm
                  go_wp2
                  exact FIN.out _ HV.out
                · have HV := Aside0.mk (show val true (((padB frac k)[4]'h4).toNat : Int) (some m) = (-((m : Int) + 1), 1) by simp only [val]; rw [if_pos h5, if_neg (by omega)]; simp)
                  clear hmm
                  go_wp2
                  exact FIN.out _ HV.out
            · have h5' : (((padB frac k)[4]'h4).toNat : Int) < 53 := by omega
              have g : ¬ (9223372036854775807 < (m : Int)) := by omega
              cases minus
              · have HV := Aside0.mk (show val false (((padB frac k)[4]'h4).toNat : Int) (some m) = ((m : Int), 1) by simp only [val]; rw [if_neg h5, if_neg (by omega)]; simp)
                clear h5
                go_wp2
                exact FIN.out _ HV.out
              · have HV := Aside0.mk (show val true (((padB frac k)[4]'h4).toNat : Int) (some m) = (-(m : Int), 1) by simp only [val]; rw [if_neg h5, if_neg (by omega)]; simp)
                clear h5
                go_wp2
                exact FIN.out _ HV.out

set_option maxHeartbeats 1000000 in
theorem parse_bad (a0 s whole frac : ByteArray) (minus dot : Bool) (w : World) (hGm : GoodM w)
   (h1 : strings_CutPrefix.f a0 ⟨#[45]⟩ = some (s, minus)) (h2 : strings_Cut.f s ⟨#[46]⟩ = some (whole, frac, dot))
   (h3 : num_digits.f whole = some false ∨ num_digits.f whole = some true ∧ dot = true ∧ num_digits.f frac = some false) :
    Calls Tryd.prog 54 #[.string a0] w fun e w' => e = .returned (.tuple #[.int .i64 0, .int .i64 0]) ∧ Below w.heap.size w w' := by
  have H1 := Aside0.mk h1; have H2 := Aside0.mk h2; clear h1 h2
  go_enter Tryd.func54, Tryd.ntmps54
  go_wp2_with fail
  refine (strings_CutPrefix.calls _ _ _ _ _ H1.out).mono ?_
  rintro e w1 ⟨rfl, hq1⟩
  have hG1 := hGm.drawn hq1
  go_wp2_with fail
  refine (strings_Cut.calls _ _ _ _ _ _ hG1 H2.out).mono ?_
  rintro e w2 ⟨rfl, hq2⟩
  have hb2 := (hq1.below).trans (hq2.below.mono hq1.below.size)
  clear hGm hG1
  go_wp2_with fail
  rcases h3 with h3 | h3
  · have H3 := Aside0.mk h3; clear h3
    refine (num_digits.calls _ _ _ H3.out).mono ?_
    rintro e w3 ⟨rfl, hq3⟩
    have hb3 := hb2.trans (hq3.mono hb2.size)
    have HB3 := Aside0.mk hb3; clear hb3 hq1 hq2 hq3 hb2
    go_wp2
    go_ret2
    exact ⟨rfl, HB3.out⟩
  · obtain ⟨h3, h4, h5⟩ := h3
    subst h4
    have H3 := Aside0.mk h3; clear h3
    have H5 := Aside0.mk h5; clear h5
    refine (num_digits.calls _ _ _ H3.out).mono ?_
    rintro e w3 ⟨rfl, hq3⟩
    have hb3 := hb2.trans (hq3.mono hb2.size)
    go_wp2_with fail
    refine (num_digits.calls _ _ _ H5.out).mono ?_
    rintro e w4 ⟨rfl, hq4⟩
    have hb4 := hb3.trans (hq4.mono hb3.size)
    have HB4 := Aside0.mk hb4; clear hb3 hq1 hq2 hq3 hb2 hb4 hq4
    go_wp2
    go_ret2
    exact ⟨rfl, HB4.out⟩

theorem cut_len (s sep : List UInt8) : (Lib.cut s sep).1.length ≤ s.length ∧ (Lib.cut s sep).2.1.length ≤ s.length := by
  unfold Lib.cut
  split
  · exact ⟨by simp; omega, by simp⟩
  · exact ⟨Nat.le_refl _, Nat.zero_le _⟩
theorem cut_nodot (s sep : List UInt8) (h : (Lib.cut s sep).2.2 = false) : (Lib.cut s sep).2.1 = [] := by
  unfold Lib.cut at *
  split at h
  · cases h
  · rename_i h1; rw [if_neg h1]

theorem mk_list (l : List UInt8) : (⟨l.toArray⟩ : ByteArray).data.toList = l := rfl
theorem mk_size (l : List UInt8) : (⟨l.toArray⟩ : ByteArray).size = l.length := rfl

theorem bt_pad {frac : ByteArray} {k : Nat} (h1 : k ≤ 5 - frac.size) (h2 : 5 ≤ frac.size + k) : bt (padB frac k) 4 = ((pad5 frac.data.toList).getD 4 0).toNat := by
  have hl := size_toList frac
  have hk : k = 5 - frac.data.toList.length := by omega
  have h4 : 4 < (padB frac k).size := by rw [padB_size]; omega
  rw [← bt_at _ 4 h4]
  have e : (padB frac k)[(4 : Int).toNat]'h4 = ((padB frac k).data.toList.getD 4 0) := by
    rw [List.getD_eq_getElem?_getD, List.getElem?_eq_getElem (by rw [size_toList]; exact h4)]
    rfl
  rw [e, padB_list, hk]; rfl
theorem take_pad {frac : ByteArray} {k : Nat} (h1 : k ≤ 5 - frac.size) (h2 : 5 ≤ frac.size + k) (whole : ByteArray) : (whole ++ (padB frac k).extract 0 4).data.toList = whole.data.toList ++ (pad5 frac.data.toList).take 4 := by
  have hl := size_toList frac
  have hk : k = 5 - frac.data.toList.length := by omega
  rw [ByteArray.data_append, Array.toList_append]
  have e : ((padB frac k).extract 0 4).data.toList = (padB frac k).data.toList.take 4 := by simp [ByteArray.data_extract]
  rw [e, padB_list, hk]; rfl

def num_Parse.f (a0 : ByteArray) : Option (Int × Int) := if a0.size < 4294967281 then some (parseL a0.data.toList) else none

theorem parse_calls3 (a0 s : ByteArray) (minus : Bool) (w : World) (hGm : GoodM w) (h1 : strings_CutPrefix.f a0 ⟨#[45]⟩ = some (s, minus)) (hs : s.size < 4294967281) :
    Calls Tryd.prog 54 #[.string a0] w fun e w' => e = .returned (.tuple #[.int .i64 (parse3 minus (Lib.cut s.data.toList [46]).1 (Lib.cut s.data.toList [46]).2.1 (Lib.cut s.data.toList [46]).2.2).1, .int .i64 (parse3 minus (Lib.cut s.data.toList [46]).1 (Lib.cut s.data.toList [46]).2.1 (Lib.cut s.data.toList [46]).2.2).2]) ∧ Below w.heap.size w w' := by
  have hl := size_toList s
  have hcl := cut_len s.data.toList [46]
  have hnd := cut_nodot s.data.toList [46]
  have h2 : strings_Cut.f s ⟨#[46]⟩ = some (⟨(Lib.cut s.data.toList [46]).1.toArray⟩, ⟨(Lib.cut s.data.toList [46]).2.1.toArray⟩, (Lib.cut s.data.toList [46]).2.2) := by
    unfold strings_Cut.f; rw [if_pos hs]
  generalize Lib.cut s.data.toList [46] = c at *
  obtain ⟨wl, fl, dot⟩ := c
  simp only at hcl hnd h2 ⊢
  have hw := num_digits_eq ⟨wl.toArray⟩ (by rw [mk_size]; omega)
  have hf := num_digits_eq ⟨fl.toArray⟩ (by rw [mk_size]; omega)
  rw [mk_list] at hw hf
  unfold parse3
  cases hdw : digitsL wl with
  | false =>
    rw [hdw] at hw
    rw [if_neg (by simp)]
    exact parse_bad a0 s _ _ _ _ w hGm h1 h2 (.inl hw)
  | true =>
    rw [hdw] at hw
    have hw40 : wl.length ≤ 40 := by simp [digitsL] at hdw; omega
    have good : ∀ (hor : dot = false ∨ dot = true ∧ num_digits.f ⟨fl.toArray⟩ = some true) (h40 : fl.length ≤ 40) (hal : fl.all isDig = true),
        Calls Tryd.prog 54 #[.string a0] w fun e w' => e = .returned (.tuple #[.int .i64 (val minus ((pad5 fl).getD 4 0).toNat (digs 0 (wl ++ (pad5 fl).take 4))).1, .int .i64 (val minus ((pad5 fl).getD 4 0).toNat (digs 0 (wl ++ (pad5 fl).take 4))).2]) ∧ Below w.heap.size w w' := by
      intro hor h40 hal
      refine parse_good a0 s _ _ _ _ w hGm _ h1 h2 hw hor ?_ (by rw [mk_size]; exact hw40) (by rw [mk_size]; exact h40) (by rw [mk_list]; exact hdw) (by rw [mk_list]; exact hal)
      intro k hk1 hk2 W hW
      rw [bt_pad hk1 hk2, take_pad hk1 hk2, mk_list, mk_list]
      exact ⟨rfl, hW⟩
    cases dot with
    | false =>
      rw [if_pos (by simp)]
      have := hnd rfl
      subst this
      exact good (.inl rfl) (Nat.zero_le _) rfl
    | true =>
      cases hdf : digitsL fl with
      | false =>
        rw [hdf] at hf
        rw [if_neg (by simp)]
        exact parse_bad a0 s _ _ _ _ w hGm h1 h2 (.inr ⟨hw, rfl, hf⟩)
      | true =>
        rw [hdf] at hf
        rw [if_pos (by simp)]
        have h40 : fl.length ≤ 40 ∧ fl.all isDig = true := by simp only [digitsL, Bool.and_eq_true, decide_eq_true_eq] at hdf; exact ⟨hdf.1.2, hdf.2⟩
        exact good (.inr ⟨rfl, hf⟩) h40.1 h40.2

theorem num_Parse.calls (a0 : ByteArray) (r1 r2 : Int) (w : World) (hGm : GoodM w) (h : num_Parse.f a0 = some (r1, r2)) :
    Calls Tryd.prog 54 #[.string a0] w fun e w' => e = .returned (.tuple #[.int .i64 r1, .int .i64 r2]) ∧ Below w.heap.size w w' := by
  unfold num_Parse.f at h
  split at h
  · rename_i hs
    have hr := Option.some.inj h
    have h1 := strings_CutPrefix_eq a0
    unfold parseL at hr
    by_cases hc : a0.data.toList.head? = some 45
    · rw [if_pos hc] at h1 hr
      have hz : (a0.extract 1 a0.size).data.toList = a0.data.toList.drop 1 := by
        rw [ByteArray.data_extract]; simp [size_toList, List.take_of_length_le]
      have := parse_calls3 a0 _ _ w hGm h1 (by rw [ByteArray.size_extract]; omega)
      rw [hz, hr] at this
      exact this
    · rw [if_neg hc] at h1 hr
      have := parse_calls3 a0 _ _ w hGm h1 hs
      rw [hr] at this
      exact this
  · cases h
end Go.Proofs.YtaldfmbnfnagjaaDoor.X
