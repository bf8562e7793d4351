-- Written by xprint.py, a program of this claim's own, over the kit's print: not trusted: Lean checks it.
import Derived.Test.YtmoohjomkdcdhaaDoorYx0
import Derived.Test.YtmoohjomkdcdhaaDoorYx1
namespace Go.Proofs.YtmoohjomkdcdhaaDoor.Y
open Go.RowKit Go.Proofs.YtmoohjomkdcdhaaDoor.X Go.Proofs.YtmoohjomkdcdhaaDoorW.PrintWords Go.Proofs.YtmoohjomkdcdhaaDoorW.PrintLast Go.Proofs.YtmoohjomkdcdhaaDoorW.PrintMore
attribute [local go_sem] max2_int min2_int max_two min_two max_three min_three max_four min_four   -- for this text's walks alone
set_option linter.unusedVariables false
set_option linter.unusedSimpArgs false

/-! ### cadastreref03_Parse: function 10 -/
mutual
def cadastreref03_Parse.j0 : Nat → ByteArray → Int → Bool → Option (Int × Int)
  | 0, _, _, _ => none
  | k + 1, x0, x4, x20 => if x20 = true then (cadastreref03_Parse.j1 k x0 1) else (cadastreref03_Parse.j1 k x0 x4)
def cadastreref03_Parse.j1 : Nat → ByteArray → Int → Option (Int × Int)
  | 0, _, _ => none
  | k + 1, x0, x4 => (cadastreref03_end.f k x0 x4).bind fun t119 => (if t119 = x4 then (cadastreref03_Parse.j2 k x0 x4 t119 true) else (cadastreref03_Parse.j2 k x0 x4 t119 (decide ((wrap64 (t119 - x4)) > 40))))
def cadastreref03_Parse.j2 : Nat → ByteArray → Int → Int → Bool → Option (Int × Int)
  | 0, _, _, _, _ => none
  | k + 1, x0, x4, x5, x32 => if x32 = true then (some (0, 0)) else (if x5 < (x0.size : Int) then ((cadastreref03_end.f k x0 (wrap64 (x5 + 1))).bind fun t120 => (if 0 ≤ x5 then (if (bt x0 x5) = 46 then (if t120 = (wrap64 (x5 + 1)) then (some (0, 0)) else (if (wrap64 ((wrap64 (t120 - x5)) - 1)) > 40 then (some (0, 0)) else (if t120 < (x0.size : Int) then (some (0, 0)) else (cadastreref03_Parse.j3 k x0 x4 x5 t120)))) else (some (0, 0))) else (none))) else (cadastreref03_Parse.j3 k x0 x4 x5 x5))
def cadastreref03_Parse.j3 : Nat → ByteArray → Int → Int → Int → Option (Int × Int)
  | 0, _, _, _, _ => none
  | k + 1, x0, x4, x5, x6 => cadastreref03_Parse.l0 k x0 x4 x5 x6 false x4 0 0
def cadastreref03_Parse.l0 : Nat → ByteArray → Int → Int → Int → Bool → Int → Int → Int → Option (Int × Int)
  | 0, _, _, _, _, _, _, _, _ => none
  | k + 1, x0, x4, x5, x6, x8, x9, x122000, x122001 => if x9 < (wrap64 (x5 + 5)) then (if x9 = x5 then (cadastreref03_Parse.l0 k x0 x4 x5 x6 x8 (wrap64 (x9 + 1)) x122000 x122001) else (if x9 < x6 then (if 0 ≤ x9 then (if x9 < (x0.size : Int) then ((cadastreref03_times.f x122000 x122001).bind fun bt122 => ((cadastreref01_PlusW.f bt122.1 bt122.2 0 (((bt x0 x9) - 48) % 256)).bind fun bt124 => (if x8 = true then (cadastreref03_Parse.l0 k x0 x4 x5 x6 true (wrap64 (x9 + 1)) bt124.1 bt124.2) else (cadastreref03_Parse.l0 k x0 x4 x5 x6 (decide (bt124.1 ≥ 1125899906842624)) (wrap64 (x9 + 1)) bt124.1 bt124.2)))) else (none)) else (none)) else ((cadastreref03_times.f x122000 x122001).bind fun bt126 => ((cadastreref01_PlusW.f bt126.1 bt126.2 0 0).bind fun bt128 => (if x8 = true then (cadastreref03_Parse.l0 k x0 x4 x5 x6 true (wrap64 (x9 + 1)) bt128.1 bt128.2) else (cadastreref03_Parse.l0 k x0 x4 x5 x6 (decide (bt128.1 ≥ 1125899906842624)) (wrap64 (x9 + 1)) bt128.1 bt128.2)))))) else (if (wrap64 (x5 + 5)) < x6 then (if 0 ≤ (wrap64 (x5 + 5)) then (if (wrap64 (x5 + 5)) < (x0.size : Int) then (cadastreref03_Parse.j5 k x4 x8 (decide ((bt x0 (wrap64 (x5 + 5))) ≥ 53)) x122000 x122001) else (none)) else (none)) else (cadastreref03_Parse.j5 k x4 x8 false x122000 x122001))
def cadastreref03_Parse.j5 : Nat → Int → Bool → Bool → Int → Int → Option (Int × Int)
  | 0, _, _, _, _, _ => none
  | k + 1, x4, x8, x105, x122000, x122001 => if x105 = true then ((cadastreref01_PlusW.f x122000 x122001 0 1).bind fun bt130 => ((cadastreref01_Signed.f k (x4 == 1) bt130.1 bt130.2).bind fun bt132 => (if x8 = true then (some (0, 2)) else (if bt132.2 = true then (some (bt132.1, 1)) else (some (0, 2)))))) else ((cadastreref01_Signed.f k (x4 == 1) x122000 x122001).bind fun bt134 => (if x8 = true then (some (0, 2)) else (if bt134.2 = true then (some (bt134.1, 1)) else (some (0, 2)))))
end
def cadastreref03_Parse.f (k : Nat) (a0 : ByteArray) : Option (Int × Int) := if (a0.size : Int) > 0 then (if 0 < (a0.size : Int) then (cadastreref03_Parse.j0 k a0 0 ((bt a0 0) == 45)) else (none)) else (cadastreref03_Parse.j0 k a0 0 false)
theorem cadastreref03_Parse.mono_l : ∀ k, (∀ y0 y1 y2, LeO (cadastreref03_Parse.j0 k y0 y1 y2) (cadastreref03_Parse.j0 (k + 1) y0 y1 y2)) ∧ (∀ y0 y1, LeO (cadastreref03_Parse.j1 k y0 y1) (cadastreref03_Parse.j1 (k + 1) y0 y1)) ∧ (∀ y0 y1 y2 y3, LeO (cadastreref03_Parse.j2 k y0 y1 y2 y3) (cadastreref03_Parse.j2 (k + 1) y0 y1 y2 y3)) ∧ (∀ y0 y1 y2 y3, LeO (cadastreref03_Parse.j3 k y0 y1 y2 y3) (cadastreref03_Parse.j3 (k + 1) y0 y1 y2 y3)) ∧ (∀ y0 y1 y2 y3 y4 y5 y6 y7, LeO (cadastreref03_Parse.l0 k y0 y1 y2 y3 y4 y5 y6 y7) (cadastreref03_Parse.l0 (k + 1) y0 y1 y2 y3 y4 y5 y6 y7)) ∧ (∀ y0 y1 y2 y3 y4, LeO (cadastreref03_Parse.j5 k y0 y1 y2 y3 y4) (cadastreref03_Parse.j5 (k + 1) y0 y1 y2 y3 y4))
  | 0 => ⟨fun _ _ _ r h => by simp [cadastreref03_Parse.j0] at h, fun _ _ r h => by simp [cadastreref03_Parse.j1] at h, fun _ _ _ _ r h => by simp [cadastreref03_Parse.j2] at h, fun _ _ _ _ r h => by simp [cadastreref03_Parse.j3] at h, fun _ _ _ _ _ _ _ _ r h => by simp [cadastreref03_Parse.l0] at h, fun _ _ _ _ _ r h => by simp [cadastreref03_Parse.j5] at h⟩
  | k + 1 => by
    obtain ⟨ih0, ih1, ih2, ih3, ih4, ih5⟩ := cadastreref03_Parse.mono_l k
    refine ⟨?_, ?_, ?_, ?_, ?_, ?_⟩
    · intro y0 y1 y2
      unfold cadastreref03_Parse.j0
      repeat' first
      | (with_reducible exact ih0 _ _ _)
      | (with_reducible exact ih1 _ _)
      | (with_reducible exact ih2 _ _ _ _)
      | (with_reducible exact ih3 _ _ _ _)
      | (with_reducible exact ih4 _ _ _ _ _ _ _ _)
      | (with_reducible exact ih5 _ _ _ _ _)
      | (with_reducible exact cadastreref01_Signed.mono _ _ _ _)
      | (with_reducible exact cadastreref03_end.mono _ _ _)
      | (with_reducible exact LeO.refl _)
      | (with_reducible exact LeO.none _)
      | (with_reducible refine LeO.ite ?_ ?_)
      | (with_reducible refine LeO.bind ?_ (fun _ => ?_))
      | exact ih0 _ _ _
      | exact ih1 _ _
      | exact ih2 _ _ _ _
      | exact ih3 _ _ _ _
      | exact ih4 _ _ _ _ _ _ _ _
      | exact ih5 _ _ _ _ _
      | exact cadastreref01_Signed.mono _ _ _ _
      | exact cadastreref03_end.mono _ _ _
      | exact LeO.none _
      | refine LeO.ite ?_ ?_
      | refine LeO.bind ?_ (fun _ => ?_)
    · intro y0 y1
      unfold cadastreref03_Parse.j1
      repeat' first
      | (with_reducible exact ih0 _ _ _)
      | (with_reducible exact ih1 _ _)
      | (with_reducible exact ih2 _ _ _ _)
      | (with_reducible exact ih3 _ _ _ _)
      | (with_reducible exact ih4 _ _ _ _ _ _ _ _)
      | (with_reducible exact ih5 _ _ _ _ _)
      | (with_reducible exact cadastreref01_Signed.mono _ _ _ _)
      | (with_reducible exact cadastreref03_end.mono _ _ _)
      | (with_reducible exact LeO.refl _)
      | (with_reducible exact LeO.none _)
      | (with_reducible refine LeO.ite ?_ ?_)
      | (with_reducible refine LeO.bind ?_ (fun _ => ?_))
      | exact ih0 _ _ _
      | exact ih1 _ _
      | exact ih2 _ _ _ _
      | exact ih3 _ _ _ _
      | exact ih4 _ _ _ _ _ _ _ _
      | exact ih5 _ _ _ _ _
      | exact cadastreref01_Signed.mono _ _ _ _
      | exact cadastreref03_end.mono _ _ _
      | exact LeO.none _
      | refine LeO.ite ?_ ?_
      | refine LeO.bind ?_ (fun _ => ?_)
    · intro y0 y1 y2 y3
      unfold cadastreref03_Parse.j2
      repeat' first
      | (with_reducible exact ih0 _ _ _)
      | (with_reducible exact ih1 _ _)
      | (with_reducible exact ih2 _ _ _ _)
      | (with_reducible exact ih3 _ _ _ _)
      | (with_reducible exact ih4 _ _ _ _ _ _ _ _)
      | (with_reducible exact ih5 _ _ _ _ _)
      | (with_reducible exact cadastreref01_Signed.mono _ _ _ _)
      | (with_reducible exact cadastreref03_end.mono _ _ _)
      | (with_reducible exact LeO.refl _)
      | (with_reducible exact LeO.none _)
      | (with_reducible refine LeO.ite ?_ ?_)
      | (with_reducible refine LeO.bind ?_ (fun _ => ?_))
      | exact ih0 _ _ _
      | exact ih1 _ _
      | exact ih2 _ _ _ _
      | exact ih3 _ _ _ _
      | exact ih4 _ _ _ _ _ _ _ _
      | exact ih5 _ _ _ _ _
      | exact cadastreref01_Signed.mono _ _ _ _
      | exact cadastreref03_end.mono _ _ _
      | exact LeO.none _
      | refine LeO.ite ?_ ?_
      | refine LeO.bind ?_ (fun _ => ?_)
    · intro y0 y1 y2 y3
      unfold cadastreref03_Parse.j3
      repeat' first
      | (with_reducible exact ih0 _ _ _)
      | (with_reducible exact ih1 _ _)
      | (with_reducible exact ih2 _ _ _ _)
      | (with_reducible exact ih3 _ _ _ _)
      | (with_reducible exact ih4 _ _ _ _ _ _ _ _)
      | (with_reducible exact ih5 _ _ _ _ _)
      | (with_reducible exact cadastreref01_Signed.mono _ _ _ _)
      | (with_reducible exact cadastreref03_end.mono _ _ _)
      | (with_reducible exact LeO.refl _)
      | (with_reducible exact LeO.none _)
      | (with_reducible refine LeO.ite ?_ ?_)
      | (with_reducible refine LeO.bind ?_ (fun _ => ?_))
      | exact ih0 _ _ _
      | exact ih1 _ _
      | exact ih2 _ _ _ _
      | exact ih3 _ _ _ _
      | exact ih4 _ _ _ _ _ _ _ _
      | exact ih5 _ _ _ _ _
      | exact cadastreref01_Signed.mono _ _ _ _
      | exact cadastreref03_end.mono _ _ _
      | exact LeO.none _
      | refine LeO.ite ?_ ?_
      | refine LeO.bind ?_ (fun _ => ?_)
    · intro y0 y1 y2 y3 y4 y5 y6 y7
      unfold cadastreref03_Parse.l0
      repeat' first
      | (with_reducible exact ih0 _ _ _)
      | (with_reducible exact ih1 _ _)
      | (with_reducible exact ih2 _ _ _ _)
      | (with_reducible exact ih3 _ _ _ _)
      | (with_reducible exact ih4 _ _ _ _ _ _ _ _)
      | (with_reducible exact ih5 _ _ _ _ _)
      | (with_reducible exact cadastreref01_Signed.mono _ _ _ _)
      | (with_reducible exact cadastreref03_end.mono _ _ _)
      | (with_reducible exact LeO.refl _)
      | (with_reducible exact LeO.none _)
      | (with_reducible refine LeO.ite ?_ ?_)
      | (with_reducible refine LeO.bind ?_ (fun _ => ?_))
      | exact ih0 _ _ _
      | exact ih1 _ _
      | exact ih2 _ _ _ _
      | exact ih3 _ _ _ _
      | exact ih4 _ _ _ _ _ _ _ _
      | exact ih5 _ _ _ _ _
      | exact cadastreref01_Signed.mono _ _ _ _
      | exact cadastreref03_end.mono _ _ _
      | exact LeO.none _
      | refine LeO.ite ?_ ?_
      | refine LeO.bind ?_ (fun _ => ?_)
    · intro y0 y1 y2 y3 y4
      unfold cadastreref03_Parse.j5
      repeat' first
      | (with_reducible exact ih0 _ _ _)
      | (with_reducible exact ih1 _ _)
      | (with_reducible exact ih2 _ _ _ _)
      | (with_reducible exact ih3 _ _ _ _)
      | (with_reducible exact ih4 _ _ _ _ _ _ _ _)
      | (with_reducible exact ih5 _ _ _ _ _)
      | (with_reducible exact cadastreref01_Signed.mono _ _ _ _)
      | (with_reducible exact cadastreref03_end.mono _ _ _)
      | (with_reducible exact LeO.refl _)
      | (with_reducible exact LeO.none _)
      | (with_reducible refine LeO.ite ?_ ?_)
      | (with_reducible refine LeO.bind ?_ (fun _ => ?_))
      | exact ih0 _ _ _
      | exact ih1 _ _
      | exact ih2 _ _ _ _
      | exact ih3 _ _ _ _
      | exact ih4 _ _ _ _ _ _ _ _
      | exact ih5 _ _ _ _ _
      | exact cadastreref01_Signed.mono _ _ _ _
      | exact cadastreref03_end.mono _ _ _
      | exact LeO.none _
      | refine LeO.ite ?_ ?_
      | refine LeO.bind ?_ (fun _ => ?_)
theorem cadastreref03_Parse.mono : ∀ a0 k, LeO (cadastreref03_Parse.f k a0) (cadastreref03_Parse.f (k + 1) a0) := by
  intro a0 k
  obtain ⟨ih0, ih1, ih2, ih3, ih4, ih5⟩ := cadastreref03_Parse.mono_l k
  unfold cadastreref03_Parse.f
  repeat' first
      | (with_reducible exact ih0 _ _ _)
      | (with_reducible exact ih1 _ _)
      | (with_reducible exact ih2 _ _ _ _)
      | (with_reducible exact ih3 _ _ _ _)
      | (with_reducible exact ih4 _ _ _ _ _ _ _ _)
      | (with_reducible exact ih5 _ _ _ _ _)
      | (with_reducible exact cadastreref01_Signed.mono _ _ _ _)
      | (with_reducible exact cadastreref03_end.mono _ _ _)
      | (with_reducible exact LeO.refl _)
      | (with_reducible exact LeO.none _)
      | (with_reducible refine LeO.ite ?_ ?_)
      | (with_reducible refine LeO.bind ?_ (fun _ => ?_))
      | exact ih0 _ _ _
      | exact ih1 _ _
      | exact ih2 _ _ _ _
      | exact ih3 _ _ _ _
      | exact ih4 _ _ _ _ _ _ _ _
      | exact ih5 _ _ _ _ _
      | exact cadastreref01_Signed.mono _ _ _ _
      | exact cadastreref03_end.mono _ _ _
      | exact LeO.none _
      | refine LeO.ite ?_ ?_
      | refine LeO.bind ?_ (fun _ => ?_)
set_option maxHeartbeats 8000000 in
set_option maxRecDepth 100000 in
theorem cadastreref03_Parse.calls (k : Nat) (a0 : ByteArray) (r1 : Int) (r2 : Int) (w : World) (h : cadastreref03_Parse.f k a0 = some (r1, r2)) :
    Calls Tryd.prog 10 #[.string a0] w fun e w' => e = .returned (.tuple #[.int .i64 r1, .int .i64 r2]) ∧ Below w.heap.size w w' := by
  have hu41 := Tryd.underlying41
  have HB := Aside0.mk (Below.refl w.heap.size w)
  have H : (if (a0.size : Int) > 0 then (if 0 < (a0.size : Int) then (cadastreref03_Parse.j0 k a0 0 ((bt a0 0) == 45)) else (none)) else (cadastreref03_Parse.j0 k a0 0 false)) = some (r1, r2) := h
  clear h
  have HC2 := Aside0.mk H
  clear H
  go_enter Tryd.func10, Tryd.ntmps10
  go_upto_region 2 with (fail)
  go_cut [20] (fun v20 wc => ∃ (kq : Nat) (x20_1 : Bool), v20 = .bool x20_1 ∧ Aside0 (cadastreref03_Parse.j0 kq a0 0 x20_1 = some (r1, r2)) ∧ Aside0 (kq ≤ k) ∧ Aside0 (Below w.heap.size w wc))
  case first =>
    have H := HC2.out
    clear HC2
    by_cases c3 : (a0.size : Int) > 0
    · rw [if_pos c3] at H
      have c3b0 : decide (0 < (a0.size : Int)) = true := decide_eq_true c3
      have c3b1 : decide (0 < a0.size) = true := decide_eq_true (by omega)
      clear c3
      (first | rw [c3b0] | (simp only [i64_w, i32_w]; rw [c3b0]) | skip)
      by_cases c4 : 0 < (a0.size : Int)
      · rw [if_pos c4] at H
        have c4b0 : decide (0 < (a0.size : Int)) = true := decide_eq_true c4
        have c4b1 : decide (0 < a0.size) = true := decide_eq_true (by omega)
        clear c4
        have H' := Aside0.mk H
        clear H
        have p5 : 0 ≤ (0 : Int) := (by omega)
        have q5 : 0 < a0.size := (by have : (0 : Int) < (a0.size : Int) := of_decide_eq_true (by first | (with_reducible assumption) | assumption); omega)
        have hx5 : ∀ h : 0 < a0.size, ((a0[0]'h).toNat : Int) = bt a0 0 := bt_at a0 0
        clear p5
        have qi5 : (0 < (a0.size : Int)) = True := eq_true (of_decide_eq_true (by first | (with_reducible assumption) | assumption))
        replace q5 := eq_true q5
        go_wp2
        go_meet
        case rel => exact ⟨_, (((bt a0 0) == 45)), (by first | rfl | (simp; done) | (simp [*]; done)), H', ⟨by first | omega | exact Nat.le_refl _⟩, ⟨by repeat (first | (with_reducible first | exact HB.out | apply below_alloc | apply pw_below_drewN | apply below_drew1) | exact HB.out)⟩⟩
      · rw [if_neg c4] at H
        exact absurd H (by simp)
    · rw [if_neg c3] at H
      have c3b0 : decide (0 < (a0.size : Int)) = false := decide_eq_false c3
      have c3b1 : decide (0 < a0.size) = false := decide_eq_false (by omega)
      clear c3
      (first | rw [c3b0] | (simp only [i64_w, i32_w]; rw [c3b0]) | skip)
      have H' := Aside0.mk H
      clear H
      go_wp2
      go_meet
      case rel => exact ⟨_, (false), (by first | rfl | (simp; done) | (simp [*]; done)), H', ⟨by first | omega | exact Nat.le_refl _⟩, ⟨by repeat (first | (with_reducible first | exact HB.out | apply below_alloc | apply pw_below_drewN | apply below_drew1) | exact HB.out)⟩⟩
  case rest =>
    clear HC2
    try clear c1
    try clear p2
    try clear c3
    try clear c3b0
    try clear c3b1
    try clear c4
    try clear c4b0
    try clear c4b1
    try clear p5
    try clear q5
    try clear hx5
    try clear qi5
    try clear p5
    try clear q5
    obtain ⟨kq, x20_1, rfl, HA, HJ1, HB⟩ := hcut
    cases kq with
    | zero => exact absurd HA.out (by simp [cadastreref03_Parse.j0])
    | succ kj1 =>
      have H := HA.out
      clear HA
      simp only [cadastreref03_Parse.j0] at H
      have HC6 := Aside0.mk H
      clear H
      go_upto_if 20 with (fail)
      go_cut [4] (fun v4 wc => ∃ (kq : Nat) (x4_5 : Int), v4 = .int .i64 x4_5 ∧ Aside0 (cadastreref03_Parse.j1 kq a0 x4_5 = some (r1, r2)) ∧ Aside0 (kq ≤ kj1) ∧ Aside0 (Below w.heap.size w wc))
      case first =>
        have H := HC6.out
        clear HC6
        by_cases c7 : x20_1 = true
        · subst c7
          have H1 : (cadastreref03_Parse.j1 kj1 a0 1) = some (r1, r2) := by rw [if_pos rfl] at H; exact H
          clear H
          have H := H1
          clear H1
          have H' := Aside0.mk H
          clear H
          go_wp2
          go_meet
          case rel => exact ⟨_, (1), (by first | rfl | (simp; done) | (simp [*]; done)), H', ⟨by have := HJ1.out; first | omega | exact Nat.le_refl _⟩, ⟨by repeat (first | (with_reducible first | exact HB.out | apply below_alloc | apply pw_below_drewN | apply below_drew1) | exact HB.out)⟩⟩
        · replace c7 := Bool.eq_false_iff.mpr c7
          subst c7
          have H1 : (cadastreref03_Parse.j1 kj1 a0 0) = some (r1, r2) := by rw [if_neg (show ¬ (false = true) by decide)] at H; exact H
          clear H
          have H := H1
          clear H1
          have H' := Aside0.mk H
          clear H
          go_wp2
          go_meet
          case rel => exact ⟨_, (0), (by first | rfl | (simp; done) | (simp [*]; done)), H', ⟨by have := HJ1.out; first | omega | exact Nat.le_refl _⟩, ⟨by repeat (first | (with_reducible first | exact HB.out | apply below_alloc | apply pw_below_drewN | apply below_drew1) | exact HB.out)⟩⟩
      case rest =>
        clear HC6
        try clear c1
        try clear p2
        try clear c3
        try clear c3b0
        try clear c3b1
        try clear c4
        try clear c4b0
        try clear c4b1
        try clear p5
        try clear q5
        try clear hx5
        try clear qi5
        try clear c7
        try clear p2
        try clear p5
        try clear q5
        obtain ⟨kq, x4_5, rfl, HA, HJ5, HB⟩ := hcut
        cases kq with
        | zero => exact absurd HA.out (by simp [cadastreref03_Parse.j1])
        | succ kj5 =>
          have H := HA.out
          clear HA
          simp only [cadastreref03_Parse.j1] at H
          replace H := Option.bind_eq_some_iff.mp H
          obtain ⟨t119, A80, H⟩ := H
          replace H : (if t119 = x4_5 then (cadastreref03_Parse.j2 kj5 a0 x4_5 t119 true) else (cadastreref03_Parse.j2 kj5 a0 x4_5 t119 (decide ((wrap64 (t119 - x4_5)) > 40)))) = some (r1, r2) := H
          have A8 := Aside0.mk A80
          clear A80
          have HC9 := Aside0.mk H
          clear H
          go_upto_region 5 with (first | ((with_reducible refine gate_callee (f := 21) rfl ?_); refine goesL_ (some 23) rfl rfl Tryd.func21 (by kernel_rfl) rfl #[.string a0, .int .i64 x4_5] rfl (by (try simp only [List.map_toArray, List.map_cons, List.map_nil]); first | done | rfl | (simp only [List.length_drop, List.length_take]; rfl)) ?_; (with_reducible refine (cadastreref03_end.calls kj5 a0 x4_5 t119 _ A8.out).mono ?_); rintro e w' ⟨rfl, ⟨nd, rfl⟩⟩; refine ⟨_, rfl, ?_⟩))
          (try simp only [Act.put, List.setIfInBounds_toArray, List.set_cons_zero, List.set_cons_succ])
          go_cut [32] (fun v32 wc => ∃ (kq : Nat) (x32_8 : Bool), v32 = .bool x32_8 ∧ Aside0 (cadastreref03_Parse.j2 kq a0 x4_5 t119 x32_8 = some (r1, r2)) ∧ Aside0 (kq ≤ kj5) ∧ Aside0 (Below w.heap.size w wc))
          case first =>
            have H := HC9.out
            clear HC9
            by_cases c10 : t119 = x4_5
            · rw [if_pos c10] at H
              have c10b0 : (t119 == x4_5) = true := beq_iff_eq.mpr c10
              have c10b1 : (t119 != x4_5) = false := bne_eq_false_iff_eq.mpr c10
              clear c10
              (first | rw [c10b0] | (simp only [i64_w, i32_w]; rw [c10b0]) | skip)
              have H' := Aside0.mk H
              clear H
              go_wp2
              go_meet
              case rel => exact ⟨_, (true), (by first | rfl | (simp; done) | (simp [*]; done)), H', ⟨by have := HJ1.out; have := HJ5.out; first | omega | exact Nat.le_refl _⟩, ⟨by repeat (first | (with_reducible first | exact HB.out | apply below_alloc | apply pw_below_drewN | apply below_drew1) | exact HB.out)⟩⟩
            · rw [if_neg c10] at H
              have c10b0 : (t119 == x4_5) = false := beq_eq_false_iff_ne.mpr c10
              have c10b1 : (t119 != x4_5) = true := bne_iff_ne.mpr c10
              (first | rw [c10b0] | (simp only [i64_w, i32_w]; rw [c10b0]) | skip)
              have H' := Aside0.mk H
              clear H
              go_wp2
              go_meet
              case rel => exact ⟨_, (decide ((wrap64 (t119 - x4_5)) > 40)), (by first | rfl | (simp; done) | (simp [*]; done)), H', ⟨by have := HJ1.out; have := HJ5.out; first | omega | exact Nat.le_refl _⟩, ⟨by repeat (first | (with_reducible first | exact HB.out | apply below_alloc | apply pw_below_drewN | apply below_drew1) | exact HB.out)⟩⟩
          case rest =>
            clear HC9
            try clear c1
            try clear c2
            try clear p2
            try clear c3
            try clear c3b0
            try clear c3b1
            try clear c4
            try clear c4b0
            try clear c4b1
            try clear p5
            try clear q5
            try clear hx5
            try clear qi5
            try clear p6
            try clear c7
            try clear c10
            try clear c10b0
            try clear c10b1
            try clear p2
            try clear p5
            try clear q5
            obtain ⟨kq, x32_8, rfl, HA, HJ8, HB⟩ := hcut
            cases kq with
            | zero => exact absurd HA.out (by simp [cadastreref03_Parse.j2])
            | succ kj8 =>
              have H := HA.out
              clear HA
              simp only [cadastreref03_Parse.j2] at H
              by_cases c11 : x32_8 = true
              · subst c11
                have H1 : (some (0, 0)) = some (r1, r2) := by rw [if_pos rfl] at H; exact H
                clear H
                have H := H1
                clear H1
                simp only [Option.some.injEq, Prod.mk.injEq] at H
                obtain ⟨rfl, rfl⟩ := H
                go_wp2
                go_ret2
                exact ⟨by first | rfl | (simp [errW_none, errW_some] <;> rfl) | (simp [*, errW_none, errW_some] <;> rfl), by repeat (first | (with_reducible first | exact HB.out | apply below_alloc | apply pw_below_drewN | apply below_drew1) | exact HB.out)⟩
              · replace c11 := Bool.eq_false_iff.mpr c11
                subst c11
                have H1 : (if t119 < (a0.size : Int) then ((cadastreref03_end.f kj8 a0 (wrap64 (t119 + 1))).bind fun t120 => (if 0 ≤ t119 then (if (bt a0 t119) = 46 then (if t120 = (wrap64 (t119 + 1)) then (some (0, 0)) else (if (wrap64 ((wrap64 (t120 - t119)) - 1)) > 40 then (some (0, 0)) else (if t120 < (a0.size : Int) then (some (0, 0)) else (cadastreref03_Parse.j3 kj8 a0 x4_5 t119 t120)))) else (some (0, 0))) else (none))) else (cadastreref03_Parse.j3 kj8 a0 x4_5 t119 t119)) = some (r1, r2) := by rw [if_neg (show ¬ (false = true) by decide)] at H; exact H
                clear H
                have H := H1
                clear H1
                have HC12 := Aside0.mk H
                clear H
                go_upto_if 37 with (fail)
                go_cut [6] (fun v6 wc => ∃ (kq : Nat) (x6_11 : Int), v6 = .int .i64 x6_11 ∧ Aside0 (cadastreref03_Parse.j3 kq a0 x4_5 t119 x6_11 = some (r1, r2)) ∧ Aside0 (kq ≤ kj8) ∧ Aside0 (Below w.heap.size w wc))
                case first =>
                  have H := HC12.out
                  clear HC12
                  by_cases c13 : t119 < (a0.size : Int)
                  · rw [if_pos c13] at H
                    have c13b0 : decide (t119 < (a0.size : Int)) = true := decide_eq_true c13
                    clear c13
                    (first | rw [c13b0] | (simp only [i64_w, i32_w]; rw [c13b0]) | skip)
                    replace H := Option.bind_eq_some_iff.mp H
                    obtain ⟨t120, A140, H⟩ := H
                    replace H : (if 0 ≤ t119 then (if (bt a0 t119) = 46 then (if t120 = (wrap64 (t119 + 1)) then (some (0, 0)) else (if (wrap64 ((wrap64 (t120 - t119)) - 1)) > 40 then (some (0, 0)) else (if t120 < (a0.size : Int) then (some (0, 0)) else (cadastreref03_Parse.j3 kj8 a0 x4_5 t119 t120)))) else (some (0, 0))) else (none)) = some (r1, r2) := H
                    have A14 := Aside0.mk A140
                    clear A140
                    by_cases c15 : 0 ≤ t119
                    · rw [if_pos c15] at H
                      have c15b0 : decide (0 ≤ t119) = true := decide_eq_true c15
                      clear c15
                      by_cases c17 : (bt a0 t119) = 46
                      · rw [if_pos c17] at H
                        have c17b0 : ((bt a0 t119) == 46) = true := beq_iff_eq.mpr c17
                        have c17b1 : ((bt a0 t119) != 46) = false := bne_eq_false_iff_eq.mpr c17
                        clear c17
                        by_cases c18 : t120 = (wrap64 (t119 + 1))
                        · rw [if_pos c18] at H
                          have c18b0 : (t120 == (wrap64 (t119 + 1))) = true := beq_iff_eq.mpr c18
                          have c18b1 : (t120 != (wrap64 (t119 + 1))) = false := bne_eq_false_iff_eq.mpr c18
                          clear c18
                          simp only [Option.some.injEq, Prod.mk.injEq] at H
                          obtain ⟨rfl, rfl⟩ := H
                          go_wp2_with (first | ((with_reducible refine gate_callee (f := 21) rfl ?_); refine goesL_ (some 41) rfl rfl Tryd.func21 (by kernel_rfl) rfl #[.string a0, .int .i64 (wrap64 (t119 + 1))] rfl (by (try simp only [List.map_toArray, List.map_cons, List.map_nil]); first | done | rfl | (simp only [List.length_drop, List.length_take]; rfl)) ?_; (with_reducible refine (cadastreref03_end.calls kj8 a0 (wrap64 (t119 + 1)) t120 _ A14.out).mono ?_); rintro e w' ⟨rfl, ⟨nd, rfl⟩⟩; refine ⟨_, rfl, ?_⟩; have p16 : 0 ≤ (t119 : Int) := of_decide_eq_true (by first | (with_reducible assumption) | assumption); have q16 : t119 < (a0.size : Int) := of_decide_eq_true (by first | (with_reducible assumption) | assumption); have hx16 := bt_at a0 t119; replace p16 := eq_true p16; replace q16 := eq_true q16))
                          go_ret2
                          exact ⟨by first | rfl | (simp [errW_none, errW_some] <;> rfl) | (simp [*, errW_none, errW_some] <;> rfl), by repeat (first | (with_reducible first | exact HB.out | apply below_alloc | apply pw_below_drewN | apply below_drew1) | exact HB.out)⟩
                        · rw [if_neg c18] at H
                          have c18b0 : (t120 == (wrap64 (t119 + 1))) = false := beq_eq_false_iff_ne.mpr c18
                          have c18b1 : (t120 != (wrap64 (t119 + 1))) = true := bne_iff_ne.mpr c18
                          by_cases c19 : (wrap64 ((wrap64 (t120 - t119)) - 1)) > 40
                          · rw [if_pos c19] at H
                            have c19b0 : decide (40 < (wrap64 ((wrap64 (t120 - t119)) - 1))) = true := decide_eq_true c19
                            clear c19
                            simp only [Option.some.injEq, Prod.mk.injEq] at H
                            obtain ⟨rfl, rfl⟩ := H
                            go_wp2_with (first | ((with_reducible refine gate_callee (f := 21) rfl ?_); refine goesL_ (some 41) rfl rfl Tryd.func21 (by kernel_rfl) rfl #[.string a0, .int .i64 (wrap64 (t119 + 1))] rfl (by (try simp only [List.map_toArray, List.map_cons, List.map_nil]); first | done | rfl | (simp only [List.length_drop, List.length_take]; rfl)) ?_; (with_reducible refine (cadastreref03_end.calls kj8 a0 (wrap64 (t119 + 1)) t120 _ A14.out).mono ?_); rintro e w' ⟨rfl, ⟨nd, rfl⟩⟩; refine ⟨_, rfl, ?_⟩; have p16 : 0 ≤ (t119 : Int) := of_decide_eq_true (by first | (with_reducible assumption) | assumption); have q16 : t119 < (a0.size : Int) := of_decide_eq_true (by first | (with_reducible assumption) | assumption); have hx16 := bt_at a0 t119; replace p16 := eq_true p16; replace q16 := eq_true q16))
                            go_ret2
                            exact ⟨by first | rfl | (simp [errW_none, errW_some] <;> rfl) | (simp [*, errW_none, errW_some] <;> rfl), by repeat (first | (with_reducible first | exact HB.out | apply below_alloc | apply pw_below_drewN | apply below_drew1) | exact HB.out)⟩
                          · rw [if_neg c19] at H
                            have c19b0 : decide (40 < (wrap64 ((wrap64 (t120 - t119)) - 1))) = false := decide_eq_false c19
                            clear c19
                            by_cases c20 : t120 < (a0.size : Int)
                            · rw [if_pos c20] at H
                              have c20b0 : decide (t120 < (a0.size : Int)) = true := decide_eq_true c20
                              clear c20
                              simp only [Option.some.injEq, Prod.mk.injEq] at H
                              obtain ⟨rfl, rfl⟩ := H
                              go_wp2_with (first | ((with_reducible refine gate_callee (f := 21) rfl ?_); refine goesL_ (some 41) rfl rfl Tryd.func21 (by kernel_rfl) rfl #[.string a0, .int .i64 (wrap64 (t119 + 1))] rfl (by (try simp only [List.map_toArray, List.map_cons, List.map_nil]); first | done | rfl | (simp only [List.length_drop, List.length_take]; rfl)) ?_; (with_reducible refine (cadastreref03_end.calls kj8 a0 (wrap64 (t119 + 1)) t120 _ A14.out).mono ?_); rintro e w' ⟨rfl, ⟨nd, rfl⟩⟩; refine ⟨_, rfl, ?_⟩; have p16 : 0 ≤ (t119 : Int) := of_decide_eq_true (by first | (with_reducible assumption) | assumption); have q16 : t119 < (a0.size : Int) := of_decide_eq_true (by first | (with_reducible assumption) | assumption); have hx16 := bt_at a0 t119; replace p16 := eq_true p16; replace q16 := eq_true q16))
                              go_ret2
                              exact ⟨by first | rfl | (simp [errW_none, errW_some] <;> rfl) | (simp [*, errW_none, errW_some] <;> rfl), by repeat (first | (with_reducible first | exact HB.out | apply below_alloc | apply pw_below_drewN | apply below_drew1) | exact HB.out)⟩
                            · rw [if_neg c20] at H
                              have c20b0 : decide (t120 < (a0.size : Int)) = false := decide_eq_false c20
                              clear c20
                              have H' := Aside0.mk H
                              clear H
                              go_wp2_with (first | ((with_reducible refine gate_callee (f := 21) rfl ?_); refine goesL_ (some 41) rfl rfl Tryd.func21 (by kernel_rfl) rfl #[.string a0, .int .i64 (wrap64 (t119 + 1))] rfl (by (try simp only [List.map_toArray, List.map_cons, List.map_nil]); first | done | rfl | (simp only [List.length_drop, List.length_take]; rfl)) ?_; (with_reducible refine (cadastreref03_end.calls kj8 a0 (wrap64 (t119 + 1)) t120 _ A14.out).mono ?_); rintro e w' ⟨rfl, ⟨nd, rfl⟩⟩; refine ⟨_, rfl, ?_⟩; have p16 : 0 ≤ (t119 : Int) := of_decide_eq_true (by first | (with_reducible assumption) | assumption); have q16 : t119 < (a0.size : Int) := of_decide_eq_true (by first | (with_reducible assumption) | assumption); have hx16 := bt_at a0 t119; replace p16 := eq_true p16; replace q16 := eq_true q16))
                              go_meet
                              case rel => exact ⟨_, (t120), (by first | rfl | (simp; done) | (simp [*]; done)), H', ⟨by have := HJ1.out; have := HJ5.out; have := HJ8.out; first | omega | exact Nat.le_refl _⟩, ⟨by repeat (first | (with_reducible first | exact HB.out | apply below_alloc | apply pw_below_drewN | apply below_drew1) | exact HB.out)⟩⟩
                      · rw [if_neg c17] at H
                        have c17b0 : ((bt a0 t119) == 46) = false := beq_eq_false_iff_ne.mpr c17
                        have c17b1 : ((bt a0 t119) != 46) = true := bne_iff_ne.mpr c17
                        simp only [Option.some.injEq, Prod.mk.injEq] at H
                        obtain ⟨rfl, rfl⟩ := H
                        go_wp2_with (first | ((with_reducible refine gate_callee (f := 21) rfl ?_); refine goesL_ (some 41) rfl rfl Tryd.func21 (by kernel_rfl) rfl #[.string a0, .int .i64 (wrap64 (t119 + 1))] rfl (by (try simp only [List.map_toArray, List.map_cons, List.map_nil]); first | done | rfl | (simp only [List.length_drop, List.length_take]; rfl)) ?_; (with_reducible refine (cadastreref03_end.calls kj8 a0 (wrap64 (t119 + 1)) t120 _ A14.out).mono ?_); rintro e w' ⟨rfl, ⟨nd, rfl⟩⟩; refine ⟨_, rfl, ?_⟩; have p16 : 0 ≤ (t119 : Int) := of_decide_eq_true (by first | (with_reducible assumption) | assumption); have q16 : t119 < (a0.size : Int) := of_decide_eq_true (by first | (with_reducible assumption) | assumption); have hx16 := bt_at a0 t119; replace p16 := eq_true p16; replace q16 := eq_true q16))
                        go_ret2
                        exact ⟨by first | rfl | (simp [errW_none, errW_some] <;> rfl) | (simp [*, errW_none, errW_some] <;> rfl), by repeat (first | (with_reducible first | exact HB.out | apply below_alloc | apply pw_below_drewN | apply below_drew1) | exact HB.out)⟩
                    · rw [if_neg c15] at H
                      exact absurd H (by simp)
                  · rw [if_neg c13] at H
                    have c13b0 : decide (t119 < (a0.size : Int)) = false := decide_eq_false c13
                    clear c13
                    (first | rw [c13b0] | (simp only [i64_w, i32_w]; rw [c13b0]) | skip)
                    have H' := Aside0.mk H
                    clear H
                    go_wp2
                    go_meet
                    case rel => exact ⟨_, (t119), (by first | rfl | (simp; done) | (simp [*]; done)), H', ⟨by have := HJ1.out; have := HJ5.out; have := HJ8.out; first | omega | exact Nat.le_refl _⟩, ⟨by repeat (first | (with_reducible first | exact HB.out | apply below_alloc | apply pw_below_drewN | apply below_drew1) | exact HB.out)⟩⟩
                case rest =>
                  clear HC12
                  try clear c1
                  try clear p1
                  try clear q1
                  try clear hx1
                  try clear c2
                  try clear p2
                  try clear c3
                  try clear c3b0
                  try clear c3b1
                  try clear c4
                  try clear c4b0
                  try clear c4b1
                  try clear p5
                  try clear q5
                  try clear hx5
                  try clear qi5
                  try clear p6
                  try clear c7
                  try clear c10
                  try clear c10b0
                  try clear c10b1
                  try clear c11
                  try clear c13
                  try clear c13b0
                  try clear c15
                  try clear c15b0
                  try clear p16
                  try clear q16
                  try clear hx16
                  try clear c17
                  try clear c17b0
                  try clear c17b1
                  try clear c18
                  try clear c18b0
                  try clear c18b1
                  try clear c19
                  try clear c19b0
                  try clear c20
                  try clear c20b0
                  try clear p16
                  try clear p2
                  try clear p5
                  try clear p6
                  try clear q16
                  try clear q5
                  obtain ⟨kq, x6_11, rfl, HA, HJ11, HB⟩ := hcut
                  cases kq with
                  | zero => exact absurd HA.out (by simp [cadastreref03_Parse.j3])
                  | succ kj11 =>
                    have H := HA.out
                    clear HA
                    simp only [cadastreref03_Parse.j3] at H
                    have H' := Aside0.mk H
                    clear H
                    go_wp2_with (first | ((with_reducible refine gate_dst (N := 7) rfl ?_); (try (refine gate_guard (by rfl) ?_; dsimp only)); refine box_event ?hg (N := 7) ?hd (cs := #[.int .u64 0, .int .u64 0]) (t := 41) ?hr ?_; (case hd => rfl); (case hg => rfl); (case hr => first | (go_simp; done) | (go_simp; rfl)); intro gb121 hg w21 hbox hb; have n0_ := Aside0.mk (below_step (by repeat (first | (with_reducible first | exact HB.out | apply below_alloc | apply pw_below_drewN | apply below_drew1) | exact HB.out)) hb); have n1_ := Aside0.mk (hbox); have n2_ := Aside0.mk ((by rw [hg]; exact (below_size (by repeat (first | (with_reducible first | exact HB.out | apply below_alloc | apply pw_below_drewN | apply below_drew1) | exact HB.out))) : w.heap.size ≤ gb121)); have n3_ := Aside0.mk ((by rw [hg]; exact (below_size (by repeat (first | (with_reducible first | exact HB.out | apply below_alloc | apply pw_below_drewN | apply below_drew1) | exact HB.out))) : w.heap.size ≤ gb121)); clear HB; have HB := n0_; have BK121 := n1_; have GW121 := n2_; have GE121 := n3_; clear n0_ n1_ n2_ n3_; clear hb hbox hg; have hcz22_0 : w21.cell? ⟨gb121, 0, none⟩ = some (.int .u64 0) := (blk_cell BK121.out 0).trans rfl; have hcz22_1 : w21.cell? ⟨gb121, 1, none⟩ = some (.int .u64 0) := (blk_cell BK121.out 1).trans rfl; have hfz22_0 := blk_frozen BK121.out 0; have hfz22_1 := blk_frozen BK121.out 1))
                    go_loopg [8, 9] kj11 (fun kq v8 v9 w' => ∃ (x8_5 : Bool) (x9_5 : Int) (x122000_5 : Int) (x122001_5 : Int), v8 = .bool x8_5 ∧ v9 = .int .i64 x9_5 ∧ Aside0 (cadastreref03_Parse.l0 kq a0 x4_5 t119 x6_11 x8_5 x9_5 x122000_5 x122001_5 = some (r1, r2)) ∧ Aside0 (kq ≤ kj11) ∧ Aside0 (w'.heap[gb121]? = some (.cells #[.int .u64 x122000_5, .int .u64 x122001_5] 41 (0, 0))) ∧ Aside0 (Below w.heap.size w w'))
                    case atStart => exact ⟨(false), (x4_5), (0), (0), (by first | rfl | (simp; done) | (simp [*]; done)), (by first | rfl | (simp; done) | (simp [*]; done)), H', ⟨Nat.le_refl _⟩, ⟨by (with_reducible repeat (first | refine blk_drewN ?_ _ | refine blk_drew ?_ | refine blk_alloc ?_ _)); refine blk_put (cs := #[.int .u64 0, .int .u64 0]) ?_ 1 _ rfl; (with_reducible repeat (first | refine blk_drewN ?_ _ | refine blk_drew ?_ | refine blk_alloc ?_ _)); refine blk_put (cs := #[.int .u64 0, .int .u64 0]) ?_ 0 _ rfl; (with_reducible repeat (first | refine blk_drewN ?_ _ | refine blk_drew ?_ | refine blk_alloc ?_ _)); exact BK121.out⟩, ⟨by repeat (first | (with_reducible first | exact HB.out | apply below_alloc | apply pw_below_drewN | apply below_drew1 | refine below_set ?_ GE121.out) | exact HB.out)⟩⟩
                    case round =>
                      clear H'
                      try clear c1
                      try clear p1
                      try clear q1
                      try clear hx1
                      try clear c2
                      try clear p2
                      try clear c3
                      try clear c3b0
                      try clear c3b1
                      try clear c4
                      try clear c4b0
                      try clear c4b1
                      try clear p5
                      try clear q5
                      try clear hx5
                      try clear qi5
                      try clear p6
                      try clear c7
                      try clear c10
                      try clear c10b0
                      try clear c10b1
                      try clear c11
                      try clear c13
                      try clear c13b0
                      try clear c15
                      try clear c15b0
                      try clear p16
                      try clear q16
                      try clear hx16
                      try clear c17
                      try clear c17b0
                      try clear c17b1
                      try clear c18
                      try clear c18b0
                      try clear c18b1
                      try clear c19
                      try clear c19b0
                      try clear c20
                      try clear c20b0
                      try clear c21
                      try clear hcz22_0
                      try clear hcz22_1
                      try clear hfz22_0
                      try clear hfz22_1
                      try clear p1
                      try clear p16
                      try clear p2
                      try clear p5
                      try clear p6
                      try clear q1
                      try clear q16
                      try clear q5
                      obtain ⟨x8_5, x9_5, x122000_5, x122001_5, rfl, rfl, HA, HK5, BK121, HB⟩ := hrel
                      cases gk with
                      | zero => exact absurd HA.out (by simp [cadastreref03_Parse.l0])
                      | succ k5 =>
                        have H := HA.out
                        clear HA
                        simp only [cadastreref03_Parse.l0] at H
                        by_cases c23 : x9_5 < (wrap64 (t119 + 5))
                        · rw [if_pos c23] at H
                          have c23b0 : decide (x9_5 < (wrap64 (t119 + 5))) = true := decide_eq_true c23
                          clear c23
                          by_cases c24 : x9_5 = t119
                          · rw [if_pos c24] at H
                            have c24b0 : (x9_5 == t119) = true := beq_iff_eq.mpr c24
                            have c24b1 : (x9_5 != t119) = false := bne_eq_false_iff_eq.mpr c24
                            clear c24
                            have H' := Aside0.mk H
                            clear H
                            go_wp2
                            go_roundg k5
                            case measure => have := HJ1.out; have := HJ5.out; have := HJ8.out; have := HJ11.out; have := HK5.out; omega
                            case rel => exact ⟨(x8_5), (wrap64 (x9_5 + 1)), (x122000_5), (x122001_5), (by first | rfl | (simp; done) | (simp [*]; done)), (by first | rfl | (simp; done) | (simp [*]; done)), H', ⟨by have := HJ1.out; have := HJ5.out; have := HJ8.out; have := HJ11.out; have := HK5.out; omega⟩, ⟨by (with_reducible repeat (first | refine blk_drewN ?_ _ | refine blk_drew ?_ | refine blk_alloc ?_ _)); exact BK121.out⟩, ⟨by repeat (first | (with_reducible first | exact HB.out | apply below_alloc | apply pw_below_drewN | apply below_drew1 | refine below_set ?_ GE121.out) | exact HB.out)⟩⟩
                          · rw [if_neg c24] at H
                            have c24b0 : (x9_5 == t119) = false := beq_eq_false_iff_ne.mpr c24
                            have c24b1 : (x9_5 != t119) = true := bne_iff_ne.mpr c24
                            by_cases c25 : x9_5 < x6_11
                            · rw [if_pos c25] at H
                              have c25b0 : decide (x9_5 < x6_11) = true := decide_eq_true c25
                              clear c25
                              by_cases c26 : 0 ≤ x9_5
                              · rw [if_pos c26] at H
                                have c26b0 : decide (0 ≤ x9_5) = true := decide_eq_true c26
                                clear c26
                                by_cases c27 : x9_5 < (a0.size : Int)
                                · rw [if_pos c27] at H
                                  have c27b0 : decide (x9_5 < (a0.size : Int)) = true := decide_eq_true c27
                                  clear c27
                                  replace H := Option.bind_eq_some_iff.mp H
                                  obtain ⟨⟨t122, t123⟩, A290, H⟩ := H
                                  replace H : ((cadastreref01_PlusW.f t122 t123 0 (((bt a0 x9_5) - 48) % 256)).bind fun bt124 => (if x8_5 = true then (cadastreref03_Parse.l0 k5 a0 x4_5 t119 x6_11 true (wrap64 (x9_5 + 1)) bt124.1 bt124.2) else (cadastreref03_Parse.l0 k5 a0 x4_5 t119 x6_11 (decide (bt124.1 ≥ 1125899906842624)) (wrap64 (x9_5 + 1)) bt124.1 bt124.2))) = some (r1, r2) := H
                                  have A29 := Aside0.mk A290
                                  clear A290
                                  replace H := Option.bind_eq_some_iff.mp H
                                  obtain ⟨⟨t124, t125⟩, A300, H⟩ := H
                                  replace H : (if x8_5 = true then (cadastreref03_Parse.l0 k5 a0 x4_5 t119 x6_11 true (wrap64 (x9_5 + 1)) t124 t125) else (cadastreref03_Parse.l0 k5 a0 x4_5 t119 x6_11 (decide (t124 ≥ 1125899906842624)) (wrap64 (x9_5 + 1)) t124 t125)) = some (r1, r2) := H
                                  have A30 := Aside0.mk A300
                                  clear A300
                                  by_cases c31 : x8_5 = true
                                  · subst c31
                                    have H1 : (cadastreref03_Parse.l0 k5 a0 x4_5 t119 x6_11 true (wrap64 (x9_5 + 1)) t124 t125) = some (r1, r2) := by rw [if_pos rfl] at H; exact H
                                    clear H
                                    have H := H1
                                    clear H1
                                    have H' := Aside0.mk H
                                    clear H
                                    have p28 : 0 ≤ (x9_5 : Int) := of_decide_eq_true (by first | (with_reducible assumption) | assumption)
                                    have q28 : x9_5 < (a0.size : Int) := of_decide_eq_true (by first | (with_reducible assumption) | assumption)
                                    have hx28 := bt_at a0 x9_5
                                    replace p28 := eq_true p28
                                    replace q28 := eq_true q28
                                    have hcz32_0 : wr.cell? ⟨gb121, 0, none⟩ = some (.int .u64 x122000_5) := (blk_cell BK121.out 0).trans rfl
                                    have hcz32_1 : wr.cell? ⟨gb121, 1, none⟩ = some (.int .u64 x122001_5) := (blk_cell BK121.out 1).trans rfl
                                    have hfz32_0 := blk_frozen BK121.out 0
                                    have hfz32_1 := blk_frozen BK121.out 1
                                    go_wp2_with (first | ((with_reducible refine gate_callee (f := 23) rfl ?_); refine goesL_ (some 85) rfl rfl Tryd.func23 (by kernel_rfl) rfl #[.agg #[.int .u64 x122000_5, .int .u64 x122001_5]] rfl (by (try simp only [List.map_toArray, List.map_cons, List.map_nil]); first | done | rfl | (simp only [List.length_drop, List.length_take]; rfl)) ?_; (with_reducible refine (cadastreref03_times.calls x122000_5 x122001_5 t122 t123 _ A29.out).mono ?_); rintro e w33 ⟨rfl, hb⟩; refine ⟨_, rfl, ?_⟩; have n0_ := Aside0.mk (blk_below (g := gb121) (o := .cells #[.int .u64 x122000_5, .int .u64 x122001_5] 41 (0, 0)) (by (with_reducible repeat (first | refine blk_drewN ?_ _ | refine blk_drew ?_ | refine blk_alloc ?_ _)); exact BK121.out) hb); have n1_ := Aside0.mk (below_step (by repeat (first | (with_reducible first | exact HB.out | apply below_alloc | apply pw_below_drewN | apply below_drew1 | refine below_set ?_ GE121.out) | exact HB.out)) hb); clear BK121; clear HB; have BK121 := n0_; have HB := n1_; clear n0_ n1_; (try clear hb); (try clear hb2); (try clear hk); (try clear hi)) | ((with_reducible refine gate_callee (f := 22) rfl ?_); refine goesL_ (some 88) rfl rfl Tryd.func22 (by kernel_rfl) rfl #[.agg #[.int .u64 t122, .int .u64 t123], .agg #[.int .u64 0, .int .u64 (((bt a0 x9_5) - 48) % 256)]] rfl (by (try simp only [List.map_toArray, List.map_cons, List.map_nil]); first | done | rfl | (simp only [List.length_drop, List.length_take]; rfl)) ?_; (with_reducible refine (cadastreref01_PlusW.calls t122 t123 0 (((bt a0 x9_5) - 48) % 256) t124 t125 _ A30.out).mono ?_); rintro e w34 ⟨rfl, hb⟩; refine ⟨_, rfl, ?_⟩; have n0_ := Aside0.mk (blk_below (g := gb121) (o := .cells #[.int .u64 x122000_5, .int .u64 x122001_5] 41 (0, 0)) (by (with_reducible repeat (first | refine blk_drewN ?_ _ | refine blk_drew ?_ | refine blk_alloc ?_ _)); exact BK121.out) hb); have n1_ := Aside0.mk (below_step (by repeat (first | (with_reducible first | exact HB.out | apply below_alloc | apply pw_below_drewN | apply below_drew1 | refine below_set ?_ GE121.out) | exact HB.out)) hb); clear BK121; clear HB; have BK121 := n0_; have HB := n1_; clear n0_ n1_; (try clear hb); (try clear hb2); (try clear hk); (try clear hi); have hcz35_0 : w34.cell? ⟨gb121, 0, none⟩ = some (.int .u64 x122000_5) := (blk_cell BK121.out 0).trans rfl; have hcz35_1 : w34.cell? ⟨gb121, 1, none⟩ = some (.int .u64 x122001_5) := (blk_cell BK121.out 1).trans rfl; have hfz35_0 := blk_frozen BK121.out 0; have hfz35_1 := blk_frozen BK121.out 1))
                                    go_roundg k5
                                    case measure => have := HJ1.out; have := HJ5.out; have := HJ8.out; have := HJ11.out; have := HK5.out; omega
                                    case rel => exact ⟨(true), (wrap64 (x9_5 + 1)), (t124), (t125), (by first | rfl | (simp; done) | (simp [*]; done)), (by first | rfl | (simp; done) | (simp [*]; done)), H', ⟨by have := HJ1.out; have := HJ5.out; have := HJ8.out; have := HJ11.out; have := HK5.out; omega⟩, ⟨by (with_reducible repeat (first | refine blk_drewN ?_ _ | refine blk_drew ?_ | refine blk_alloc ?_ _)); refine blk_put (cs := #[.int .u64 t124, .int .u64 x122001_5]) ?_ 1 _ rfl; (with_reducible repeat (first | refine blk_drewN ?_ _ | refine blk_drew ?_ | refine blk_alloc ?_ _)); refine blk_put (cs := #[.int .u64 x122000_5, .int .u64 x122001_5]) ?_ 0 _ rfl; (with_reducible repeat (first | refine blk_drewN ?_ _ | refine blk_drew ?_ | refine blk_alloc ?_ _)); exact BK121.out⟩, ⟨by repeat (first | (with_reducible first | exact HB.out | apply below_alloc | apply pw_below_drewN | apply below_drew1 | refine below_set ?_ GE121.out) | exact HB.out)⟩⟩
                                  · replace c31 := Bool.eq_false_iff.mpr c31
                                    subst c31
                                    have H1 : (cadastreref03_Parse.l0 k5 a0 x4_5 t119 x6_11 (decide (t124 ≥ 1125899906842624)) (wrap64 (x9_5 + 1)) t124 t125) = some (r1, r2) := by rw [if_neg (show ¬ (false = true) by decide)] at H; exact H
                                    clear H
                                    have H := H1
                                    clear H1
                                    have H' := Aside0.mk H
                                    clear H
                                    have p28 : 0 ≤ (x9_5 : Int) := of_decide_eq_true (by first | (with_reducible assumption) | assumption)
                                    have q28 : x9_5 < (a0.size : Int) := of_decide_eq_true (by first | (with_reducible assumption) | assumption)
                                    have hx28 := bt_at a0 x9_5
                                    replace p28 := eq_true p28
                                    replace q28 := eq_true q28
                                    have hcz36_0 : wr.cell? ⟨gb121, 0, none⟩ = some (.int .u64 x122000_5) := (blk_cell BK121.out 0).trans rfl
                                    have hcz36_1 : wr.cell? ⟨gb121, 1, none⟩ = some (.int .u64 x122001_5) := (blk_cell BK121.out 1).trans rfl
                                    have hfz36_0 := blk_frozen BK121.out 0
                                    have hfz36_1 := blk_frozen BK121.out 1
                                    go_wp2_with (first | ((with_reducible refine gate_callee (f := 23) rfl ?_); refine goesL_ (some 85) rfl rfl Tryd.func23 (by kernel_rfl) rfl #[.agg #[.int .u64 x122000_5, .int .u64 x122001_5]] rfl (by (try simp only [List.map_toArray, List.map_cons, List.map_nil]); first | done | rfl | (simp only [List.length_drop, List.length_take]; rfl)) ?_; (with_reducible refine (cadastreref03_times.calls x122000_5 x122001_5 t122 t123 _ A29.out).mono ?_); rintro e w37 ⟨rfl, hb⟩; refine ⟨_, rfl, ?_⟩; have n0_ := Aside0.mk (blk_below (g := gb121) (o := .cells #[.int .u64 x122000_5, .int .u64 x122001_5] 41 (0, 0)) (by (with_reducible repeat (first | refine blk_drewN ?_ _ | refine blk_drew ?_ | refine blk_alloc ?_ _)); exact BK121.out) hb); have n1_ := Aside0.mk (below_step (by repeat (first | (with_reducible first | exact HB.out | apply below_alloc | apply pw_below_drewN | apply below_drew1 | refine below_set ?_ GE121.out) | exact HB.out)) hb); clear BK121; clear HB; have BK121 := n0_; have HB := n1_; clear n0_ n1_; (try clear hb); (try clear hb2); (try clear hk); (try clear hi)) | ((with_reducible refine gate_callee (f := 22) rfl ?_); refine goesL_ (some 88) rfl rfl Tryd.func22 (by kernel_rfl) rfl #[.agg #[.int .u64 t122, .int .u64 t123], .agg #[.int .u64 0, .int .u64 (((bt a0 x9_5) - 48) % 256)]] rfl (by (try simp only [List.map_toArray, List.map_cons, List.map_nil]); first | done | rfl | (simp only [List.length_drop, List.length_take]; rfl)) ?_; (with_reducible refine (cadastreref01_PlusW.calls t122 t123 0 (((bt a0 x9_5) - 48) % 256) t124 t125 _ A30.out).mono ?_); rintro e w38 ⟨rfl, hb⟩; refine ⟨_, rfl, ?_⟩; have n0_ := Aside0.mk (blk_below (g := gb121) (o := .cells #[.int .u64 x122000_5, .int .u64 x122001_5] 41 (0, 0)) (by (with_reducible repeat (first | refine blk_drewN ?_ _ | refine blk_drew ?_ | refine blk_alloc ?_ _)); exact BK121.out) hb); have n1_ := Aside0.mk (below_step (by repeat (first | (with_reducible first | exact HB.out | apply below_alloc | apply pw_below_drewN | apply below_drew1 | refine below_set ?_ GE121.out) | exact HB.out)) hb); clear BK121; clear HB; have BK121 := n0_; have HB := n1_; clear n0_ n1_; (try clear hb); (try clear hb2); (try clear hk); (try clear hi); have hcz39_0 : w38.cell? ⟨gb121, 0, none⟩ = some (.int .u64 x122000_5) := (blk_cell BK121.out 0).trans rfl; have hcz39_1 : w38.cell? ⟨gb121, 1, none⟩ = some (.int .u64 x122001_5) := (blk_cell BK121.out 1).trans rfl; have hfz39_0 := blk_frozen BK121.out 0; have hfz39_1 := blk_frozen BK121.out 1))
                                    go_roundg k5
                                    case measure => have := HJ1.out; have := HJ5.out; have := HJ8.out; have := HJ11.out; have := HK5.out; omega
                                    case rel => exact ⟨(decide (t124 ≥ 1125899906842624)), (wrap64 (x9_5 + 1)), (t124), (t125), (by first | rfl | (simp; done) | (simp [*]; done)), (by first | rfl | (simp; done) | (simp [*]; done)), H', ⟨by have := HJ1.out; have := HJ5.out; have := HJ8.out; have := HJ11.out; have := HK5.out; omega⟩, ⟨by (with_reducible repeat (first | refine blk_drewN ?_ _ | refine blk_drew ?_ | refine blk_alloc ?_ _)); refine blk_put (cs := #[.int .u64 t124, .int .u64 x122001_5]) ?_ 1 _ rfl; (with_reducible repeat (first | refine blk_drewN ?_ _ | refine blk_drew ?_ | refine blk_alloc ?_ _)); refine blk_put (cs := #[.int .u64 x122000_5, .int .u64 x122001_5]) ?_ 0 _ rfl; (with_reducible repeat (first | refine blk_drewN ?_ _ | refine blk_drew ?_ | refine blk_alloc ?_ _)); exact BK121.out⟩, ⟨by repeat (first | (with_reducible first | exact HB.out | apply below_alloc | apply pw_below_drewN | apply below_drew1 | refine below_set ?_ GE121.out) | exact HB.out)⟩⟩
                                · rw [if_neg c27] at H
                                  exact absurd H (by simp)
                              · rw [if_neg c26] at H
                                exact absurd H (by simp)
                            · rw [if_neg c25] at H
                              have c25b0 : decide (x9_5 < x6_11) = false := decide_eq_false c25
                              clear c25
                              replace H := Option.bind_eq_some_iff.mp H
                              obtain ⟨⟨t126, t127⟩, A400, H⟩ := H
                              replace H : ((cadastreref01_PlusW.f t126 t127 0 0).bind fun bt128 => (if x8_5 = true then (cadastreref03_Parse.l0 k5 a0 x4_5 t119 x6_11 true (wrap64 (x9_5 + 1)) bt128.1 bt128.2) else (cadastreref03_Parse.l0 k5 a0 x4_5 t119 x6_11 (decide (bt128.1 ≥ 1125899906842624)) (wrap64 (x9_5 + 1)) bt128.1 bt128.2))) = some (r1, r2) := H
                              have A40 := Aside0.mk A400
                              clear A400
                              replace H := Option.bind_eq_some_iff.mp H
                              obtain ⟨⟨t128, t129⟩, A410, H⟩ := H
                              replace H : (if x8_5 = true then (cadastreref03_Parse.l0 k5 a0 x4_5 t119 x6_11 true (wrap64 (x9_5 + 1)) t128 t129) else (cadastreref03_Parse.l0 k5 a0 x4_5 t119 x6_11 (decide (t128 ≥ 1125899906842624)) (wrap64 (x9_5 + 1)) t128 t129)) = some (r1, r2) := H
                              have A41 := Aside0.mk A410
                              clear A410
                              by_cases c42 : x8_5 = true
                              · subst c42
                                have H1 : (cadastreref03_Parse.l0 k5 a0 x4_5 t119 x6_11 true (wrap64 (x9_5 + 1)) t128 t129) = some (r1, r2) := by rw [if_pos rfl] at H; exact H
                                clear H
                                have H := H1
                                clear H1
                                have H' := Aside0.mk H
                                clear H
                                have hcz43_0 : wr.cell? ⟨gb121, 0, none⟩ = some (.int .u64 x122000_5) := (blk_cell BK121.out 0).trans rfl
                                have hcz43_1 : wr.cell? ⟨gb121, 1, none⟩ = some (.int .u64 x122001_5) := (blk_cell BK121.out 1).trans rfl
                                have hfz43_0 := blk_frozen BK121.out 0
                                have hfz43_1 := blk_frozen BK121.out 1
                                go_wp2_with (first | ((with_reducible refine gate_callee (f := 23) rfl ?_); refine goesL_ (some 85) rfl rfl Tryd.func23 (by kernel_rfl) rfl #[.agg #[.int .u64 x122000_5, .int .u64 x122001_5]] rfl (by (try simp only [List.map_toArray, List.map_cons, List.map_nil]); first | done | rfl | (simp only [List.length_drop, List.length_take]; rfl)) ?_; (with_reducible refine (cadastreref03_times.calls x122000_5 x122001_5 t126 t127 _ A40.out).mono ?_); rintro e w44 ⟨rfl, hb⟩; refine ⟨_, rfl, ?_⟩; have n0_ := Aside0.mk (blk_below (g := gb121) (o := .cells #[.int .u64 x122000_5, .int .u64 x122001_5] 41 (0, 0)) (by (with_reducible repeat (first | refine blk_drewN ?_ _ | refine blk_drew ?_ | refine blk_alloc ?_ _)); exact BK121.out) hb); have n1_ := Aside0.mk (below_step (by repeat (first | (with_reducible first | exact HB.out | apply below_alloc | apply pw_below_drewN | apply below_drew1 | refine below_set ?_ GE121.out) | exact HB.out)) hb); clear BK121; clear HB; have BK121 := n0_; have HB := n1_; clear n0_ n1_; (try clear hb); (try clear hb2); (try clear hk); (try clear hi)) | ((with_reducible refine gate_callee (f := 22) rfl ?_); refine goesL_ (some 88) rfl rfl Tryd.func22 (by kernel_rfl) rfl #[.agg #[.int .u64 t126, .int .u64 t127], .agg #[.int .u64 0, .int .u64 0]] rfl (by (try simp only [List.map_toArray, List.map_cons, List.map_nil]); first | done | rfl | (simp only [List.length_drop, List.length_take]; rfl)) ?_; (with_reducible refine (cadastreref01_PlusW.calls t126 t127 0 0 t128 t129 _ A41.out).mono ?_); rintro e w45 ⟨rfl, hb⟩; refine ⟨_, rfl, ?_⟩; have n0_ := Aside0.mk (blk_below (g := gb121) (o := .cells #[.int .u64 x122000_5, .int .u64 x122001_5] 41 (0, 0)) (by (with_reducible repeat (first | refine blk_drewN ?_ _ | refine blk_drew ?_ | refine blk_alloc ?_ _)); exact BK121.out) hb); have n1_ := Aside0.mk (below_step (by repeat (first | (with_reducible first | exact HB.out | apply below_alloc | apply pw_below_drewN | apply below_drew1 | refine below_set ?_ GE121.out) | exact HB.out)) hb); clear BK121; clear HB; have BK121 := n0_; have HB := n1_; clear n0_ n1_; (try clear hb); (try clear hb2); (try clear hk); (try clear hi); have hcz46_0 : w45.cell? ⟨gb121, 0, none⟩ = some (.int .u64 x122000_5) := (blk_cell BK121.out 0).trans rfl; have hcz46_1 : w45.cell? ⟨gb121, 1, none⟩ = some (.int .u64 x122001_5) := (blk_cell BK121.out 1).trans rfl; have hfz46_0 := blk_frozen BK121.out 0; have hfz46_1 := blk_frozen BK121.out 1))
                                go_roundg k5
                                case measure => have := HJ1.out; have := HJ5.out; have := HJ8.out; have := HJ11.out; have := HK5.out; omega
                                case rel => exact ⟨(true), (wrap64 (x9_5 + 1)), (t128), (t129), (by first | rfl | (simp; done) | (simp [*]; done)), (by first | rfl | (simp; done) | (simp [*]; done)), H', ⟨by have := HJ1.out; have := HJ5.out; have := HJ8.out; have := HJ11.out; have := HK5.out; omega⟩, ⟨by (with_reducible repeat (first | refine blk_drewN ?_ _ | refine blk_drew ?_ | refine blk_alloc ?_ _)); refine blk_put (cs := #[.int .u64 t128, .int .u64 x122001_5]) ?_ 1 _ rfl; (with_reducible repeat (first | refine blk_drewN ?_ _ | refine blk_drew ?_ | refine blk_alloc ?_ _)); refine blk_put (cs := #[.int .u64 x122000_5, .int .u64 x122001_5]) ?_ 0 _ rfl; (with_reducible repeat (first | refine blk_drewN ?_ _ | refine blk_drew ?_ | refine blk_alloc ?_ _)); exact BK121.out⟩, ⟨by repeat (first | (with_reducible first | exact HB.out | apply below_alloc | apply pw_below_drewN | apply below_drew1 | refine below_set ?_ GE121.out) | exact HB.out)⟩⟩
                              · replace c42 := Bool.eq_false_iff.mpr c42
                                subst c42
                                have H1 : (cadastreref03_Parse.l0 k5 a0 x4_5 t119 x6_11 (decide (t128 ≥ 1125899906842624)) (wrap64 (x9_5 + 1)) t128 t129) = some (r1, r2) := by rw [if_neg (show ¬ (false = true) by decide)] at H; exact H
                                clear H
                                have H := H1
                                clear H1
                                have H' := Aside0.mk H
                                clear H
                                have hcz47_0 : wr.cell? ⟨gb121, 0, none⟩ = some (.int .u64 x122000_5) := (blk_cell BK121.out 0).trans rfl
                                have hcz47_1 : wr.cell? ⟨gb121, 1, none⟩ = some (.int .u64 x122001_5) := (blk_cell BK121.out 1).trans rfl
                                have hfz47_0 := blk_frozen BK121.out 0
                                have hfz47_1 := blk_frozen BK121.out 1
                                go_wp2_with (first | ((with_reducible refine gate_callee (f := 23) rfl ?_); refine goesL_ (some 85) rfl rfl Tryd.func23 (by kernel_rfl) rfl #[.agg #[.int .u64 x122000_5, .int .u64 x122001_5]] rfl (by (try simp only [List.map_toArray, List.map_cons, List.map_nil]); first | done | rfl | (simp only [List.length_drop, List.length_take]; rfl)) ?_; (with_reducible refine (cadastreref03_times.calls x122000_5 x122001_5 t126 t127 _ A40.out).mono ?_); rintro e w48 ⟨rfl, hb⟩; refine ⟨_, rfl, ?_⟩; have n0_ := Aside0.mk (blk_below (g := gb121) (o := .cells #[.int .u64 x122000_5, .int .u64 x122001_5] 41 (0, 0)) (by (with_reducible repeat (first | refine blk_drewN ?_ _ | refine blk_drew ?_ | refine blk_alloc ?_ _)); exact BK121.out) hb); have n1_ := Aside0.mk (below_step (by repeat (first | (with_reducible first | exact HB.out | apply below_alloc | apply pw_below_drewN | apply below_drew1 | refine below_set ?_ GE121.out) | exact HB.out)) hb); clear BK121; clear HB; have BK121 := n0_; have HB := n1_; clear n0_ n1_; (try clear hb); (try clear hb2); (try clear hk); (try clear hi)) | ((with_reducible refine gate_callee (f := 22) rfl ?_); refine goesL_ (some 88) rfl rfl Tryd.func22 (by kernel_rfl) rfl #[.agg #[.int .u64 t126, .int .u64 t127], .agg #[.int .u64 0, .int .u64 0]] rfl (by (try simp only [List.map_toArray, List.map_cons, List.map_nil]); first | done | rfl | (simp only [List.length_drop, List.length_take]; rfl)) ?_; (with_reducible refine (cadastreref01_PlusW.calls t126 t127 0 0 t128 t129 _ A41.out).mono ?_); rintro e w49 ⟨rfl, hb⟩; refine ⟨_, rfl, ?_⟩; have n0_ := Aside0.mk (blk_below (g := gb121) (o := .cells #[.int .u64 x122000_5, .int .u64 x122001_5] 41 (0, 0)) (by (with_reducible repeat (first | refine blk_drewN ?_ _ | refine blk_drew ?_ | refine blk_alloc ?_ _)); exact BK121.out) hb); have n1_ := Aside0.mk (below_step (by repeat (first | (with_reducible first | exact HB.out | apply below_alloc | apply pw_below_drewN | apply below_drew1 | refine below_set ?_ GE121.out) | exact HB.out)) hb); clear BK121; clear HB; have BK121 := n0_; have HB := n1_; clear n0_ n1_; (try clear hb); (try clear hb2); (try clear hk); (try clear hi); have hcz50_0 : w49.cell? ⟨gb121, 0, none⟩ = some (.int .u64 x122000_5) := (blk_cell BK121.out 0).trans rfl; have hcz50_1 : w49.cell? ⟨gb121, 1, none⟩ = some (.int .u64 x122001_5) := (blk_cell BK121.out 1).trans rfl; have hfz50_0 := blk_frozen BK121.out 0; have hfz50_1 := blk_frozen BK121.out 1))
                                go_roundg k5
                                case measure => have := HJ1.out; have := HJ5.out; have := HJ8.out; have := HJ11.out; have := HK5.out; omega
                                case rel => exact ⟨(decide (t128 ≥ 1125899906842624)), (wrap64 (x9_5 + 1)), (t128), (t129), (by first | rfl | (simp; done) | (simp [*]; done)), (by first | rfl | (simp; done) | (simp [*]; done)), H', ⟨by have := HJ1.out; have := HJ5.out; have := HJ8.out; have := HJ11.out; have := HK5.out; omega⟩, ⟨by (with_reducible repeat (first | refine blk_drewN ?_ _ | refine blk_drew ?_ | refine blk_alloc ?_ _)); refine blk_put (cs := #[.int .u64 t128, .int .u64 x122001_5]) ?_ 1 _ rfl; (with_reducible repeat (first | refine blk_drewN ?_ _ | refine blk_drew ?_ | refine blk_alloc ?_ _)); refine blk_put (cs := #[.int .u64 x122000_5, .int .u64 x122001_5]) ?_ 0 _ rfl; (with_reducible repeat (first | refine blk_drewN ?_ _ | refine blk_drew ?_ | refine blk_alloc ?_ _)); exact BK121.out⟩, ⟨by repeat (first | (with_reducible first | exact HB.out | apply below_alloc | apply pw_below_drewN | apply below_drew1 | refine below_set ?_ GE121.out) | exact HB.out)⟩⟩
                        · rw [if_neg c23] at H
                          have c23b0 : decide (x9_5 < (wrap64 (t119 + 5))) = false := decide_eq_false c23
                          clear c23
                          have HC51 := Aside0.mk H
                          clear H
                          go_upto_region 22 with (fail)
                          go_cut [105] (fun v105 wc => ∃ (kq : Nat) (x105_50 : Bool), v105 = .bool x105_50 ∧ Aside0 (cadastreref03_Parse.j5 kq x4_5 x8_5 x105_50 x122000_5 x122001_5 = some (r1, r2)) ∧ Aside0 (kq ≤ k5) ∧ Aside0 (wc.heap[gb121]? = some (.cells #[.int .u64 x122000_5, .int .u64 x122001_5] 41 (0, 0))) ∧ Aside0 (Below w.heap.size w wc))
                          case first =>
                            have H := HC51.out
                            clear HC51
                            by_cases c52 : (wrap64 (t119 + 5)) < x6_11
                            · rw [if_pos c52] at H
                              have c52b0 : decide ((wrap64 (t119 + 5)) < x6_11) = true := decide_eq_true c52
                              clear c52
                              (first | rw [c52b0] | (simp only [i64_w, i32_w]; rw [c52b0]) | skip)
                              obtain ⟨ji53, hji53⟩ : ∃ j_ : Int, (wrap64 (t119 + 5)) = j_ := ⟨_, rfl⟩
                              replace H : (if 0 ≤ (ji53) then (if (ji53) < (a0.size : Int) then (cadastreref03_Parse.j5 k5 x4_5 x8_5 (decide ((bt a0 (ji53)) ≥ 53)) x122000_5 x122001_5) else (none)) else (none)) = some (r1, r2) := by first | (rw [hji53] at H; exact H) | (simp only [hji53] at H ⊢; exact H)
                              (try rw [hji53] at c23b0)
                              (try rw [hji53] at c52b0)
                              have hji53w : (IntKind.i64.wrap (t119 + 5)) = ji53 := (i64_w _).trans hji53
                              by_cases c54 : 0 ≤ (ji53)
                              · rw [if_pos c54] at H
                                have c54b0 : decide (0 ≤ (ji53)) = true := decide_eq_true c54
                                clear c54
                                by_cases c55 : (ji53) < (a0.size : Int)
                                · rw [if_pos c55] at H
                                  have c55b0 : decide ((ji53) < (a0.size : Int)) = true := decide_eq_true c55
                                  clear c55
                                  have H' := Aside0.mk H
                                  clear H
                                  have p56 : 0 ≤ ((ji53) : Int) := of_decide_eq_true (by first | (with_reducible assumption) | assumption)
                                  have q56 : (ji53) < (a0.size : Int) := of_decide_eq_true (by first | (with_reducible assumption) | assumption)
                                  have hx56 := bt_at a0 (ji53)
                                  replace p56 := eq_true p56
                                  replace q56 := eq_true q56
                                  go_wp2
                                  go_meet
                                  case rel => exact ⟨_, (decide ((bt a0 (ji53)) ≥ 53)), (by first | rfl | (simp; done) | (simp only [← hji53] <;> (first | rfl | simp)) | (simp [*]; done)), H', ⟨by have := HJ1.out; have := HJ5.out; have := HJ8.out; have := HJ11.out; have := HK5.out; first | omega | exact Nat.le_refl _⟩, ⟨by (with_reducible repeat (first | refine blk_drewN ?_ _ | refine blk_drew ?_ | refine blk_alloc ?_ _)); exact BK121.out⟩, ⟨by repeat (first | (with_reducible first | exact HB.out | apply below_alloc | apply pw_below_drewN | apply below_drew1 | refine below_set ?_ GE121.out) | exact HB.out)⟩⟩
                                · rw [if_neg c55] at H
                                  exact absurd H (by simp)
                              · rw [if_neg c54] at H
                                exact absurd H (by simp)
                            · rw [if_neg c52] at H
                              have c52b0 : decide ((wrap64 (t119 + 5)) < x6_11) = false := decide_eq_false c52
                              clear c52
                              (first | rw [c52b0] | (simp only [i64_w, i32_w]; rw [c52b0]) | skip)
                              have H' := Aside0.mk H
                              clear H
                              go_wp2
                              go_meet
                              case rel => exact ⟨_, (false), (by first | rfl | (simp; done) | (simp [*]; done)), H', ⟨by have := HJ1.out; have := HJ5.out; have := HJ8.out; have := HJ11.out; have := HK5.out; first | omega | exact Nat.le_refl _⟩, ⟨by (with_reducible repeat (first | refine blk_drewN ?_ _ | refine blk_drew ?_ | refine blk_alloc ?_ _)); exact BK121.out⟩, ⟨by repeat (first | (with_reducible first | exact HB.out | apply below_alloc | apply pw_below_drewN | apply below_drew1 | refine below_set ?_ GE121.out) | exact HB.out)⟩⟩
                          case rest =>
                            clear HC51
                            try clear c1
                            try clear p1
                            try clear q1
                            try clear hx1
                            try clear c2
                            try clear p2
                            try clear q2
                            try clear hx2
                            try clear c3
                            try clear c3b0
                            try clear c3b1
                            try clear c4
                            try clear c4b0
                            try clear c4b1
                            try clear c5
                            try clear p5
                            try clear q5
                            try clear hx5
                            try clear qi5
                            try clear p6
                            try clear c7
                            try clear c10
                            try clear c10b0
                            try clear c10b1
                            try clear c11
                            try clear c13
                            try clear c13b0
                            try clear c15
                            try clear c15b0
                            try clear p16
                            try clear q16
                            try clear hx16
                            try clear c17
                            try clear c17b0
                            try clear c17b1
                            try clear c18
                            try clear c18b0
                            try clear c18b1
                            try clear c19
                            try clear c19b0
                            try clear c20
                            try clear c20b0
                            try clear c21
                            try clear c22
                            try clear c23
                            try clear c23b0
                            try clear c24
                            try clear c24b0
                            try clear c24b1
                            try clear c25
                            try clear c25b0
                            try clear c26
                            try clear c26b0
                            try clear c27
                            try clear c27b0
                            try clear p28
                            try clear q28
                            try clear hx28
                            try clear c31
                            try clear c42
                            try clear c52
                            try clear c52b0
                            try clear c54
                            try clear c54b0
                            try clear c55
                            try clear c55b0
                            try clear p56
                            try clear q56
                            try clear hx56
                            try clear hcz22_0
                            try clear hcz22_1
                            try clear hcz32_0
                            try clear hcz32_1
                            try clear hcz35_0
                            try clear hcz35_1
                            try clear hcz36_0
                            try clear hcz36_1
                            try clear hcz39_0
                            try clear hcz39_1
                            try clear hcz43_0
                            try clear hcz43_1
                            try clear hcz46_0
                            try clear hcz46_1
                            try clear hcz47_0
                            try clear hcz47_1
                            try clear hcz50_0
                            try clear hcz50_1
                            try clear hfz22_0
                            try clear hfz22_1
                            try clear hfz32_0
                            try clear hfz32_1
                            try clear hfz35_0
                            try clear hfz35_1
                            try clear hfz36_0
                            try clear hfz36_1
                            try clear hfz39_0
                            try clear hfz39_1
                            try clear hfz43_0
                            try clear hfz43_1
                            try clear hfz46_0
                            try clear hfz46_1
                            try clear hfz47_0
                            try clear hfz47_1
                            try clear hfz50_0
                            try clear hfz50_1
                            try clear p1
                            try clear p16
                            try clear p2
                            try clear p28
                            try clear p5
                            try clear p56
                            try clear p6
                            try clear q1
                            try clear q16
                            try clear q28
                            try clear q5
                            try clear q56
                            obtain ⟨kq, x105_50, rfl, HA, HJ50, BK121, HB⟩ := hcut
                            cases kq with
                            | zero => exact absurd HA.out (by simp [cadastreref03_Parse.j5])
                            | succ kj50 =>
                              have H := HA.out
                              clear HA
                              simp only [cadastreref03_Parse.j5] at H
                              by_cases c57 : x105_50 = true
                              · subst c57
                                have H1 : ((cadastreref01_PlusW.f x122000_5 x122001_5 0 1).bind fun bt130 => ((cadastreref01_Signed.f kj50 (x4_5 == 1) bt130.1 bt130.2).bind fun bt132 => (if x8_5 = true then (some (0, 2)) else (if bt132.2 = true then (some (bt132.1, 1)) else (some (0, 2)))))) = some (r1, r2) := by rw [if_pos rfl] at H; exact H
                                clear H
                                have H := H1
                                clear H1
                                replace H := Option.bind_eq_some_iff.mp H
                                obtain ⟨⟨t130, t131⟩, A580, H⟩ := H
                                replace H : ((cadastreref01_Signed.f kj50 (x4_5 == 1) t130 t131).bind fun bt132 => (if x8_5 = true then (some (0, 2)) else (if bt132.2 = true then (some (bt132.1, 1)) else (some (0, 2))))) = some (r1, r2) := H
                                have A58 := Aside0.mk A580
                                clear A580
                                replace H := Option.bind_eq_some_iff.mp H
                                obtain ⟨⟨t132, t133⟩, A590, H⟩ := H
                                replace H : (if x8_5 = true then (some (0, 2)) else (if t133 = true then (some (t132, 1)) else (some (0, 2)))) = some (r1, r2) := H
                                have A59 := Aside0.mk A590
                                clear A590
                                by_cases c60 : x8_5 = true
                                · subst c60
                                  have H1 : (some (0, 2)) = some (r1, r2) := by rw [if_pos rfl] at H; exact H
                                  clear H
                                  have H := H1
                                  clear H1
                                  simp only [Option.some.injEq, Prod.mk.injEq] at H
                                  obtain ⟨rfl, rfl⟩ := H
                                  have hcz61_0 : wc.cell? ⟨gb121, 0, none⟩ = some (.int .u64 x122000_5) := (blk_cell BK121.out 0).trans rfl
                                  have hcz61_1 : wc.cell? ⟨gb121, 1, none⟩ = some (.int .u64 x122001_5) := (blk_cell BK121.out 1).trans rfl
                                  have hfz61_0 := blk_frozen BK121.out 0
                                  have hfz61_1 := blk_frozen BK121.out 1
                                  go_wp2_with (first | ((with_reducible refine gate_callee (f := 22) rfl ?_); refine goesL_ (some 108) rfl rfl Tryd.func22 (by kernel_rfl) rfl #[.agg #[.int .u64 x122000_5, .int .u64 x122001_5], .agg #[.int .u64 0, .int .u64 1]] rfl (by (try simp only [List.map_toArray, List.map_cons, List.map_nil]); first | done | rfl | (simp only [List.length_drop, List.length_take]; rfl)) ?_; (with_reducible refine (cadastreref01_PlusW.calls x122000_5 x122001_5 0 1 t130 t131 _ A58.out).mono ?_); rintro e w62 ⟨rfl, hb⟩; refine ⟨_, rfl, ?_⟩; have n0_ := Aside0.mk (blk_below (g := gb121) (o := .cells #[.int .u64 x122000_5, .int .u64 x122001_5] 41 (0, 0)) (by (with_reducible repeat (first | refine blk_drewN ?_ _ | refine blk_drew ?_ | refine blk_alloc ?_ _)); exact BK121.out) hb); have n1_ := Aside0.mk (below_step (by repeat (first | (with_reducible first | exact HB.out | apply below_alloc | apply pw_below_drewN | apply below_drew1 | refine below_set ?_ GE121.out) | exact HB.out)) hb); clear BK121; clear HB; have BK121 := n0_; have HB := n1_; clear n0_ n1_; (try clear hb); (try clear hb2); (try clear hk); (try clear hi); have hcz63_0 : w62.cell? ⟨gb121, 0, none⟩ = some (.int .u64 x122000_5) := (blk_cell BK121.out 0).trans rfl; have hcz63_1 : w62.cell? ⟨gb121, 1, none⟩ = some (.int .u64 x122001_5) := (blk_cell BK121.out 1).trans rfl; have hfz63_0 := blk_frozen BK121.out 0; have hfz63_1 := blk_frozen BK121.out 1) | ((with_reducible refine gate_callee (f := 24) rfl ?_); refine goesL_ (some 113) rfl rfl Tryd.func24 (by kernel_rfl) rfl #[.bool (x4_5 == 1), .agg #[.int .u64 t130, .int .u64 t131]] rfl (by (try simp only [List.map_toArray, List.map_cons, List.map_nil]); first | done | rfl | (simp only [List.length_drop, List.length_take]; rfl)) ?_; (with_reducible refine (cadastreref01_Signed.calls kj50 (x4_5 == 1) t130 t131 t132 t133 _ A59.out).mono ?_); rintro e w64 ⟨rfl, hb⟩; refine ⟨_, rfl, ?_⟩; have n0_ := Aside0.mk (blk_below (g := gb121) (o := .cells #[.int .u64 t130, .int .u64 t131] 41 (0, 0)) (by (with_reducible repeat (first | refine blk_drewN ?_ _ | refine blk_drew ?_ | refine blk_alloc ?_ _)); refine blk_put (cs := #[.int .u64 t130, .int .u64 x122001_5]) ?_ 1 _ rfl; (with_reducible repeat (first | refine blk_drewN ?_ _ | refine blk_drew ?_ | refine blk_alloc ?_ _)); refine blk_put (cs := #[.int .u64 x122000_5, .int .u64 x122001_5]) ?_ 0 _ rfl; (with_reducible repeat (first | refine blk_drewN ?_ _ | refine blk_drew ?_ | refine blk_alloc ?_ _)); exact BK121.out) hb); have n1_ := Aside0.mk (below_step (by repeat (first | (with_reducible first | exact HB.out | apply below_alloc | apply pw_below_drewN | apply below_drew1 | refine below_set ?_ GE121.out) | exact HB.out)) hb); clear BK121; clear HB; have BK121 := n0_; have HB := n1_; clear n0_ n1_; (try clear hb); (try clear hb2); (try clear hk); (try clear hi)))
                                  go_ret2
                                  exact ⟨by first | rfl | (simp [errW_none, errW_some] <;> rfl) | (simp [*, errW_none, errW_some] <;> rfl), by repeat (first | (with_reducible first | exact HB.out | apply below_alloc | apply pw_below_drewN | apply below_drew1 | refine below_set ?_ GE121.out) | exact HB.out)⟩
                                · replace c60 := Bool.eq_false_iff.mpr c60
                                  subst c60
                                  have H1 : (if t133 = true then (some (t132, 1)) else (some (0, 2))) = some (r1, r2) := by rw [if_neg (show ¬ (false = true) by decide)] at H; exact H
                                  clear H
                                  have H := H1
                                  clear H1
                                  by_cases c65 : t133 = true
                                  · subst c65
                                    have H1 : (some (t132, 1)) = some (r1, r2) := by rw [if_pos rfl] at H; exact H
                                    clear H
                                    have H := H1
                                    clear H1
                                    simp only [Option.some.injEq, Prod.mk.injEq] at H
                                    obtain ⟨rfl, rfl⟩ := H
                                    have hcz66_0 : wc.cell? ⟨gb121, 0, none⟩ = some (.int .u64 x122000_5) := (blk_cell BK121.out 0).trans rfl
                                    have hcz66_1 : wc.cell? ⟨gb121, 1, none⟩ = some (.int .u64 x122001_5) := (blk_cell BK121.out 1).trans rfl
                                    have hfz66_0 := blk_frozen BK121.out 0
                                    have hfz66_1 := blk_frozen BK121.out 1
                                    go_wp2_with (first | ((with_reducible refine gate_callee (f := 22) rfl ?_); refine goesL_ (some 108) rfl rfl Tryd.func22 (by kernel_rfl) rfl #[.agg #[.int .u64 x122000_5, .int .u64 x122001_5], .agg #[.int .u64 0, .int .u64 1]] rfl (by (try simp only [List.map_toArray, List.map_cons, List.map_nil]); first | done | rfl | (simp only [List.length_drop, List.length_take]; rfl)) ?_; (with_reducible refine (cadastreref01_PlusW.calls x122000_5 x122001_5 0 1 t130 t131 _ A58.out).mono ?_); rintro e w67 ⟨rfl, hb⟩; refine ⟨_, rfl, ?_⟩; have n0_ := Aside0.mk (blk_below (g := gb121) (o := .cells #[.int .u64 x122000_5, .int .u64 x122001_5] 41 (0, 0)) (by (with_reducible repeat (first | refine blk_drewN ?_ _ | refine blk_drew ?_ | refine blk_alloc ?_ _)); exact BK121.out) hb); have n1_ := Aside0.mk (below_step (by repeat (first | (with_reducible first | exact HB.out | apply below_alloc | apply pw_below_drewN | apply below_drew1 | refine below_set ?_ GE121.out) | exact HB.out)) hb); clear BK121; clear HB; have BK121 := n0_; have HB := n1_; clear n0_ n1_; (try clear hb); (try clear hb2); (try clear hk); (try clear hi); have hcz68_0 : w67.cell? ⟨gb121, 0, none⟩ = some (.int .u64 x122000_5) := (blk_cell BK121.out 0).trans rfl; have hcz68_1 : w67.cell? ⟨gb121, 1, none⟩ = some (.int .u64 x122001_5) := (blk_cell BK121.out 1).trans rfl; have hfz68_0 := blk_frozen BK121.out 0; have hfz68_1 := blk_frozen BK121.out 1) | ((with_reducible refine gate_callee (f := 24) rfl ?_); refine goesL_ (some 113) rfl rfl Tryd.func24 (by kernel_rfl) rfl #[.bool (x4_5 == 1), .agg #[.int .u64 t130, .int .u64 t131]] rfl (by (try simp only [List.map_toArray, List.map_cons, List.map_nil]); first | done | rfl | (simp only [List.length_drop, List.length_take]; rfl)) ?_; (with_reducible refine (cadastreref01_Signed.calls kj50 (x4_5 == 1) t130 t131 t132 true _ A59.out).mono ?_); rintro e w69 ⟨rfl, hb⟩; refine ⟨_, rfl, ?_⟩; have n0_ := Aside0.mk (blk_below (g := gb121) (o := .cells #[.int .u64 t130, .int .u64 t131] 41 (0, 0)) (by (with_reducible repeat (first | refine blk_drewN ?_ _ | refine blk_drew ?_ | refine blk_alloc ?_ _)); refine blk_put (cs := #[.int .u64 t130, .int .u64 x122001_5]) ?_ 1 _ rfl; (with_reducible repeat (first | refine blk_drewN ?_ _ | refine blk_drew ?_ | refine blk_alloc ?_ _)); refine blk_put (cs := #[.int .u64 x122000_5, .int .u64 x122001_5]) ?_ 0 _ rfl; (with_reducible repeat (first | refine blk_drewN ?_ _ | refine blk_drew ?_ | refine blk_alloc ?_ _)); exact BK121.out) hb); have n1_ := Aside0.mk (below_step (by repeat (first | (with_reducible first | exact HB.out | apply below_alloc | apply pw_below_drewN | apply below_drew1 | refine below_set ?_ GE121.out) | exact HB.out)) hb); clear BK121; clear HB; have BK121 := n0_; have HB := n1_; clear n0_ n1_; (try clear hb); (try clear hb2); (try clear hk); (try clear hi)))
                                    go_ret2
                                    exact ⟨by first | rfl | (simp [errW_none, errW_some] <;> rfl) | (simp [*, errW_none, errW_some] <;> rfl), by repeat (first | (with_reducible first | exact HB.out | apply below_alloc | apply pw_below_drewN | apply below_drew1 | refine below_set ?_ GE121.out) | exact HB.out)⟩
                                  · replace c65 := Bool.eq_false_iff.mpr c65
                                    subst c65
                                    have H1 : (some (0, 2)) = some (r1, r2) := by rw [if_neg (show ¬ (false = true) by decide)] at H; exact H
                                    clear H
                                    have H := H1
                                    clear H1
                                    simp only [Option.some.injEq, Prod.mk.injEq] at H
                                    obtain ⟨rfl, rfl⟩ := H
                                    have hcz70_0 : wc.cell? ⟨gb121, 0, none⟩ = some (.int .u64 x122000_5) := (blk_cell BK121.out 0).trans rfl
                                    have hcz70_1 : wc.cell? ⟨gb121, 1, none⟩ = some (.int .u64 x122001_5) := (blk_cell BK121.out 1).trans rfl
                                    have hfz70_0 := blk_frozen BK121.out 0
                                    have hfz70_1 := blk_frozen BK121.out 1
                                    go_wp2_with (first | ((with_reducible refine gate_callee (f := 22) rfl ?_); refine goesL_ (some 108) rfl rfl Tryd.func22 (by kernel_rfl) rfl #[.agg #[.int .u64 x122000_5, .int .u64 x122001_5], .agg #[.int .u64 0, .int .u64 1]] rfl (by (try simp only [List.map_toArray, List.map_cons, List.map_nil]); first | done | rfl | (simp only [List.length_drop, List.length_take]; rfl)) ?_; (with_reducible refine (cadastreref01_PlusW.calls x122000_5 x122001_5 0 1 t130 t131 _ A58.out).mono ?_); rintro e w71 ⟨rfl, hb⟩; refine ⟨_, rfl, ?_⟩; have n0_ := Aside0.mk (blk_below (g := gb121) (o := .cells #[.int .u64 x122000_5, .int .u64 x122001_5] 41 (0, 0)) (by (with_reducible repeat (first | refine blk_drewN ?_ _ | refine blk_drew ?_ | refine blk_alloc ?_ _)); exact BK121.out) hb); have n1_ := Aside0.mk (below_step (by repeat (first | (with_reducible first | exact HB.out | apply below_alloc | apply pw_below_drewN | apply below_drew1 | refine below_set ?_ GE121.out) | exact HB.out)) hb); clear BK121; clear HB; have BK121 := n0_; have HB := n1_; clear n0_ n1_; (try clear hb); (try clear hb2); (try clear hk); (try clear hi); have hcz72_0 : w71.cell? ⟨gb121, 0, none⟩ = some (.int .u64 x122000_5) := (blk_cell BK121.out 0).trans rfl; have hcz72_1 : w71.cell? ⟨gb121, 1, none⟩ = some (.int .u64 x122001_5) := (blk_cell BK121.out 1).trans rfl; have hfz72_0 := blk_frozen BK121.out 0; have hfz72_1 := blk_frozen BK121.out 1) | ((with_reducible refine gate_callee (f := 24) rfl ?_); refine goesL_ (some 113) rfl rfl Tryd.func24 (by kernel_rfl) rfl #[.bool (x4_5 == 1), .agg #[.int .u64 t130, .int .u64 t131]] rfl (by (try simp only [List.map_toArray, List.map_cons, List.map_nil]); first | done | rfl | (simp only [List.length_drop, List.length_take]; rfl)) ?_; (with_reducible refine (cadastreref01_Signed.calls kj50 (x4_5 == 1) t130 t131 t132 false _ A59.out).mono ?_); rintro e w73 ⟨rfl, hb⟩; refine ⟨_, rfl, ?_⟩; have n0_ := Aside0.mk (blk_below (g := gb121) (o := .cells #[.int .u64 t130, .int .u64 t131] 41 (0, 0)) (by (with_reducible repeat (first | refine blk_drewN ?_ _ | refine blk_drew ?_ | refine blk_alloc ?_ _)); refine blk_put (cs := #[.int .u64 t130, .int .u64 x122001_5]) ?_ 1 _ rfl; (with_reducible repeat (first | refine blk_drewN ?_ _ | refine blk_drew ?_ | refine blk_alloc ?_ _)); refine blk_put (cs := #[.int .u64 x122000_5, .int .u64 x122001_5]) ?_ 0 _ rfl; (with_reducible repeat (first | refine blk_drewN ?_ _ | refine blk_drew ?_ | refine blk_alloc ?_ _)); exact BK121.out) hb); have n1_ := Aside0.mk (below_step (by repeat (first | (with_reducible first | exact HB.out | apply below_alloc | apply pw_below_drewN | apply below_drew1 | refine below_set ?_ GE121.out) | exact HB.out)) hb); clear BK121; clear HB; have BK121 := n0_; have HB := n1_; clear n0_ n1_; (try clear hb); (try clear hb2); (try clear hk); (try clear hi)))
                                    go_ret2
                                    exact ⟨by first | rfl | (simp [errW_none, errW_some] <;> rfl) | (simp [*, errW_none, errW_some] <;> rfl), by repeat (first | (with_reducible first | exact HB.out | apply below_alloc | apply pw_below_drewN | apply below_drew1 | refine below_set ?_ GE121.out) | exact HB.out)⟩
                              · replace c57 := Bool.eq_false_iff.mpr c57
                                subst c57
                                have H1 : ((cadastreref01_Signed.f kj50 (x4_5 == 1) x122000_5 x122001_5).bind fun bt134 => (if x8_5 = true then (some (0, 2)) else (if bt134.2 = true then (some (bt134.1, 1)) else (some (0, 2))))) = some (r1, r2) := by rw [if_neg (show ¬ (false = true) by decide)] at H; exact H
                                clear H
                                have H := H1
                                clear H1
                                replace H := Option.bind_eq_some_iff.mp H
                                obtain ⟨⟨t134, t135⟩, A740, H⟩ := H
                                replace H : (if x8_5 = true then (some (0, 2)) else (if t135 = true then (some (t134, 1)) else (some (0, 2)))) = some (r1, r2) := H
                                have A74 := Aside0.mk A740
                                clear A740
                                by_cases c75 : x8_5 = true
                                · subst c75
                                  have H1 : (some (0, 2)) = some (r1, r2) := by rw [if_pos rfl] at H; exact H
                                  clear H
                                  have H := H1
                                  clear H1
                                  simp only [Option.some.injEq, Prod.mk.injEq] at H
                                  obtain ⟨rfl, rfl⟩ := H
                                  have hcz76_0 : wc.cell? ⟨gb121, 0, none⟩ = some (.int .u64 x122000_5) := (blk_cell BK121.out 0).trans rfl
                                  have hcz76_1 : wc.cell? ⟨gb121, 1, none⟩ = some (.int .u64 x122001_5) := (blk_cell BK121.out 1).trans rfl
                                  have hfz76_0 := blk_frozen BK121.out 0
                                  have hfz76_1 := blk_frozen BK121.out 1
                                  go_wp2_with (first | ((with_reducible refine gate_callee (f := 24) rfl ?_); refine goesL_ (some 113) rfl rfl Tryd.func24 (by kernel_rfl) rfl #[.bool (x4_5 == 1), .agg #[.int .u64 x122000_5, .int .u64 x122001_5]] rfl (by (try simp only [List.map_toArray, List.map_cons, List.map_nil]); first | done | rfl | (simp only [List.length_drop, List.length_take]; rfl)) ?_; (with_reducible refine (cadastreref01_Signed.calls kj50 (x4_5 == 1) x122000_5 x122001_5 t134 t135 _ A74.out).mono ?_); rintro e w77 ⟨rfl, hb⟩; refine ⟨_, rfl, ?_⟩; have n0_ := Aside0.mk (blk_below (g := gb121) (o := .cells #[.int .u64 x122000_5, .int .u64 x122001_5] 41 (0, 0)) (by (with_reducible repeat (first | refine blk_drewN ?_ _ | refine blk_drew ?_ | refine blk_alloc ?_ _)); exact BK121.out) hb); have n1_ := Aside0.mk (below_step (by repeat (first | (with_reducible first | exact HB.out | apply below_alloc | apply pw_below_drewN | apply below_drew1 | refine below_set ?_ GE121.out) | exact HB.out)) hb); clear BK121; clear HB; have BK121 := n0_; have HB := n1_; clear n0_ n1_; (try clear hb); (try clear hb2); (try clear hk); (try clear hi)))
                                  go_ret2
                                  exact ⟨by first | rfl | (simp [errW_none, errW_some] <;> rfl) | (simp [*, errW_none, errW_some] <;> rfl), by repeat (first | (with_reducible first | exact HB.out | apply below_alloc | apply pw_below_drewN | apply below_drew1 | refine below_set ?_ GE121.out) | exact HB.out)⟩
                                · replace c75 := Bool.eq_false_iff.mpr c75
                                  subst c75
                                  have H1 : (if t135 = true then (some (t134, 1)) else (some (0, 2))) = some (r1, r2) := by rw [if_neg (show ¬ (false = true) by decide)] at H; exact H
                                  clear H
                                  have H := H1
                                  clear H1
                                  by_cases c78 : t135 = true
                                  · subst c78
                                    have H1 : (some (t134, 1)) = some (r1, r2) := by rw [if_pos rfl] at H; exact H
                                    clear H
                                    have H := H1
                                    clear H1
                                    simp only [Option.some.injEq, Prod.mk.injEq] at H
                                    obtain ⟨rfl, rfl⟩ := H
                                    have hcz79_0 : wc.cell? ⟨gb121, 0, none⟩ = some (.int .u64 x122000_5) := (blk_cell BK121.out 0).trans rfl
                                    have hcz79_1 : wc.cell? ⟨gb121, 1, none⟩ = some (.int .u64 x122001_5) := (blk_cell BK121.out 1).trans rfl
                                    have hfz79_0 := blk_frozen BK121.out 0
                                    have hfz79_1 := blk_frozen BK121.out 1
                                    go_wp2_with (first | ((with_reducible refine gate_callee (f := 24) rfl ?_); refine goesL_ (some 113) rfl rfl Tryd.func24 (by kernel_rfl) rfl #[.bool (x4_5 == 1), .agg #[.int .u64 x122000_5, .int .u64 x122001_5]] rfl (by (try simp only [List.map_toArray, List.map_cons, List.map_nil]); first | done | rfl | (simp only [List.length_drop, List.length_take]; rfl)) ?_; (with_reducible refine (cadastreref01_Signed.calls kj50 (x4_5 == 1) x122000_5 x122001_5 t134 true _ A74.out).mono ?_); rintro e w80 ⟨rfl, hb⟩; refine ⟨_, rfl, ?_⟩; have n0_ := Aside0.mk (blk_below (g := gb121) (o := .cells #[.int .u64 x122000_5, .int .u64 x122001_5] 41 (0, 0)) (by (with_reducible repeat (first | refine blk_drewN ?_ _ | refine blk_drew ?_ | refine blk_alloc ?_ _)); exact BK121.out) hb); have n1_ := Aside0.mk (below_step (by repeat (first | (with_reducible first | exact HB.out | apply below_alloc | apply pw_below_drewN | apply below_drew1 | refine below_set ?_ GE121.out) | exact HB.out)) hb); clear BK121; clear HB; have BK121 := n0_; have HB := n1_; clear n0_ n1_; (try clear hb); (try clear hb2); (try clear hk); (try clear hi)))
                                    go_ret2
                                    exact ⟨by first | rfl | (simp [errW_none, errW_some] <;> rfl) | (simp [*, errW_none, errW_some] <;> rfl), by repeat (first | (with_reducible first | exact HB.out | apply below_alloc | apply pw_below_drewN | apply below_drew1 | refine below_set ?_ GE121.out) | exact HB.out)⟩
                                  · replace c78 := Bool.eq_false_iff.mpr c78
                                    subst c78
                                    have H1 : (some (0, 2)) = some (r1, r2) := by rw [if_neg (show ¬ (false = true) by decide)] at H; exact H
                                    clear H
                                    have H := H1
                                    clear H1
                                    simp only [Option.some.injEq, Prod.mk.injEq] at H
                                    obtain ⟨rfl, rfl⟩ := H
                                    have hcz81_0 : wc.cell? ⟨gb121, 0, none⟩ = some (.int .u64 x122000_5) := (blk_cell BK121.out 0).trans rfl
                                    have hcz81_1 : wc.cell? ⟨gb121, 1, none⟩ = some (.int .u64 x122001_5) := (blk_cell BK121.out 1).trans rfl
                                    have hfz81_0 := blk_frozen BK121.out 0
                                    have hfz81_1 := blk_frozen BK121.out 1
                                    go_wp2_with (first | ((with_reducible refine gate_callee (f := 24) rfl ?_); refine goesL_ (some 113) rfl rfl Tryd.func24 (by kernel_rfl) rfl #[.bool (x4_5 == 1), .agg #[.int .u64 x122000_5, .int .u64 x122001_5]] rfl (by (try simp only [List.map_toArray, List.map_cons, List.map_nil]); first | done | rfl | (simp only [List.length_drop, List.length_take]; rfl)) ?_; (with_reducible refine (cadastreref01_Signed.calls kj50 (x4_5 == 1) x122000_5 x122001_5 t134 false _ A74.out).mono ?_); rintro e w82 ⟨rfl, hb⟩; refine ⟨_, rfl, ?_⟩; have n0_ := Aside0.mk (blk_below (g := gb121) (o := .cells #[.int .u64 x122000_5, .int .u64 x122001_5] 41 (0, 0)) (by (with_reducible repeat (first | refine blk_drewN ?_ _ | refine blk_drew ?_ | refine blk_alloc ?_ _)); exact BK121.out) hb); have n1_ := Aside0.mk (below_step (by repeat (first | (with_reducible first | exact HB.out | apply below_alloc | apply pw_below_drewN | apply below_drew1 | refine below_set ?_ GE121.out) | exact HB.out)) hb); clear BK121; clear HB; have BK121 := n0_; have HB := n1_; clear n0_ n1_; (try clear hb); (try clear hb2); (try clear hk); (try clear hi)))
                                    go_ret2
                                    exact ⟨by first | rfl | (simp [errW_none, errW_some] <;> rfl) | (simp [*, errW_none, errW_some] <;> rfl), by repeat (first | (with_reducible first | exact HB.out | apply below_alloc | apply pw_below_drewN | apply below_drew1 | refine below_set ?_ GE121.out) | exact HB.out)⟩

end Go.Proofs.YtmoohjomkdcdhaaDoor.Y
