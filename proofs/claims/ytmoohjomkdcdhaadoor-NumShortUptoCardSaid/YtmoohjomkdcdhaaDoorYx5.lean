-- Written by xprint.py, a program of this claim's own, over the kit's print: not trusted: Lean checks it.
import Derived.Test.YtmoohjomkdcdhaaDoorYx0
import Derived.Test.YtmoohjomkdcdhaaDoorYx3
namespace Go.Proofs.YtmoohjomkdcdhaaDoor.Y
open Go.RowKit Go.Proofs.YtmoohjomkdcdhaaDoor.X Go.Proofs.YtmoohjomkdcdhaaDoorW.PrintWords Go.Proofs.YtmoohjomkdcdhaaDoorW.PrintLast Go.Proofs.YtmoohjomkdcdhaaDoorW.PrintMore
attribute [local go_sem] max2_int min2_int max_two min_two max_three min_three max_four min_four   -- for this text's walks alone
set_option linter.unusedVariables false
set_option linter.unusedSimpArgs false

/-! ### cadastrelaw03_NumShort: function 7 -/
mutual
def cadastrelaw03_NumShort.j0 : Nat → ByteArray → Bool → Option (Bool)
  | 0, _, _ => none
  | k + 1, x5, x39 => if x39 = true then (some false) else (cadastrelaw03_NumShort.l0 k x5 0)
def cadastrelaw03_NumShort.l0 : Nat → ByteArray → Int → Option (Bool)
  | 0, _, _ => none
  | k + 1, x5, x8 => if x8 < (x5.size : Int) then (if 0 ≤ x8 then (if (bt x5 x8) = 46 then (if 0 ≤ (wrap64 ((x5.size : Int) - 1)) then (if (wrap64 ((x5.size : Int) - 1)) < (x5.size : Int) then (if (bt x5 (wrap64 ((x5.size : Int) - 1))) = 48 then (some false) else (cadastrelaw03_NumShort.l0 k x5 (wrap64 (x8 + 1)))) else (none)) else (none)) else (cadastrelaw03_NumShort.l0 k x5 (wrap64 (x8 + 1)))) else (none)) else (if x5.toList = ([45, 48] : List UInt8) then (some false) else (if (x5.size : Int) < 2 then ((cadastrelaw03_lives.f k).bind fun t189 => (some t189)) else (if 0 < (x5.size : Int) then (if (bt x5 0) = 48 then (if 1 < (x5.size : Int) then (if (bt x5 1) = 46 then ((cadastrelaw03_lives.f k).bind fun t190 => (some t190)) else (some false)) else (none)) else ((cadastrelaw03_lives.f k).bind fun t191 => (some t191))) else (none))))
end
def cadastrelaw03_NumShort.f (k : Nat) (a0 : ByteArray) : Option (Bool) := (num_Parse.f a0).bind fun bt183 => (if bt183.2 = 1 then ((num_Print.f k bt183.1).bind fun t186 => ((num_Parse.f t186).bind fun bt187 => (if bt187.1 = bt183.1 then (if bt187.2 = 1 then (cadastrelaw03_NumShort.j0 k t186 (decide ((t186.size : Int) > 21))) else (cadastrelaw03_NumShort.j0 k t186 true)) else (cadastrelaw03_NumShort.j0 k t186 true)))) else (if bt183.1 = 0 then ((cadastrelaw03_lives.f k).bind fun t185 => (some t185)) else (some false)))
theorem cadastrelaw03_NumShort.mono_l : ∀ k, (∀ y0 y1, LeO (cadastrelaw03_NumShort.j0 k y0 y1) (cadastrelaw03_NumShort.j0 (k + 1) y0 y1)) ∧ (∀ y0 y1, LeO (cadastrelaw03_NumShort.l0 k y0 y1) (cadastrelaw03_NumShort.l0 (k + 1) y0 y1))
  | 0 => ⟨fun _ _ r h => by simp [cadastrelaw03_NumShort.j0] at h, fun _ _ r h => by simp [cadastrelaw03_NumShort.l0] at h⟩
  | k + 1 => by
    obtain ⟨ih0, ih1⟩ := cadastrelaw03_NumShort.mono_l k
    refine ⟨?_, ?_⟩
    · intro y0 y1
      unfold cadastrelaw03_NumShort.j0
      repeat' first
      | (with_reducible exact ih0 _ _)
      | (with_reducible exact ih1 _ _)
      | (with_reducible exact cadastrelaw03_lives.mono _)
      | (with_reducible exact num_Print.mono _ _)
      | (with_reducible exact LeO.refl _)
      | (with_reducible exact LeO.none _)
      | (with_reducible refine LeO.ite ?_ ?_)
      | (with_reducible refine LeO.bind ?_ (fun _ => ?_))
      | exact ih0 _ _
      | exact ih1 _ _
      | exact cadastrelaw03_lives.mono _
      | exact num_Print.mono _ _
      | exact LeO.none _
      | refine LeO.ite ?_ ?_
      | refine LeO.bind ?_ (fun _ => ?_)
    · intro y0 y1
      unfold cadastrelaw03_NumShort.l0
      repeat' first
      | (with_reducible exact ih0 _ _)
      | (with_reducible exact ih1 _ _)
      | (with_reducible exact cadastrelaw03_lives.mono _)
      | (with_reducible exact num_Print.mono _ _)
      | (with_reducible exact LeO.refl _)
      | (with_reducible exact LeO.none _)
      | (with_reducible refine LeO.ite ?_ ?_)
      | (with_reducible refine LeO.bind ?_ (fun _ => ?_))
      | exact ih0 _ _
      | exact ih1 _ _
      | exact cadastrelaw03_lives.mono _
      | exact num_Print.mono _ _
      | exact LeO.none _
      | refine LeO.ite ?_ ?_
      | refine LeO.bind ?_ (fun _ => ?_)
theorem cadastrelaw03_NumShort.mono : ∀ a0 k, LeO (cadastrelaw03_NumShort.f k a0) (cadastrelaw03_NumShort.f (k + 1) a0) := by
  intro a0 k
  obtain ⟨ih0, ih1⟩ := cadastrelaw03_NumShort.mono_l k
  unfold cadastrelaw03_NumShort.f
  repeat' first
      | (with_reducible exact ih0 _ _)
      | (with_reducible exact ih1 _ _)
      | (with_reducible exact cadastrelaw03_lives.mono _)
      | (with_reducible exact num_Print.mono _ _)
      | (with_reducible exact LeO.refl _)
      | (with_reducible exact LeO.none _)
      | (with_reducible refine LeO.ite ?_ ?_)
      | (with_reducible refine LeO.bind ?_ (fun _ => ?_))
      | exact ih0 _ _
      | exact ih1 _ _
      | exact cadastrelaw03_lives.mono _
      | exact num_Print.mono _ _
      | exact LeO.none _
      | refine LeO.ite ?_ ?_
      | refine LeO.bind ?_ (fun _ => ?_)
set_option maxHeartbeats 8000000 in
set_option maxRecDepth 100000 in
theorem cadastrelaw03_NumShort.calls (k : Nat) (a0 : ByteArray) (r : Bool) (w : World) (hG : GoodW w) (h : cadastrelaw03_NumShort.f k a0 = some r) :
    Calls Tryd.prog 7 #[.string a0] w fun e w' => e = .returned (.bool r) ∧ Below w.heap.size w w' := by
  have HB := Aside0.mk (Below.refl w.heap.size w)
  have H : ((num_Parse.f a0).bind fun bt183 => (if bt183.2 = 1 then ((num_Print.f k bt183.1).bind fun t186 => ((num_Parse.f t186).bind fun bt187 => (if bt187.1 = bt183.1 then (if bt187.2 = 1 then (cadastrelaw03_NumShort.j0 k t186 (decide ((t186.size : Int) > 21))) else (cadastrelaw03_NumShort.j0 k t186 true)) else (cadastrelaw03_NumShort.j0 k t186 true)))) else (if bt183.1 = 0 then ((cadastrelaw03_lives.f k).bind fun t185 => (some t185)) else (some false)))) = some r := h
  clear h
  replace H := Option.bind_eq_some_iff.mp H
  obtain ⟨⟨t183, t184⟩, A20, H⟩ := H
  replace H : (if t184 = 1 then ((num_Print.f k t183).bind fun t186 => ((num_Parse.f t186).bind fun bt187 => (if bt187.1 = t183 then (if bt187.2 = 1 then (cadastrelaw03_NumShort.j0 k t186 (decide ((t186.size : Int) > 21))) else (cadastrelaw03_NumShort.j0 k t186 true)) else (cadastrelaw03_NumShort.j0 k t186 true)))) else (if t183 = 0 then ((cadastrelaw03_lives.f k).bind fun t185 => (some t185)) else (some false))) = some r := H
  have A2 := Aside0.mk A20
  clear A20
  by_cases c3 : t184 = 1
  · rw [if_pos c3] at H
    have c3b0 : (t184 == 1) = true := beq_iff_eq.mpr c3
    have c3b1 : (t184 != 1) = false := bne_eq_false_iff_eq.mpr c3
    clear c3
    replace H := Option.bind_eq_some_iff.mp H
    obtain ⟨t186, A40, H⟩ := H
    replace H : ((num_Parse.f t186).bind fun bt187 => (if bt187.1 = t183 then (if bt187.2 = 1 then (cadastrelaw03_NumShort.j0 k t186 (decide ((t186.size : Int) > 21))) else (cadastrelaw03_NumShort.j0 k t186 true)) else (cadastrelaw03_NumShort.j0 k t186 true))) = some r := H
    have A4 := Aside0.mk A40
    clear A40
    replace H := Option.bind_eq_some_iff.mp H
    obtain ⟨⟨t187, t188⟩, A50, H⟩ := H
    replace H : (if t187 = t183 then (if t188 = 1 then (cadastrelaw03_NumShort.j0 k t186 (decide ((t186.size : Int) > 21))) else (cadastrelaw03_NumShort.j0 k t186 true)) else (cadastrelaw03_NumShort.j0 k t186 true)) = some r := H
    have A5 := Aside0.mk A50
    clear A50
    have HC6 := Aside0.mk H
    clear H
    go_enter Tryd.func7, Tryd.ntmps7
    go_upto_region 6 with (first | ((with_reducible refine gate_callee (f := 9) rfl ?_); refine goesL_ (some 11) rfl rfl Tryd.func9 (by kernel_rfl) rfl #[.string a0] rfl (by (try simp only [List.map_toArray, List.map_cons, List.map_nil]); first | done | rfl | (simp only [List.length_drop, List.length_take]; rfl)) ?_; (with_reducible refine (num_Parse.calls a0 t183 t184 _ ?side1 A2.out).mono ?_); (case side1 => exact GoodW.below hG (by repeat (first | (with_reducible first | exact HB.out | apply below_alloc | apply pw_below_drewN | apply below_drew1) | exact HB.out))); rintro e w7 ⟨rfl, hb⟩; refine ⟨_, rfl, ?_⟩; have n0_ := Aside0.mk (below_step (by repeat (first | (with_reducible first | exact HB.out | apply below_alloc | apply pw_below_drewN | apply below_drew1) | exact HB.out)) hb); clear HB; have HB := n0_; clear n0_; (try clear hb); (try clear hb2); (try clear hk); (try clear hi)) | ((with_reducible refine gate_callee (f := 12) rfl ?_); refine goesL_ (some 22) rfl rfl Tryd.func12 (by kernel_rfl) rfl #[.int .i64 t183] rfl (by (try simp only [List.map_toArray, List.map_cons, List.map_nil]); first | done | rfl | (simp only [List.length_drop, List.length_take]; rfl)) ?_; (with_reducible refine (num_Print.calls k t183 t186 _ ?side1 A4.out).mono ?_); (case side1 => exact GoodW.below hG (by repeat (first | (with_reducible first | exact HB.out | apply below_alloc | apply pw_below_drewN | apply below_drew1) | exact HB.out))); rintro e w8 ⟨rfl, hb⟩; refine ⟨_, rfl, ?_⟩; have n0_ := Aside0.mk (below_step (by repeat (first | (with_reducible first | exact HB.out | apply below_alloc | apply pw_below_drewN | apply below_drew1) | exact HB.out)) hb); clear HB; have HB := n0_; clear n0_; (try clear hb); (try clear hb2); (try clear hk); (try clear hi)) | ((with_reducible refine gate_callee (f := 9) rfl ?_); refine goesL_ (some 25) rfl rfl Tryd.func9 (by kernel_rfl) rfl #[.string t186] rfl (by (try simp only [List.map_toArray, List.map_cons, List.map_nil]); first | done | rfl | (simp only [List.length_drop, List.length_take]; rfl)) ?_; (with_reducible refine (num_Parse.calls t186 t187 t188 _ ?side1 A5.out).mono ?_); (case side1 => exact GoodW.below hG (by repeat (first | (with_reducible first | exact HB.out | apply below_alloc | apply pw_below_drewN | apply below_drew1) | exact HB.out))); rintro e w9 ⟨rfl, hb⟩; refine ⟨_, rfl, ?_⟩; have n0_ := Aside0.mk (below_step (by repeat (first | (with_reducible first | exact HB.out | apply below_alloc | apply pw_below_drewN | apply below_drew1) | exact HB.out)) hb); clear HB; have HB := n0_; clear n0_; (try clear hb); (try clear hb2); (try clear hk); (try clear hi)))
    (try simp only [Act.put, List.setIfInBounds_toArray, List.set_cons_zero, List.set_cons_succ])
    go_cut [39] (fun v39 wc => ∃ (kq : Nat) (x39_5 : Bool), v39 = .bool x39_5 ∧ Aside0 (cadastrelaw03_NumShort.j0 kq t186 x39_5 = some r) ∧ Aside0 (kq ≤ k) ∧ Aside0 (Below w.heap.size w wc))
    case first =>
      have H := HC6.out
      clear HC6
      by_cases c10 : t187 = t183
      · rw [if_pos c10] at H
        have c10b0 : (t187 == t183) = true := beq_iff_eq.mpr c10
        have c10b1 : (t187 != t183) = false := bne_eq_false_iff_eq.mpr c10
        clear c10
        (first | rw [c10b0] | (simp only [i64_w, i32_w]; rw [c10b0]) | skip)
        by_cases c11 : t188 = 1
        · rw [if_pos c11] at H
          have c11b0 : (t188 == 1) = true := beq_iff_eq.mpr c11
          have c11b1 : (t188 != 1) = false := bne_eq_false_iff_eq.mpr c11
          clear c11
          have H' := Aside0.mk H
          clear H
          go_wp2
          go_meet
          case rel => exact ⟨_, (decide ((t186.size : Int) > 21)), (by first | rfl | (simp; done) | (simp [*]; done)), H', ⟨by first | omega | exact Nat.le_refl _⟩, ⟨by repeat (first | (with_reducible first | exact HB.out | apply below_alloc | apply pw_below_drewN | apply below_drew1) | exact HB.out)⟩⟩
        · rw [if_neg c11] at H
          have c11b0 : (t188 == 1) = false := beq_eq_false_iff_ne.mpr c11
          have c11b1 : (t188 != 1) = true := bne_iff_ne.mpr c11
          have H' := Aside0.mk H
          clear H
          go_wp2
          go_meet
          case rel => exact ⟨_, (true), (by first | rfl | (simp; done) | (simp [*]; done)), H', ⟨by first | omega | exact Nat.le_refl _⟩, ⟨by repeat (first | (with_reducible first | exact HB.out | apply below_alloc | apply pw_below_drewN | apply below_drew1) | exact HB.out)⟩⟩
      · rw [if_neg c10] at H
        have c10b0 : (t187 == t183) = false := beq_eq_false_iff_ne.mpr c10
        have c10b1 : (t187 != t183) = true := bne_iff_ne.mpr c10
        (first | rw [c10b0] | (simp only [i64_w, i32_w]; rw [c10b0]) | skip)
        have H' := Aside0.mk H
        clear H
        go_wp2
        go_meet
        case rel => exact ⟨_, (true), (by first | rfl | (simp; done) | (simp [*]; done)), H', ⟨by first | omega | exact Nat.le_refl _⟩, ⟨by repeat (first | (with_reducible first | exact HB.out | apply below_alloc | apply pw_below_drewN | apply below_drew1) | exact HB.out)⟩⟩
    case rest =>
      clear HC6
      try clear c1
      try clear p2
      try clear c3
      try clear c3b0
      try clear c3b1
      try clear c7
      try clear c9
      try clear c10
      try clear c10b0
      try clear c10b1
      try clear c11
      try clear c11b0
      try clear c11b1
      obtain ⟨kq, x39_5, rfl, HA, HJ5, HB⟩ := hcut
      cases kq with
      | zero => exact absurd HA.out (by simp [cadastrelaw03_NumShort.j0])
      | succ kj5 =>
        have H := HA.out
        clear HA
        simp only [cadastrelaw03_NumShort.j0] at H
        by_cases c12 : x39_5 = true
        · subst c12
          have H1 : (some false) = some r := by rw [if_pos rfl] at H; exact H
          clear H
          have H := H1
          clear H1
          obtain rfl := Option.some.inj H
          go_wp2
          go_ret
          exact ⟨by first | rfl | (simp [errW_none, errW_some] <;> rfl) | (simp [*, errW_none, errW_some] <;> rfl), by repeat (first | (with_reducible first | exact HB.out | apply below_alloc | apply pw_below_drewN | apply below_drew1) | exact HB.out)⟩
        · replace c12 := Bool.eq_false_iff.mpr c12
          subst c12
          have H1 : (cadastrelaw03_NumShort.l0 kj5 t186 0) = some r := by rw [if_neg (show ¬ (false = true) by decide)] at H; exact H
          clear H
          have H := H1
          clear H1
          have H' := Aside0.mk H
          clear H
          go_wp2
          go_loopg [8] kj5 (fun kq v8 w' => ∃ (x8_2 : Int), v8 = .int .i64 x8_2 ∧ Aside0 (cadastrelaw03_NumShort.l0 kq t186 x8_2 = some r) ∧ Aside0 (kq ≤ kj5) ∧ Aside0 (Below w.heap.size w w'))
          case atStart => exact ⟨(0), (by first | rfl | (simp; done) | (simp [*]; done)), H', ⟨Nat.le_refl _⟩, ⟨by repeat (first | (with_reducible first | exact HB.out | apply below_alloc | apply pw_below_drewN | apply below_drew1) | exact HB.out)⟩⟩
          case round =>
            clear H'
            try clear c1
            try clear p2
            try clear c3
            try clear c3b0
            try clear c3b1
            try clear c7
            try clear c9
            try clear c10
            try clear c10b0
            try clear c10b1
            try clear c11
            try clear c11b0
            try clear c11b1
            try clear c12
            try clear p2
            obtain ⟨x8_2, rfl, HA, HK2, HB⟩ := hrel
            cases gk with
            | zero => exact absurd HA.out (by simp [cadastrelaw03_NumShort.l0])
            | succ k2 =>
              have H := HA.out
              clear HA
              simp only [cadastrelaw03_NumShort.l0] at H
              by_cases c13 : x8_2 < (t186.size : Int)
              · rw [if_pos c13] at H
                have c13b0 : decide (x8_2 < (t186.size : Int)) = true := decide_eq_true c13
                clear c13
                by_cases c14 : 0 ≤ x8_2
                · rw [if_pos c14] at H
                  have c14b0 : decide (0 ≤ x8_2) = true := decide_eq_true c14
                  clear c14
                  by_cases c16 : (bt t186 x8_2) = 46
                  · rw [if_pos c16] at H
                    have c16b0 : ((bt t186 x8_2) == 46) = true := beq_iff_eq.mpr c16
                    have c16b1 : ((bt t186 x8_2) != 46) = false := bne_eq_false_iff_eq.mpr c16
                    clear c16
                    obtain ⟨ji17, hji17⟩ : ∃ j_ : Int, (wrap64 ((t186.size : Int) - 1)) = j_ := ⟨_, rfl⟩
                    replace H : (if 0 ≤ (ji17) then (if (ji17) < (t186.size : Int) then (if (bt t186 (ji17)) = 48 then (some false) else (cadastrelaw03_NumShort.l0 k2 t186 (wrap64 (x8_2 + 1)))) else (none)) else (none)) = some r := by first | (rw [hji17] at H; exact H) | (simp only [hji17] at H ⊢; exact H)
                    have hji17w : (IntKind.i64.wrap ((t186.size : Int) - 1)) = ji17 := (i64_w _).trans hji17
                    by_cases c18 : 0 ≤ (ji17)
                    · rw [if_pos c18] at H
                      have c18b0 : decide (0 ≤ (ji17)) = true := decide_eq_true c18
                      clear c18
                      by_cases c19 : (ji17) < (t186.size : Int)
                      · rw [if_pos c19] at H
                        have c19b0 : decide ((ji17) < (t186.size : Int)) = true := decide_eq_true c19
                        clear c19
                        by_cases c21 : (bt t186 (ji17)) = 48
                        · rw [if_pos c21] at H
                          have c21b0 : ((bt t186 (ji17)) == 48) = true := beq_iff_eq.mpr c21
                          have c21b1 : ((bt t186 (ji17)) != 48) = false := bne_eq_false_iff_eq.mpr c21
                          clear c21
                          obtain rfl := Option.some.inj H
                          have p15 : 0 ≤ (x8_2 : Int) := of_decide_eq_true (by first | (with_reducible assumption) | assumption)
                          have q15 : x8_2 < (t186.size : Int) := of_decide_eq_true (by first | (with_reducible assumption) | assumption)
                          have hx15 := bt_at t186 x8_2
                          replace p15 := eq_true p15
                          replace q15 := eq_true q15
                          have p20 : 0 ≤ ((ji17) : Int) := of_decide_eq_true (by first | (with_reducible assumption) | assumption)
                          have q20 : (ji17) < (t186.size : Int) := of_decide_eq_true (by first | (with_reducible assumption) | assumption)
                          have hx20 := bt_at t186 (ji17)
                          replace p20 := eq_true p20
                          replace q20 := eq_true q20
                          go_wp2
                          go_ret
                          exact ⟨by first | rfl | (simp [errW_none, errW_some] <;> rfl) | (simp only [← hji17]; first | rfl | (simp [errW_none, errW_some] <;> rfl)) | (simp [*, errW_none, errW_some] <;> rfl), by repeat (first | (with_reducible first | exact HB.out | apply below_alloc | apply pw_below_drewN | apply below_drew1) | exact HB.out)⟩
                        · rw [if_neg c21] at H
                          have c21b0 : ((bt t186 (ji17)) == 48) = false := beq_eq_false_iff_ne.mpr c21
                          have c21b1 : ((bt t186 (ji17)) != 48) = true := bne_iff_ne.mpr c21
                          have H' := Aside0.mk H
                          clear H
                          have p15 : 0 ≤ (x8_2 : Int) := of_decide_eq_true (by first | (with_reducible assumption) | assumption)
                          have q15 : x8_2 < (t186.size : Int) := of_decide_eq_true (by first | (with_reducible assumption) | assumption)
                          have hx15 := bt_at t186 x8_2
                          replace p15 := eq_true p15
                          replace q15 := eq_true q15
                          have p20 : 0 ≤ ((ji17) : Int) := of_decide_eq_true (by first | (with_reducible assumption) | assumption)
                          have q20 : (ji17) < (t186.size : Int) := of_decide_eq_true (by first | (with_reducible assumption) | assumption)
                          have hx20 := bt_at t186 (ji17)
                          replace p20 := eq_true p20
                          replace q20 := eq_true q20
                          go_wp2
                          go_roundg k2
                          case measure => have := HJ5.out; have := HK2.out; omega
                          case rel => exact ⟨(wrap64 (x8_2 + 1)), (by first | rfl | (simp; done) | (simp [*]; done)), H', ⟨by have := HJ5.out; have := HK2.out; omega⟩, ⟨by repeat (first | (with_reducible first | exact HB.out | apply below_alloc | apply pw_below_drewN | apply below_drew1) | exact HB.out)⟩⟩
                      · rw [if_neg c19] at H
                        exact absurd H (by simp)
                    · rw [if_neg c18] at H
                      exact absurd H (by simp)
                  · rw [if_neg c16] at H
                    have c16b0 : ((bt t186 x8_2) == 46) = false := beq_eq_false_iff_ne.mpr c16
                    have c16b1 : ((bt t186 x8_2) != 46) = true := bne_iff_ne.mpr c16
                    have H' := Aside0.mk H
                    clear H
                    have p15 : 0 ≤ (x8_2 : Int) := of_decide_eq_true (by first | (with_reducible assumption) | assumption)
                    have q15 : x8_2 < (t186.size : Int) := of_decide_eq_true (by first | (with_reducible assumption) | assumption)
                    have hx15 := bt_at t186 x8_2
                    replace p15 := eq_true p15
                    replace q15 := eq_true q15
                    go_wp2
                    go_roundg k2
                    case measure => have := HJ5.out; have := HK2.out; omega
                    case rel => exact ⟨(wrap64 (x8_2 + 1)), (by first | rfl | (simp; done) | (simp [*]; done)), H', ⟨by have := HJ5.out; have := HK2.out; omega⟩, ⟨by repeat (first | (with_reducible first | exact HB.out | apply below_alloc | apply pw_below_drewN | apply below_drew1) | exact HB.out)⟩⟩
                · rw [if_neg c14] at H
                  exact absurd H (by simp)
              · rw [if_neg c13] at H
                have c13b0 : decide (x8_2 < (t186.size : Int)) = false := decide_eq_false c13
                clear c13
                by_cases c22 : t186.toList = ([45, 48] : List UInt8)
                · rw [if_pos c22] at H
                  have c22b0 : (t186.toList == ([45, 48] : List UInt8)) = true := beq_iff_eq.mpr c22
                  have c22b1 : (t186.toList != ([45, 48] : List UInt8)) = false := bne_eq_false_iff_eq.mpr c22
                  clear c22
                  obtain rfl := Option.some.inj H
                  go_wp2
                  go_ret
                  exact ⟨by first | rfl | (simp [errW_none, errW_some] <;> rfl) | (simp [*, errW_none, errW_some] <;> rfl), by repeat (first | (with_reducible first | exact HB.out | apply below_alloc | apply pw_below_drewN | apply below_drew1) | exact HB.out)⟩
                · rw [if_neg c22] at H
                  have c22b0 : (t186.toList == ([45, 48] : List UInt8)) = false := beq_eq_false_iff_ne.mpr c22
                  have c22b1 : (t186.toList != ([45, 48] : List UInt8)) = true := bne_iff_ne.mpr c22
                  by_cases c23 : (t186.size : Int) < 2
                  · rw [if_pos c23] at H
                    have c23b0 : decide ((t186.size : Int) < 2) = true := decide_eq_true c23
                    have c23b1 : decide (t186.size < 2) = true := decide_eq_true (by omega)
                    clear c23
                    replace H := Option.bind_eq_some_iff.mp H
                    obtain ⟨t189, A240, H⟩ := H
                    replace H : (some t189) = some r := H
                    have A24 := Aside0.mk A240
                    clear A240
                    obtain rfl := Option.some.inj H
                    go_wp2_with (first | (go_at_call 11; (with_reducible refine (cadastrelaw03_lives.calls k2  t189 _ ?side1 A24.out).mono ?_); (case side1 => exact GoodW.below hG (by repeat (first | (with_reducible first | exact HB.out | apply below_alloc | apply pw_below_drewN | apply below_drew1) | exact HB.out))); rintro e w25 ⟨rfl, hb⟩; have n0_ := Aside0.mk (below_step (by repeat (first | (with_reducible first | exact HB.out | apply below_alloc | apply pw_below_drewN | apply below_drew1) | exact HB.out)) hb); clear HB; have HB := n0_; clear n0_; (try clear hb); (try clear hb2); (try clear hk); (try clear hi)))
                    go_ret
                    exact ⟨by first | rfl | (simp [errW_none, errW_some] <;> rfl) | (simp [*, errW_none, errW_some] <;> rfl), by repeat (first | (with_reducible first | exact HB.out | apply below_alloc | apply pw_below_drewN | apply below_drew1) | exact HB.out)⟩
                  · rw [if_neg c23] at H
                    have c23b0 : decide ((t186.size : Int) < 2) = false := decide_eq_false c23
                    have c23b1 : decide (t186.size < 2) = false := decide_eq_false (by omega)
                    clear c23
                    by_cases c26 : 0 < (t186.size : Int)
                    · rw [if_pos c26] at H
                      have c26b0 : decide (0 < (t186.size : Int)) = true := decide_eq_true c26
                      have c26b1 : decide (0 < t186.size) = true := decide_eq_true (by omega)
                      clear c26
                      by_cases c28 : (bt t186 0) = 48
                      · rw [if_pos c28] at H
                        have c28b0 : ((bt t186 0) == 48) = true := beq_iff_eq.mpr c28
                        have c28b1 : ((bt t186 0) != 48) = false := bne_eq_false_iff_eq.mpr c28
                        clear c28
                        by_cases c29 : 1 < (t186.size : Int)
                        · rw [if_pos c29] at H
                          have c29b0 : decide (1 < (t186.size : Int)) = true := decide_eq_true c29
                          have c29b1 : decide (1 < t186.size) = true := decide_eq_true (by omega)
                          clear c29
                          by_cases c31 : (bt t186 1) = 46
                          · rw [if_pos c31] at H
                            have c31b0 : ((bt t186 1) == 46) = true := beq_iff_eq.mpr c31
                            have c31b1 : ((bt t186 1) != 46) = false := bne_eq_false_iff_eq.mpr c31
                            clear c31
                            replace H := Option.bind_eq_some_iff.mp H
                            obtain ⟨t190, A320, H⟩ := H
                            replace H : (some t190) = some r := H
                            have A32 := Aside0.mk A320
                            clear A320
                            obtain rfl := Option.some.inj H
                            have p27 : 0 ≤ (0 : Int) := (by omega)
                            have q27 : 0 < t186.size := (by have : (0 : Int) < (t186.size : Int) := of_decide_eq_true (by first | (with_reducible assumption) | assumption); omega)
                            have hx27 : ∀ h : 0 < t186.size, ((t186[0]'h).toNat : Int) = bt t186 0 := bt_at t186 0
                            clear p27
                            have qi27 : (0 < (t186.size : Int)) = True := eq_true (of_decide_eq_true (by first | (with_reducible assumption) | assumption))
                            replace q27 := eq_true q27
                            have p30 : 0 ≤ (1 : Int) := (by omega)
                            have q30 : 1 < t186.size := (by have : (1 : Int) < (t186.size : Int) := of_decide_eq_true (by first | (with_reducible assumption) | assumption); omega)
                            have hx30 : ∀ h : 1 < t186.size, ((t186[1]'h).toNat : Int) = bt t186 1 := bt_at t186 1
                            clear p30
                            have qi30 : (1 < (t186.size : Int)) = True := eq_true (of_decide_eq_true (by first | (with_reducible assumption) | assumption))
                            replace q30 := eq_true q30
                            go_wp2_with (first | (go_at_call 11; (with_reducible refine (cadastrelaw03_lives.calls k2  t190 _ ?side1 A32.out).mono ?_); (case side1 => exact GoodW.below hG (by repeat (first | (with_reducible first | exact HB.out | apply below_alloc | apply pw_below_drewN | apply below_drew1) | exact HB.out))); rintro e w33 ⟨rfl, hb⟩; have n0_ := Aside0.mk (below_step (by repeat (first | (with_reducible first | exact HB.out | apply below_alloc | apply pw_below_drewN | apply below_drew1) | exact HB.out)) hb); clear HB; have HB := n0_; clear n0_; (try clear hb); (try clear hb2); (try clear hk); (try clear hi)))
                            go_ret
                            exact ⟨by first | rfl | (simp [errW_none, errW_some] <;> rfl) | (simp [*, errW_none, errW_some] <;> rfl), by repeat (first | (with_reducible first | exact HB.out | apply below_alloc | apply pw_below_drewN | apply below_drew1) | exact HB.out)⟩
                          · rw [if_neg c31] at H
                            have c31b0 : ((bt t186 1) == 46) = false := beq_eq_false_iff_ne.mpr c31
                            have c31b1 : ((bt t186 1) != 46) = true := bne_iff_ne.mpr c31
                            obtain rfl := Option.some.inj H
                            have p27 : 0 ≤ (0 : Int) := (by omega)
                            have q27 : 0 < t186.size := (by have : (0 : Int) < (t186.size : Int) := of_decide_eq_true (by first | (with_reducible assumption) | assumption); omega)
                            have hx27 : ∀ h : 0 < t186.size, ((t186[0]'h).toNat : Int) = bt t186 0 := bt_at t186 0
                            clear p27
                            have qi27 : (0 < (t186.size : Int)) = True := eq_true (of_decide_eq_true (by first | (with_reducible assumption) | assumption))
                            replace q27 := eq_true q27
                            have p30 : 0 ≤ (1 : Int) := (by omega)
                            have q30 : 1 < t186.size := (by have : (1 : Int) < (t186.size : Int) := of_decide_eq_true (by first | (with_reducible assumption) | assumption); omega)
                            have hx30 : ∀ h : 1 < t186.size, ((t186[1]'h).toNat : Int) = bt t186 1 := bt_at t186 1
                            clear p30
                            have qi30 : (1 < (t186.size : Int)) = True := eq_true (of_decide_eq_true (by first | (with_reducible assumption) | assumption))
                            replace q30 := eq_true q30
                            go_wp2
                            go_ret
                            exact ⟨by first | rfl | (simp [errW_none, errW_some] <;> rfl) | (simp [*, errW_none, errW_some] <;> rfl), by repeat (first | (with_reducible first | exact HB.out | apply below_alloc | apply pw_below_drewN | apply below_drew1) | exact HB.out)⟩
                        · rw [if_neg c29] at H
                          exact absurd H (by simp)
                      · rw [if_neg c28] at H
                        have c28b0 : ((bt t186 0) == 48) = false := beq_eq_false_iff_ne.mpr c28
                        have c28b1 : ((bt t186 0) != 48) = true := bne_iff_ne.mpr c28
                        replace H := Option.bind_eq_some_iff.mp H
                        obtain ⟨t191, A340, H⟩ := H
                        replace H : (some t191) = some r := H
                        have A34 := Aside0.mk A340
                        clear A340
                        obtain rfl := Option.some.inj H
                        have p27 : 0 ≤ (0 : Int) := (by omega)
                        have q27 : 0 < t186.size := (by have : (0 : Int) < (t186.size : Int) := of_decide_eq_true (by first | (with_reducible assumption) | assumption); omega)
                        have hx27 : ∀ h : 0 < t186.size, ((t186[0]'h).toNat : Int) = bt t186 0 := bt_at t186 0
                        clear p27
                        have qi27 : (0 < (t186.size : Int)) = True := eq_true (of_decide_eq_true (by first | (with_reducible assumption) | assumption))
                        replace q27 := eq_true q27
                        go_wp2_with (first | (go_at_call 11; (with_reducible refine (cadastrelaw03_lives.calls k2  t191 _ ?side1 A34.out).mono ?_); (case side1 => exact GoodW.below hG (by repeat (first | (with_reducible first | exact HB.out | apply below_alloc | apply pw_below_drewN | apply below_drew1) | exact HB.out))); rintro e w35 ⟨rfl, hb⟩; have n0_ := Aside0.mk (below_step (by repeat (first | (with_reducible first | exact HB.out | apply below_alloc | apply pw_below_drewN | apply below_drew1) | exact HB.out)) hb); clear HB; have HB := n0_; clear n0_; (try clear hb); (try clear hb2); (try clear hk); (try clear hi)))
                        go_ret
                        exact ⟨by first | rfl | (simp [errW_none, errW_some] <;> rfl) | (simp [*, errW_none, errW_some] <;> rfl), by repeat (first | (with_reducible first | exact HB.out | apply below_alloc | apply pw_below_drewN | apply below_drew1) | exact HB.out)⟩
                    · rw [if_neg c26] at H
                      exact absurd H (by simp)
  · rw [if_neg c3] at H
    have c3b0 : (t184 == 1) = false := beq_eq_false_iff_ne.mpr c3
    have c3b1 : (t184 != 1) = true := bne_iff_ne.mpr c3
    by_cases c36 : t183 = 0
    · rw [if_pos c36] at H
      have c36b0 : (t183 == 0) = true := beq_iff_eq.mpr c36
      have c36b1 : (t183 != 0) = false := bne_eq_false_iff_eq.mpr c36
      clear c36
      replace H := Option.bind_eq_some_iff.mp H
      obtain ⟨t185, A370, H⟩ := H
      replace H : (some t185) = some r := H
      have A37 := Aside0.mk A370
      clear A370
      obtain rfl := Option.some.inj H
      go_enter Tryd.func7, Tryd.ntmps7
      go_wp2_with (first | ((with_reducible refine gate_callee (f := 9) rfl ?_); refine goesL_ (some 11) rfl rfl Tryd.func9 (by kernel_rfl) rfl #[.string a0] rfl (by (try simp only [List.map_toArray, List.map_cons, List.map_nil]); first | done | rfl | (simp only [List.length_drop, List.length_take]; rfl)) ?_; (with_reducible refine (num_Parse.calls a0 t183 t184 _ ?side1 A2.out).mono ?_); (case side1 => exact GoodW.below hG (by repeat (first | (with_reducible first | exact HB.out | apply below_alloc | apply pw_below_drewN | apply below_drew1) | exact HB.out))); rintro e w38 ⟨rfl, hb⟩; refine ⟨_, rfl, ?_⟩; have n0_ := Aside0.mk (below_step (by repeat (first | (with_reducible first | exact HB.out | apply below_alloc | apply pw_below_drewN | apply below_drew1) | exact HB.out)) hb); clear HB; have HB := n0_; clear n0_; (try clear hb); (try clear hb2); (try clear hk); (try clear hi)) | (go_at_call 11; (with_reducible refine (cadastrelaw03_lives.calls k  t185 _ ?side1 A37.out).mono ?_); (case side1 => exact GoodW.below hG (by repeat (first | (with_reducible first | exact HB.out | apply below_alloc | apply pw_below_drewN | apply below_drew1) | exact HB.out))); rintro e w39 ⟨rfl, hb⟩; have n0_ := Aside0.mk (below_step (by repeat (first | (with_reducible first | exact HB.out | apply below_alloc | apply pw_below_drewN | apply below_drew1) | exact HB.out)) hb); clear HB; have HB := n0_; clear n0_; (try clear hb); (try clear hb2); (try clear hk); (try clear hi)))
      go_ret
      exact ⟨by first | rfl | (simp [errW_none, errW_some] <;> rfl) | (simp [*, errW_none, errW_some] <;> rfl), by repeat (first | (with_reducible first | exact HB.out | apply below_alloc | apply pw_below_drewN | apply below_drew1) | exact HB.out)⟩
    · rw [if_neg c36] at H
      have c36b0 : (t183 == 0) = false := beq_eq_false_iff_ne.mpr c36
      have c36b1 : (t183 != 0) = true := bne_iff_ne.mpr c36
      obtain rfl := Option.some.inj H
      go_enter Tryd.func7, Tryd.ntmps7
      go_wp2_with (first | ((with_reducible refine gate_callee (f := 9) rfl ?_); refine goesL_ (some 11) rfl rfl Tryd.func9 (by kernel_rfl) rfl #[.string a0] rfl (by (try simp only [List.map_toArray, List.map_cons, List.map_nil]); first | done | rfl | (simp only [List.length_drop, List.length_take]; rfl)) ?_; (with_reducible refine (num_Parse.calls a0 t183 t184 _ ?side1 A2.out).mono ?_); (case side1 => exact GoodW.below hG (by repeat (first | (with_reducible first | exact HB.out | apply below_alloc | apply pw_below_drewN | apply below_drew1) | exact HB.out))); rintro e w40 ⟨rfl, hb⟩; refine ⟨_, rfl, ?_⟩; have n0_ := Aside0.mk (below_step (by repeat (first | (with_reducible first | exact HB.out | apply below_alloc | apply pw_below_drewN | apply below_drew1) | exact HB.out)) hb); clear HB; have HB := n0_; clear n0_; (try clear hb); (try clear hb2); (try clear hk); (try clear hi)))
      go_ret
      exact ⟨by first | rfl | (simp [errW_none, errW_some] <;> rfl) | (simp [*, errW_none, errW_some] <;> rfl), by repeat (first | (with_reducible first | exact HB.out | apply below_alloc | apply pw_below_drewN | apply below_drew1) | exact HB.out)⟩

/-! ### cadastrelaw03_most: function 17 -/
def cadastrelaw03_most.f  : Option (Int) := some 40
set_option maxHeartbeats 8000000 in
set_option maxRecDepth 100000 in
theorem cadastrelaw03_most.calls  (r : Int) (w : World) (h : cadastrelaw03_most.f  = some r) :
    Calls Tryd.prog 17 #[] w fun e w' => e = .returned (.int .i64 r) ∧ Drawn0 w w' := by
  have H : (some 40) = some r := h
  clear h
  obtain rfl := Option.some.inj H
  go_enter Tryd.func17, Tryd.ntmps17
  go_wp2
  go_ret
  exact ⟨by first | rfl | (simp; done) | (simp [*]; done), by repeat (first | exact Drawn0.refl _ | apply Drawn0.step)⟩

/-! ### cadastrelaw03_NumLong: function 8 -/
mutual
def cadastrelaw03_NumLong.l0 : Nat → Int → Int → ByteArray → ByteArray → Int → Option (Bool)
  | 0, _, _, _, _, _ => none
  | k + 1, x5, x6, x7, x8, x9 => if x9 < x5 then (if x7.size + 1 ≤ 9223372036854775807 then (cadastrelaw03_NumLong.l0 k x5 x6 (x7 ++ (⟨#[48]⟩ : ByteArray)) x8 (wrap64 (x9 + 1))) else (none)) else (cadastrelaw03_NumLong.l1 k x5 x6 x7 x8 0)
def cadastrelaw03_NumLong.l1 : Nat → Int → Int → ByteArray → ByteArray → Int → Option (Bool)
  | 0, _, _, _, _, _ => none
  | k + 1, x5, x6, x7, x8, x10 => if x10 < x6 then (if x8.size + 1 ≤ 9223372036854775807 then (cadastrelaw03_NumLong.l1 k x5 x6 x7 (x8 ++ (⟨#[49]⟩ : ByteArray)) (wrap64 (x10 + 1))) else (none)) else (if x7.size + 1 ≤ 9223372036854775807 then (if (x7 ++ (⟨#[46]⟩ : ByteArray)).size + x8.size ≤ 9223372036854775807 then ((num_Parse.f ((x7 ++ (⟨#[46]⟩ : ByteArray)) ++ x8)).bind fun bt192 => (if x5 < 1 then (cadastrelaw03_NumLong.j2 k bt192.1 bt192.2 true) else ((cadastrelaw03_most.f).bind fun t194 => (if x5 > t194 then (cadastrelaw03_NumLong.j2 k bt192.1 bt192.2 true) else (if x6 < 1 then (cadastrelaw03_NumLong.j2 k bt192.1 bt192.2 true) else ((cadastrelaw03_most.f).bind fun t195 => (cadastrelaw03_NumLong.j2 k bt192.1 bt192.2 (decide (x6 > t195))))))))) else (none)) else (none))
def cadastrelaw03_NumLong.j2 : Nat → Int → Int → Bool → Option (Bool)
  | 0, _, _, _ => none
  | k + 1, x11, x12, x56 => if x56 = true then (if x12 = 0 then (if x11 = 0 then ((cadastrelaw03_lives.f k).bind fun t196 => (some t196)) else (some false)) else (some false)) else (if x12 = 1 then (if x11 > 0 then (if x11 ≤ 1111 then ((cadastrelaw03_lives.f k).bind fun t197 => (some t197)) else (some false)) else (some false)) else (some false))
end
def cadastrelaw03_NumLong.f (k : Nat) (a0 : Int) (a1 : Int) : Option (Bool) := cadastrelaw03_NumLong.l0 k (wrap64 (Int.tmod a0 50)) (wrap64 (Int.tmod a1 50)) (⟨#[]⟩ : ByteArray) (⟨#[]⟩ : ByteArray) 0
theorem cadastrelaw03_NumLong.mono_l : ∀ k, (∀ y0 y1 y2 y3 y4, LeO (cadastrelaw03_NumLong.l0 k y0 y1 y2 y3 y4) (cadastrelaw03_NumLong.l0 (k + 1) y0 y1 y2 y3 y4)) ∧ (∀ y0 y1 y2 y3 y4, LeO (cadastrelaw03_NumLong.l1 k y0 y1 y2 y3 y4) (cadastrelaw03_NumLong.l1 (k + 1) y0 y1 y2 y3 y4)) ∧ (∀ y0 y1 y2, LeO (cadastrelaw03_NumLong.j2 k y0 y1 y2) (cadastrelaw03_NumLong.j2 (k + 1) y0 y1 y2))
  | 0 => ⟨fun _ _ _ _ _ r h => by simp [cadastrelaw03_NumLong.l0] at h, fun _ _ _ _ _ r h => by simp [cadastrelaw03_NumLong.l1] at h, fun _ _ _ r h => by simp [cadastrelaw03_NumLong.j2] at h⟩
  | k + 1 => by
    obtain ⟨ih0, ih1, ih2⟩ := cadastrelaw03_NumLong.mono_l k
    refine ⟨?_, ?_, ?_⟩
    · intro y0 y1 y2 y3 y4
      unfold cadastrelaw03_NumLong.l0
      repeat' first
      | (with_reducible exact ih0 _ _ _ _ _)
      | (with_reducible exact ih1 _ _ _ _ _)
      | (with_reducible exact ih2 _ _ _)
      | (with_reducible exact cadastrelaw03_lives.mono _)
      | (with_reducible exact LeO.refl _)
      | (with_reducible exact LeO.none _)
      | (with_reducible refine LeO.ite ?_ ?_)
      | (with_reducible refine LeO.bind ?_ (fun _ => ?_))
      | exact ih0 _ _ _ _ _
      | exact ih1 _ _ _ _ _
      | exact ih2 _ _ _
      | exact cadastrelaw03_lives.mono _
      | exact LeO.none _
      | refine LeO.ite ?_ ?_
      | refine LeO.bind ?_ (fun _ => ?_)
    · intro y0 y1 y2 y3 y4
      unfold cadastrelaw03_NumLong.l1
      repeat' first
      | (with_reducible exact ih0 _ _ _ _ _)
      | (with_reducible exact ih1 _ _ _ _ _)
      | (with_reducible exact ih2 _ _ _)
      | (with_reducible exact cadastrelaw03_lives.mono _)
      | (with_reducible exact LeO.refl _)
      | (with_reducible exact LeO.none _)
      | (with_reducible refine LeO.ite ?_ ?_)
      | (with_reducible refine LeO.bind ?_ (fun _ => ?_))
      | exact ih0 _ _ _ _ _
      | exact ih1 _ _ _ _ _
      | exact ih2 _ _ _
      | exact cadastrelaw03_lives.mono _
      | exact LeO.none _
      | refine LeO.ite ?_ ?_
      | refine LeO.bind ?_ (fun _ => ?_)
    · intro y0 y1 y2
      unfold cadastrelaw03_NumLong.j2
      repeat' first
      | (with_reducible exact ih0 _ _ _ _ _)
      | (with_reducible exact ih1 _ _ _ _ _)
      | (with_reducible exact ih2 _ _ _)
      | (with_reducible exact cadastrelaw03_lives.mono _)
      | (with_reducible exact LeO.refl _)
      | (with_reducible exact LeO.none _)
      | (with_reducible refine LeO.ite ?_ ?_)
      | (with_reducible refine LeO.bind ?_ (fun _ => ?_))
      | exact ih0 _ _ _ _ _
      | exact ih1 _ _ _ _ _
      | exact ih2 _ _ _
      | exact cadastrelaw03_lives.mono _
      | exact LeO.none _
      | refine LeO.ite ?_ ?_
      | refine LeO.bind ?_ (fun _ => ?_)
theorem cadastrelaw03_NumLong.mono : ∀ a0 a1 k, LeO (cadastrelaw03_NumLong.f k a0 a1) (cadastrelaw03_NumLong.f (k + 1) a0 a1) := by
  intro a0 a1 k
  obtain ⟨ih0, ih1, ih2⟩ := cadastrelaw03_NumLong.mono_l k
  unfold cadastrelaw03_NumLong.f
  repeat' first
      | (with_reducible exact ih0 _ _ _ _ _)
      | (with_reducible exact ih1 _ _ _ _ _)
      | (with_reducible exact ih2 _ _ _)
      | (with_reducible exact cadastrelaw03_lives.mono _)
      | (with_reducible exact LeO.refl _)
      | (with_reducible exact LeO.none _)
      | (with_reducible refine LeO.ite ?_ ?_)
      | (with_reducible refine LeO.bind ?_ (fun _ => ?_))
      | exact ih0 _ _ _ _ _
      | exact ih1 _ _ _ _ _
      | exact ih2 _ _ _
      | exact cadastrelaw03_lives.mono _
      | exact LeO.none _
      | refine LeO.ite ?_ ?_
      | refine LeO.bind ?_ (fun _ => ?_)
set_option maxHeartbeats 8000000 in
set_option maxRecDepth 100000 in
theorem cadastrelaw03_NumLong.calls (k : Nat) (a0 : Int) (a1 : Int) (r : Bool) (w : World) (hG : GoodW w) (h : cadastrelaw03_NumLong.f k a0 a1 = some r) :
    Calls Tryd.prog 8 #[.int .u8 a0, .int .u8 a1] w fun e w' => e = .returned (.bool r) ∧ Below w.heap.size w w' := by
  have HB := Aside0.mk (Below.refl w.heap.size w)
  have H : (cadastrelaw03_NumLong.l0 k (wrap64 (Int.tmod a0 50)) (wrap64 (Int.tmod a1 50)) (⟨#[]⟩ : ByteArray) (⟨#[]⟩ : ByteArray) 0) = some r := h
  clear h
  have H' := Aside0.mk H
  clear H
  go_enter Tryd.func8, Tryd.ntmps8
  go_wp2
  go_loopg [7, 9] k (fun kq v7 v9 w' => ∃ (x7_1 : ByteArray) (x9_1 : Int), v7 = .string x7_1 ∧ v9 = .int .i64 x9_1 ∧ Aside0 (cadastrelaw03_NumLong.l0 kq (wrap64 (Int.tmod a0 50)) (wrap64 (Int.tmod a1 50)) x7_1 (⟨#[]⟩ : ByteArray) x9_1 = some r) ∧ Aside0 (kq ≤ k) ∧ Aside0 (Below w.heap.size w w'))
  case atStart => exact ⟨((⟨#[]⟩ : ByteArray)), (0), (by first | rfl | (simp; done) | (simp [*]; done)), (by first | rfl | (simp; done) | (simp [*]; done)), H', ⟨Nat.le_refl _⟩, ⟨by repeat (first | (with_reducible first | exact HB.out | apply below_alloc | apply pw_below_drewN | apply below_drew1) | exact HB.out)⟩⟩
  case round =>
    clear H'
    try clear p2
    obtain ⟨x7_1, x9_1, rfl, rfl, HA, HK1, HB⟩ := hrel
    cases gk with
    | zero => exact absurd HA.out (by simp [cadastrelaw03_NumLong.l0])
    | succ k1 =>
      have H := HA.out
      clear HA
      simp only [cadastrelaw03_NumLong.l0] at H
      by_cases c3 : x9_1 < (wrap64 (Int.tmod a0 50))
      · rw [if_pos c3] at H
        have c3b0 : decide (x9_1 < (wrap64 (Int.tmod a0 50))) = true := decide_eq_true c3
        clear c3
        by_cases c4 : x7_1.size + 1 ≤ 9223372036854775807
        · rw [if_pos c4] at H
          have c4b0 := eq_true c4
          have c4b1 : decide (x7_1.size + 1 ≤ 9223372036854775807) = true := decide_eq_true c4
          try have c4b2 : (9223372036854775807 < x7_1.size + 1) = False := eq_false (Nat.not_lt.2 c4)
          have H' := Aside0.mk H
          clear H
          go_wp2
          go_roundg k1
          case measure => have := HK1.out; omega
          case rel => exact ⟨(x7_1 ++ (⟨#[48]⟩ : ByteArray)), (wrap64 (x9_1 + 1)), (by first | rfl | (simp; done) | (simp [*]; done)), (by first | rfl | (simp; done) | (simp [*]; done)), H', ⟨by have := HK1.out; omega⟩, ⟨by repeat (first | (with_reducible first | exact HB.out | apply below_alloc | apply pw_below_drewN | apply below_drew1) | exact HB.out)⟩⟩
        · rw [if_neg c4] at H
          exact absurd H (by simp)
      · rw [if_neg c3] at H
        have c3b0 : decide (x9_1 < (wrap64 (Int.tmod a0 50))) = false := decide_eq_false c3
        clear c3
        have H' := Aside0.mk H
        clear H
        go_wp2
        go_loopg [8, 10] k1 (fun kq v8 v10 w' => ∃ (x8_2 : ByteArray) (x10_2 : Int), v8 = .string x8_2 ∧ v10 = .int .i64 x10_2 ∧ Aside0 (cadastrelaw03_NumLong.l1 kq (wrap64 (Int.tmod a0 50)) (wrap64 (Int.tmod a1 50)) x7_1 x8_2 x10_2 = some r) ∧ Aside0 (kq ≤ k1) ∧ Aside0 (Below w.heap.size w w'))
        case atStart => exact ⟨((⟨#[]⟩ : ByteArray)), (0), (by first | rfl | (simp; done) | (simp [*]; done)), (by first | rfl | (simp; done) | (simp [*]; done)), H', ⟨Nat.le_refl _⟩, ⟨by repeat (first | (with_reducible first | exact HB.out | apply below_alloc | apply pw_below_drewN | apply below_drew1) | exact HB.out)⟩⟩
        case round =>
          clear H'
          try clear p2
          try clear c3
          try clear c3b0
          try clear c4
          try clear c4b0
          try clear c4b1
          try clear c4b2
          try clear p2
          obtain ⟨x8_2, x10_2, rfl, rfl, HA, HK2, HB⟩ := hrel
          cases gk with
          | zero => exact absurd HA.out (by simp [cadastrelaw03_NumLong.l1])
          | succ k2 =>
            have H := HA.out
            clear HA
            simp only [cadastrelaw03_NumLong.l1] at H
            by_cases c5 : x10_2 < (wrap64 (Int.tmod a1 50))
            · rw [if_pos c5] at H
              have c5b0 : decide (x10_2 < (wrap64 (Int.tmod a1 50))) = true := decide_eq_true c5
              clear c5
              by_cases c6 : x8_2.size + 1 ≤ 9223372036854775807
              · rw [if_pos c6] at H
                have c6b0 := eq_true c6
                have c6b1 : decide (x8_2.size + 1 ≤ 9223372036854775807) = true := decide_eq_true c6
                try have c6b2 : (9223372036854775807 < x8_2.size + 1) = False := eq_false (Nat.not_lt.2 c6)
                have H' := Aside0.mk H
                clear H
                go_wp2
                go_roundg k2
                case measure => have := HK1.out; have := HK2.out; omega
                case rel => exact ⟨(x8_2 ++ (⟨#[49]⟩ : ByteArray)), (wrap64 (x10_2 + 1)), (by first | rfl | (simp; done) | (simp [*]; done)), (by first | rfl | (simp; done) | (simp [*]; done)), H', ⟨by have := HK1.out; have := HK2.out; omega⟩, ⟨by repeat (first | (with_reducible first | exact HB.out | apply below_alloc | apply pw_below_drewN | apply below_drew1) | exact HB.out)⟩⟩
              · rw [if_neg c6] at H
                exact absurd H (by simp)
            · rw [if_neg c5] at H
              have c5b0 : decide (x10_2 < (wrap64 (Int.tmod a1 50))) = false := decide_eq_false c5
              clear c5
              by_cases c7 : x7_1.size + 1 ≤ 9223372036854775807
              · rw [if_pos c7] at H
                have c7b0 := eq_true c7
                have c7b1 : decide (x7_1.size + 1 ≤ 9223372036854775807) = true := decide_eq_true c7
                try have c7b2 : (9223372036854775807 < x7_1.size + 1) = False := eq_false (Nat.not_lt.2 c7)
                by_cases c8 : (x7_1 ++ (⟨#[46]⟩ : ByteArray)).size + x8_2.size ≤ 9223372036854775807
                · rw [if_pos c8] at H
                  have c8b0 := eq_true c8
                  have c8b1 : decide ((x7_1 ++ (⟨#[46]⟩ : ByteArray)).size + x8_2.size ≤ 9223372036854775807) = true := decide_eq_true c8
                  try have c8b2 : (9223372036854775807 < (x7_1 ++ (⟨#[46]⟩ : ByteArray)).size + x8_2.size) = False := eq_false (Nat.not_lt.2 c8)
                  have c8b3 : (9223372036854775807 < x7_1.size + 1 + x8_2.size) = False := by refine eq_false (Nat.not_lt.2 (Nat.le_trans (Nat.le_of_eq ?_) c8)); first | ((try simp only [ByteArray.size_append]); rfl) | (simp [ByteArray.size_append]; done)
                  replace H := Option.bind_eq_some_iff.mp H
                  obtain ⟨⟨t192, t193⟩, A90, H⟩ := H
                  replace H : (if (wrap64 (Int.tmod a0 50)) < 1 then (cadastrelaw03_NumLong.j2 k2 t192 t193 true) else ((cadastrelaw03_most.f).bind fun t194 => (if (wrap64 (Int.tmod a0 50)) > t194 then (cadastrelaw03_NumLong.j2 k2 t192 t193 true) else (if (wrap64 (Int.tmod a1 50)) < 1 then (cadastrelaw03_NumLong.j2 k2 t192 t193 true) else ((cadastrelaw03_most.f).bind fun t195 => (cadastrelaw03_NumLong.j2 k2 t192 t193 (decide ((wrap64 (Int.tmod a1 50)) > t195)))))))) = some r := H
                  have A9 := Aside0.mk A90
                  clear A90
                  have HC10 := Aside0.mk H
                  clear H
                  go_upto_region 12 with (first | ((with_reducible refine gate_callee (f := 9) rfl ?_); refine goesL_ (some 38) rfl rfl Tryd.func9 (by kernel_rfl) rfl #[.string ((x7_1 ++ (⟨#[46]⟩ : ByteArray)) ++ x8_2)] rfl (by (try simp only [List.map_toArray, List.map_cons, List.map_nil]); first | done | rfl | (simp only [List.length_drop, List.length_take]; rfl)) ?_; (with_reducible refine (num_Parse.calls ((x7_1 ++ (⟨#[46]⟩ : ByteArray)) ++ x8_2) t192 t193 _ ?side1 A9.out).mono ?_); (case side1 => exact GoodW.below hG (by repeat (first | (with_reducible first | exact HB.out | apply below_alloc | apply pw_below_drewN | apply below_drew1) | exact HB.out))); rintro e w11 ⟨rfl, hb⟩; refine ⟨_, rfl, ?_⟩; have n0_ := Aside0.mk (below_step (by repeat (first | (with_reducible first | exact HB.out | apply below_alloc | apply pw_below_drewN | apply below_drew1) | exact HB.out)) hb); clear HB; have HB := n0_; clear n0_; (try clear hb); (try clear hb2); (try clear hk); (try clear hi)))
                  (try simp only [Act.put, List.setIfInBounds_toArray, List.set_cons_zero, List.set_cons_succ])
                  go_cut [56] (fun v56 wc => ∃ (kq : Nat) (x56_9 : Bool), v56 = .bool x56_9 ∧ Aside0 (cadastrelaw03_NumLong.j2 kq t192 t193 x56_9 = some r) ∧ Aside0 (kq ≤ k2) ∧ Aside0 (Below w.heap.size w wc))
                  case first =>
                    have H := HC10.out
                    clear HC10
                    by_cases c12 : (wrap64 (Int.tmod a0 50)) < 1
                    · rw [if_pos c12] at H
                      have c12b0 : decide ((wrap64 (Int.tmod a0 50)) < 1) = true := decide_eq_true c12
                      clear c12
                      (first | rw [c12b0] | (simp only [i64_w, i32_w]; rw [c12b0]) | skip)
                      have H' := Aside0.mk H
                      clear H
                      go_wp2
                      go_meet
                      case rel => exact ⟨_, (true), (by first | rfl | (simp; done) | (simp [*]; done)), H', ⟨by have := HK1.out; have := HK2.out; first | omega | exact Nat.le_refl _⟩, ⟨by repeat (first | (with_reducible first | exact HB.out | apply below_alloc | apply pw_below_drewN | apply below_drew1) | exact HB.out)⟩⟩
                    · rw [if_neg c12] at H
                      have c12b0 : decide ((wrap64 (Int.tmod a0 50)) < 1) = false := decide_eq_false c12
                      clear c12
                      (first | rw [c12b0] | (simp only [i64_w, i32_w]; rw [c12b0]) | skip)
                      replace H := Option.bind_eq_some_iff.mp H
                      obtain ⟨t194, A130, H⟩ := H
                      replace H : (if (wrap64 (Int.tmod a0 50)) > t194 then (cadastrelaw03_NumLong.j2 k2 t192 t193 true) else (if (wrap64 (Int.tmod a1 50)) < 1 then (cadastrelaw03_NumLong.j2 k2 t192 t193 true) else ((cadastrelaw03_most.f).bind fun t195 => (cadastrelaw03_NumLong.j2 k2 t192 t193 (decide ((wrap64 (Int.tmod a1 50)) > t195)))))) = some r := H
                      have A13 := Aside0.mk A130
                      clear A130
                      by_cases c14 : (wrap64 (Int.tmod a0 50)) > t194
                      · rw [if_pos c14] at H
                        have c14b0 : decide (t194 < (wrap64 (Int.tmod a0 50))) = true := decide_eq_true c14
                        clear c14
                        have H' := Aside0.mk H
                        clear H
                        go_wp2_with (first | (go_at_call 17; (with_reducible refine (cadastrelaw03_most.calls  t194 _ A13.out).mono ?_); rintro e w' ⟨rfl, ⟨nd, rfl⟩⟩))
                        go_meet
                        case rel => exact ⟨_, (true), (by first | rfl | (simp; done) | (simp [*]; done)), H', ⟨by have := HK1.out; have := HK2.out; first | omega | exact Nat.le_refl _⟩, ⟨by repeat (first | (with_reducible first | exact HB.out | apply below_alloc | apply pw_below_drewN | apply below_drew1) | exact HB.out)⟩⟩
                      · rw [if_neg c14] at H
                        have c14b0 : decide (t194 < (wrap64 (Int.tmod a0 50))) = false := decide_eq_false c14
                        clear c14
                        by_cases c15 : (wrap64 (Int.tmod a1 50)) < 1
                        · rw [if_pos c15] at H
                          have c15b0 : decide ((wrap64 (Int.tmod a1 50)) < 1) = true := decide_eq_true c15
                          clear c15
                          have H' := Aside0.mk H
                          clear H
                          go_wp2_with (first | (go_at_call 17; (with_reducible refine (cadastrelaw03_most.calls  t194 _ A13.out).mono ?_); rintro e w' ⟨rfl, ⟨nd, rfl⟩⟩))
                          go_meet
                          case rel => exact ⟨_, (true), (by first | rfl | (simp; done) | (simp [*]; done)), H', ⟨by have := HK1.out; have := HK2.out; first | omega | exact Nat.le_refl _⟩, ⟨by repeat (first | (with_reducible first | exact HB.out | apply below_alloc | apply pw_below_drewN | apply below_drew1) | exact HB.out)⟩⟩
                        · rw [if_neg c15] at H
                          have c15b0 : decide ((wrap64 (Int.tmod a1 50)) < 1) = false := decide_eq_false c15
                          clear c15
                          replace H := Option.bind_eq_some_iff.mp H
                          obtain ⟨t195, A160, H⟩ := H
                          replace H : (cadastrelaw03_NumLong.j2 k2 t192 t193 (decide ((wrap64 (Int.tmod a1 50)) > t195))) = some r := H
                          have A16 := Aside0.mk A160
                          clear A160
                          have H' := Aside0.mk H
                          clear H
                          have etw1 : t195 = t194 := Option.some.inj (A16.out.symm.trans A13.out)
                          go_wp2_with (first | (go_at_call 17; (with_reducible refine (cadastrelaw03_most.calls  t194 _ A13.out).mono ?_); rintro e w' ⟨rfl, ⟨nd, rfl⟩⟩) | (go_at_call 17; (with_reducible refine (cadastrelaw03_most.calls  t195 _ A16.out).mono ?_); rintro e w' ⟨rfl, ⟨nd, rfl⟩⟩))
                          go_meet
                          case rel => exact ⟨_, (decide ((wrap64 (Int.tmod a1 50)) > t195)), (by first | rfl | (simp; done) | (simp [*]; done)), H', ⟨by have := HK1.out; have := HK2.out; first | omega | exact Nat.le_refl _⟩, ⟨by repeat (first | (with_reducible first | exact HB.out | apply below_alloc | apply pw_below_drewN | apply below_drew1) | exact HB.out)⟩⟩
                  case rest =>
                    clear HC10
                    try clear c1
                    try clear p2
                    try clear c3
                    try clear c3b0
                    try clear c4
                    try clear c4b0
                    try clear c4b1
                    try clear c4b2
                    try clear c5
                    try clear c5b0
                    try clear c6
                    try clear c6b0
                    try clear c6b1
                    try clear c6b2
                    try clear p6
                    try clear c7
                    try clear c7b0
                    try clear c7b1
                    try clear c7b2
                    try clear c8
                    try clear c8b0
                    try clear c8b1
                    try clear c8b2
                    try clear c9
                    try clear c12
                    try clear c12b0
                    try clear c14
                    try clear c14b0
                    try clear c15
                    try clear c15b0
                    try clear p2
                    obtain ⟨kq, x56_9, rfl, HA, HJ9, HB⟩ := hcut
                    cases kq with
                    | zero => exact absurd HA.out (by simp [cadastrelaw03_NumLong.j2])
                    | succ kj9 =>
                      have H := HA.out
                      clear HA
                      simp only [cadastrelaw03_NumLong.j2] at H
                      by_cases c17 : x56_9 = true
                      · subst c17
                        have H1 : (if t193 = 0 then (if t192 = 0 then ((cadastrelaw03_lives.f kj9).bind fun t196 => (some t196)) else (some false)) else (some false)) = some r := by rw [if_pos rfl] at H; exact H
                        clear H
                        have H := H1
                        clear H1
                        by_cases c18 : t193 = 0
                        · rw [if_pos c18] at H
                          have c18b0 : (t193 == 0) = true := beq_iff_eq.mpr c18
                          have c18b1 : (t193 != 0) = false := bne_eq_false_iff_eq.mpr c18
                          clear c18
                          by_cases c19 : t192 = 0
                          · rw [if_pos c19] at H
                            have c19b0 : (t192 == 0) = true := beq_iff_eq.mpr c19
                            have c19b1 : (t192 != 0) = false := bne_eq_false_iff_eq.mpr c19
                            clear c19
                            replace H := Option.bind_eq_some_iff.mp H
                            obtain ⟨t196, A200, H⟩ := H
                            replace H : (some t196) = some r := H
                            have A20 := Aside0.mk A200
                            clear A200
                            obtain rfl := Option.some.inj H
                            go_wp2_with (first | (go_at_call 11; (with_reducible refine (cadastrelaw03_lives.calls kj9  t196 _ ?side1 A20.out).mono ?_); (case side1 => exact GoodW.below hG (by repeat (first | (with_reducible first | exact HB.out | apply below_alloc | apply pw_below_drewN | apply below_drew1) | exact HB.out))); rintro e w21 ⟨rfl, hb⟩; have n0_ := Aside0.mk (below_step (by repeat (first | (with_reducible first | exact HB.out | apply below_alloc | apply pw_below_drewN | apply below_drew1) | exact HB.out)) hb); clear HB; have HB := n0_; clear n0_; (try clear hb); (try clear hb2); (try clear hk); (try clear hi)))
                            go_ret
                            exact ⟨by first | rfl | (simp [errW_none, errW_some] <;> rfl) | (simp [*, errW_none, errW_some] <;> rfl), by repeat (first | (with_reducible first | exact HB.out | apply below_alloc | apply pw_below_drewN | apply below_drew1) | exact HB.out)⟩
                          · rw [if_neg c19] at H
                            have c19b0 : (t192 == 0) = false := beq_eq_false_iff_ne.mpr c19
                            have c19b1 : (t192 != 0) = true := bne_iff_ne.mpr c19
                            obtain rfl := Option.some.inj H
                            go_wp2
                            go_ret
                            exact ⟨by first | rfl | (simp [errW_none, errW_some] <;> rfl) | (simp [*, errW_none, errW_some] <;> rfl), by repeat (first | (with_reducible first | exact HB.out | apply below_alloc | apply pw_below_drewN | apply below_drew1) | exact HB.out)⟩
                        · rw [if_neg c18] at H
                          have c18b0 : (t193 == 0) = false := beq_eq_false_iff_ne.mpr c18
                          have c18b1 : (t193 != 0) = true := bne_iff_ne.mpr c18
                          obtain rfl := Option.some.inj H
                          go_wp2
                          go_ret
                          exact ⟨by first | rfl | (simp [errW_none, errW_some] <;> rfl) | (simp [*, errW_none, errW_some] <;> rfl), by repeat (first | (with_reducible first | exact HB.out | apply below_alloc | apply pw_below_drewN | apply below_drew1) | exact HB.out)⟩
                      · replace c17 := Bool.eq_false_iff.mpr c17
                        subst c17
                        have H1 : (if t193 = 1 then (if t192 > 0 then (if t192 ≤ 1111 then ((cadastrelaw03_lives.f kj9).bind fun t197 => (some t197)) else (some false)) else (some false)) else (some false)) = some r := by rw [if_neg (show ¬ (false = true) by decide)] at H; exact H
                        clear H
                        have H := H1
                        clear H1
                        by_cases c22 : t193 = 1
                        · rw [if_pos c22] at H
                          have c22b0 : (t193 == 1) = true := beq_iff_eq.mpr c22
                          have c22b1 : (t193 != 1) = false := bne_eq_false_iff_eq.mpr c22
                          clear c22
                          by_cases c23 : t192 > 0
                          · rw [if_pos c23] at H
                            have c23b0 : decide (0 < t192) = true := decide_eq_true c23
                            clear c23
                            by_cases c24 : t192 ≤ 1111
                            · rw [if_pos c24] at H
                              have c24b0 : decide (t192 ≤ 1111) = true := decide_eq_true c24
                              clear c24
                              replace H := Option.bind_eq_some_iff.mp H
                              obtain ⟨t197, A250, H⟩ := H
                              replace H : (some t197) = some r := H
                              have A25 := Aside0.mk A250
                              clear A250
                              obtain rfl := Option.some.inj H
                              go_wp2_with (first | (go_at_call 11; (with_reducible refine (cadastrelaw03_lives.calls kj9  t197 _ ?side1 A25.out).mono ?_); (case side1 => exact GoodW.below hG (by repeat (first | (with_reducible first | exact HB.out | apply below_alloc | apply pw_below_drewN | apply below_drew1) | exact HB.out))); rintro e w26 ⟨rfl, hb⟩; have n0_ := Aside0.mk (below_step (by repeat (first | (with_reducible first | exact HB.out | apply below_alloc | apply pw_below_drewN | apply below_drew1) | exact HB.out)) hb); clear HB; have HB := n0_; clear n0_; (try clear hb); (try clear hb2); (try clear hk); (try clear hi)))
                              go_ret
                              exact ⟨by first | rfl | (simp [errW_none, errW_some] <;> rfl) | (simp [*, errW_none, errW_some] <;> rfl), by repeat (first | (with_reducible first | exact HB.out | apply below_alloc | apply pw_below_drewN | apply below_drew1) | exact HB.out)⟩
                            · rw [if_neg c24] at H
                              have c24b0 : decide (t192 ≤ 1111) = false := decide_eq_false c24
                              clear c24
                              obtain rfl := Option.some.inj H
                              go_wp2
                              go_ret
                              exact ⟨by first | rfl | (simp [errW_none, errW_some] <;> rfl) | (simp [*, errW_none, errW_some] <;> rfl), by repeat (first | (with_reducible first | exact HB.out | apply below_alloc | apply pw_below_drewN | apply below_drew1) | exact HB.out)⟩
                          · rw [if_neg c23] at H
                            have c23b0 : decide (0 < t192) = false := decide_eq_false c23
                            clear c23
                            obtain rfl := Option.some.inj H
                            go_wp2
                            go_ret
                            exact ⟨by first | rfl | (simp [errW_none, errW_some] <;> rfl) | (simp [*, errW_none, errW_some] <;> rfl), by repeat (first | (with_reducible first | exact HB.out | apply below_alloc | apply pw_below_drewN | apply below_drew1) | exact HB.out)⟩
                        · rw [if_neg c22] at H
                          have c22b0 : (t193 == 1) = false := beq_eq_false_iff_ne.mpr c22
                          have c22b1 : (t193 != 1) = true := bne_iff_ne.mpr c22
                          obtain rfl := Option.some.inj H
                          go_wp2
                          go_ret
                          exact ⟨by first | rfl | (simp [errW_none, errW_some] <;> rfl) | (simp [*, errW_none, errW_some] <;> rfl), by repeat (first | (with_reducible first | exact HB.out | apply below_alloc | apply pw_below_drewN | apply below_drew1) | exact HB.out)⟩
                · rw [if_neg c8] at H
                  exact absurd H (by simp)
              · rw [if_neg c7] at H
                exact absurd H (by simp)

end Go.Proofs.YtmoohjomkdcdhaaDoor.Y
