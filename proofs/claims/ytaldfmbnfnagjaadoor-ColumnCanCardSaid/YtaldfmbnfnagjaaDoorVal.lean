/- The errors' names, out of the laid table: a walk by hand. -/
import Derived.Test.YtaldfmbnfnagjaaDoorParse
namespace Go.Proofs.YtaldfmbnfnagjaaDoor.X
open Go.RowKit Go.Proofs.YtaldfmbnfnagjaaDoorW.PrintWords Go.Proofs.YtaldfmbnfnagjaaDoorW.PrintLast Go.Proofs.YtaldfmbnfnagjaaDoorW.PrintMore
set_option linter.unusedVariables false
set_option linter.unusedSimpArgs false
def value_errName.f (a0 : Int) : Option ByteArray := some (if a0 < 0 then ⟨#[]⟩ else if a0 ≥ 6 then ⟨#[]⟩ else nameOf a0.toNat)
set_option maxHeartbeats 1000000 in
theorem errName_in (i : Nat) (hi : i < 6) (w : World) (hGn : GoodN w) :
    Calls Tryd.prog 49 #[.int .i64 (i : Int)] w fun e w' => e = .returned (.string (nameOf i)) ∧ Drawn0 w w' := by
  have hc := hGn.names i hi
  clear hGn
  have h1 : ¬ ((i : Int) < 0) := by omega
  have h2 : (i : Int) < 6 := by omega
  have h3 : decide ((i : Int) < 0) = false := by simp
  have h4 : decide (6 ≤ (i : Int)) = false := by simp; omega
  go_enter Tryd.func49, Tryd.ntmps49
  go_wp2
  go_ret
  exact ⟨rfl, by repeat (first | exact Drawn0.refl _ | apply Drawn0.step)⟩
set_option maxHeartbeats 1000000 in
theorem errName_out (a0 : Int) (h : a0 < 0 ∨ 6 ≤ a0) (w : World) :
    Calls Tryd.prog 49 #[.int .i64 a0] w fun e w' => e = .returned (.string ⟨#[]⟩) ∧ Drawn0 w w' := by
  by_cases hn : a0 < 0
  · clear h
    have h3 : decide (a0 < 0) = true := decide_eq_true hn
    go_enter Tryd.func49, Tryd.ntmps49
    go_wp2
    go_ret
    exact ⟨rfl, by repeat (first | exact Drawn0.refl _ | apply Drawn0.step)⟩
  · have hn6 : 6 ≤ a0 := by omega
    clear h
    have h3 : decide (a0 < 0) = false := decide_eq_false hn
    have h4 : decide (6 ≤ a0) = true := decide_eq_true hn6
    go_enter Tryd.func49, Tryd.ntmps49
    go_wp2
    go_ret
    exact ⟨rfl, by repeat (first | exact Drawn0.refl _ | apply Drawn0.step)⟩
theorem value_errName.calls (a0 : Int) (r : ByteArray) (w : World) (hGn : GoodN w) (h : value_errName.f a0 = some r) :
    Calls Tryd.prog 49 #[.int .i64 a0] w fun e w' => e = .returned (.string r) ∧ Drawn0 w w' := by
  obtain rfl := Option.some.inj h
  by_cases hn : a0 < 0
  · rw [if_pos hn]; exact errName_out a0 (.inl hn) w
  · rw [if_neg hn]
    by_cases h6 : a0 ≥ 6
    · rw [if_pos h6]; exact errName_out a0 (.inr h6) w
    · rw [if_neg h6]
      have := errName_in a0.toNat (by omega) w hGn
      rw [show ((a0.toNat : Nat) : Int) = a0 by omega] at this
      exact this
end Go.Proofs.YtaldfmbnfnagjaaDoor.X
