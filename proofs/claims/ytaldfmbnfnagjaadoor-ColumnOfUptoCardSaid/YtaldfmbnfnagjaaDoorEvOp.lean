/- Each operation of the model does what its run on plain data says. -/
import Derived.Test.YtaldfmbnfnagjaaDoorEvUp
namespace Go.Proofs.YtaldfmbnfnagjaaDoor.E
open Go.RowKit (Below)
set_option linter.unusedVariables false
set_option linter.unusedSimpArgs false

/-- An operation's run comes to a value and a world. -/
def Comes1 (P : Program) (r : Result Next) (R : Value → World → Prop) : Prop :=
  match r with
  | .ok (.value v) w' => R v w'
  | .ok .skip w' => R undef w'
  | .ok (.enter f args) w' => Calls P f args w' fun e w'' => ∃ v, e = .returned v ∧ R v w''
  | _ => False
def Goes (P : Program) (ρ : Operand → Value) (o : Oper) (w : World) (R : Value → World → Prop) : Prop := Comes1 P ((execOp ρ o).run P w) R

/-- What is known of a function. -/
def Spec (P : Program) (B : M) (f : FuncId) (E : Entry) : Prop :=
  ∀ (x : VsT E.a) (y : VsT E.r), E.g x = some y → ∀ (m : M) (w : World) (vals : List Value), M.le B m → (∀ b o v, m b o = some v → w.cell? ⟨b, o, none⟩ = some v) → RdVs m E.a x vals →
    Comes1 P ((callFunc f vals.toArray).run P w) fun v w' => ∃ m', M.le m m' ∧ (∀ b o u, m' b o = some u → m b o = none → w.heap.size ≤ b) ∧
      (∀ b o v, m' b o = some v → w'.cell? ⟨b, o, none⟩ = some v) ∧ RdRes m' E.r y v ∧ Below w.heap.size w w'

def Res (B : M) (base : Nat) (m : M) (e : Env) (w : World) (bx : Nat → Option Bx) (d : D) (v : Value) (w' : World) : Prop :=
  ∃ m' e', M.le m m' ∧ (∀ b o u, m' b o = some u → m b o = none → base ≤ b) ∧ Env.le e e' ∧ Rd m' e' d v ∧ OK B base m' e' w' bx ∧ Below base w w'

section
variable {C : Ctx} {B : M} {base : Nat} {m : M} {e : Env} {w : World} {bx : Nat → Option Bx} {st : St} {ρ : Operand → Value} {o : Oper}

theorem res_same (ok : OK B base m e w bx) {d : D} {v : Value} (h : Rd m e d v) : Res B base m e w bx d v w :=
  ⟨m, e, .refl m, fun b o u h h' => by rw [h] at h'; simp at h', .refl e, h, ok, .refl _ _⟩
/-- An operation without memory. -/
theorem goes_val {v : Value} {R : Value → World → Prop} (h : (execOp ρ o).run C.P w = .ok (.value v) w) (hr : R v w) : Goes C.P ρ o w R := by
  unfold Goes Comes1; rw [h]; exact hr

theorem run_und {P : Program} {t : TypeId} {d : TypeDesc} (h : P.underlying t = some d) (w : World) : (underlying t).run P w = .ok d w := by
  simp [underlying, program, Sem.run, h]
theorem info_of_cells {P : Program} {t : TypeId} (h : 0 < P.cellsOf t) : ∃ i, P.info? t = some i ∧ i.size = P.cellsOf t := by
  unfold Program.cellsOf at *
  cases hi : P.info? t with
  | none => simp [hi] at h
  | some i => exact ⟨i, rfl, by simp⟩
theorem run_size {P : Program} {t : TypeId} (h : 0 < P.cellsOf t) (w : World) : (sizeOf t).run P w = .ok (P.cellsOf t) w := by
  obtain ⟨i, hi, hs⟩ := info_of_cells h
  simp [sizeOf, typeInfo, program, Sem.run, hi, hs]
theorem sz_pos {t : TypeId} (h : 0 < sz C t) : ∃ d, C.P.underlying t = some d ∧ sz C t = C.P.cellsOf t ∧ 0 < C.P.cellsOf t := by
  unfold sz at *
  cases hu : C.P.underlying t with
  | none => rw [hu] at h; exact absurd h (Nat.lt_irrefl 0)
  | some d => rw [hu] at h; exact ⟨d, rfl, rfl, h⟩
theorem run_sz {t : TypeId} (h : 0 < sz C t) (w : World) : (sizeOf t).run C.P w = .ok (sz C t) w := by
  obtain ⟨d, _, h1, h2⟩ := sz_pos h
  rw [h1]; exact run_size h2 w
theorem und_of_cells {P : Program} {t : TypeId} {d : TypeDesc} (h : P.underlying t = some d) : ∃ i, P.info? t = some i := by
  unfold Program.underlying at h
  cases hi : P.info? t with
  | none => simp [hi] at h
  | some i => exact ⟨i, rfl⟩

/-! #### integers, strings -/
theorem intBin_sound {op : BinOp} {k : IntKind} {a b : Int} {d : D} (h : intBin op k a b some = some d) (t : TypeId) (w : World) :
    ∃ v, (binOp op t (.int k a) (.int k b)).run C.P w = .ok v w ∧ Rd m e d v := by
  cases op <;> simp only [intBin, reduceCtorEq, Option.some.injEq] at h
  case quo =>
    cases hb : (b == 0) <;> simp [hb] at h
    subst h
    exact ⟨_, by simp [binOp, Op.intDiv, show b ≠ 0 by simpa using hb], rfl⟩
  case rem =>
    cases hb : (b == 0) <;> simp [hb] at h
    subst h
    exact ⟨_, by simp [binOp, Op.intDiv, show b ≠ 0 by simpa using hb], rfl⟩
  all_goals (subst h; first
    | exact ⟨_, by simp only [binOp, ne_eq, not_true_eq_false, ite_false]; rfl, rfl⟩)
theorem strBin_sound {op : BinOp} {a b : ByteArray} {d : D} (h : strBin op a b some = some d) (t : TypeId) (w : World) :
    ∃ v, (binOp op t (.string a) (.string b)).run C.P w = .ok v w ∧ Rd m e d v := by
  cases op <;> simp only [strBin, reduceCtorEq, Option.some.injEq] at h
  case add =>
    cases hb : decide (((a.size + b.size : Nat) : Int) > IntKind.i64.max) <;> simp only [hb, cond_true, cond_false, reduceCtorEq, Option.some.injEq] at h
    subst h
    have hb : ¬ (((a.size + b.size : Nat) : Int) > IntKind.i64.max) := by simpa using hb
    refine ⟨.string (a ++ b), ?_, rfl⟩
    simp only [binOp, Op.stringOp]
    rw [if_neg hb]; rfl
  all_goals (subst h; exact ⟨_, by simp only [binOp, Op.stringOp]; rfl, rfl⟩)
theorem run_eqGuard_int (op : BinOp) (t : TypeId) (x y : Operand) (k k' : IntKind) (a b : Int) (w : World) : (eqGuard op t x y (.int k a) (.int k' b)).run C.P w = .ok () w := by cases op <;> rfl
theorem run_eqGuard_str (op : BinOp) (t : TypeId) (x y : Operand) (a b : ByteArray) (w : World) : (eqGuard op t x y (.string a) (.string b)).run C.P w = .ok () w := by cases op <;> rfl
theorem run_eqGuard_bool (op : BinOp) (t : TypeId) (x y : Operand) (a b : Bool) (w : World) : (eqGuard op t x y (.bool a) (.bool b)).run C.P w = .ok () w := by cases op <;> rfl
theorem run_eqGuard_agg (op : BinOp) (t : TypeId) (x y : Operand) (a b : Array Value) (w : World) (h : C.P.eqGuardType C.P.depth t = false) : (eqGuard op t x y (.agg a) (.agg b)).run C.P w = .ok () w := by
  cases op <;> first | rfl | (simp [eqGuard, program, Sem.run, h])

end
end Go.Proofs.YtaldfmbnfnagjaaDoor.E
