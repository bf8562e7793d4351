/- Small laws for plain functions that the program of ours prints: loops, numbers' kinds, places in rows. -/
import Derived.Test.YtaldfmbnfnagjaaDoorEvNumL
namespace Go.Proofs.YtaldfmbnfnagjaaDoor.E
set_option linter.unusedVariables false
/-- A loop, by what is shown of its rounds. -/
theorem loop_ind {T R : Type} {s : (T → Option R) → T → Option R} (Q : T → Option R → Prop) (μ : T → Nat) (step : ∀ x rec, (∀ y, μ y < μ x → Q y (rec y)) → Q x (s rec x)) : ∀ n x, μ x < n → Q x (loopN s n x)
  | 0, x, h => by omega
  | n + 1, x, h => step x _ fun y hy => loop_ind Q μ step n y (by omega)
theorem cutBind_go {T R : Type} (x : T) (f : T → Option R) : cutBind (some (.go x)) f = f x := rfl
theorem cutBind_out {T R : Type} (r : R) (f : T → Option R) : cutBind (some (.out r)) f = some r := rfl
theorem cutBind_cond {T R : Type} (b : Bool) (x y : Option (Cut T R)) (f : T → Option R) : cutBind (cond b x y) f = cond b (cutBind x f) (cutBind y f) := by cases b <;> rfl
theorem cutBind_bind {A T R : Type} (a : Option A) (g : A → Option (Cut T R)) (f : T → Option R) : cutBind (a.bind g) f = a.bind fun x => cutBind (g x) f := by cases a <;> rfl
theorem cutBind_ite {T R : Type} {c : Prop} [Decidable c] (x y : Option (Cut T R)) (f : T → Option R) : cutBind (if c then x else y) f = if c then cutBind x f else cutBind y f := by split <;> rfl
theorem c_true {α : Type} {b : Bool} {x y : α} (h : b = true) : cond b x y = x := by rw [h]; rfl
theorem c_false {α : Type} {b : Bool} {x y : α} (h : b = false) : cond b x y = y := by rw [h]; rfl
theorem d_true {α : Type} {p : Prop} [Decidable p] {x y : α} (h : p) : cond (decide p) x y = x := by rw [decide_eq_true h]; rfl
theorem d_false {α : Type} {p : Prop} [Decidable p] {x y : α} (h : ¬ p) : cond (decide p) x y = y := by rw [decide_eq_false h]; rfl
theorem idx_nat {α : Type} (xs : List α) (i : Nat) : idx xs (i : Int) = xs[i]? := by unfold idx; rw [decide_eq_true (by omega)]; rfl
theorem idx_some {α : Type} {xs : List α} {i : Int} (h : 0 ≤ i) : idx xs i = xs[i.toNat]? := by unfold idx; rw [decide_eq_true h]; rfl
theorem sidx_some {s : ByteArray} {i : Int} (h : 0 ≤ i) : sidx s i = (s.data.toList[i.toNat]?).map fun c => (c.toNat : Int) := by unfold sidx; rw [decide_eq_true h]; rfl
theorem w64 {x : Int} (h1 : -9223372036854775808 ≤ x) (h2 : x ≤ 9223372036854775807) : IntKind.i64.wrap x = x := by
  simp only [IntKind.wrap]; rw [show IntKind.i64.bits = 64 from rfl, show IntKind.i64.signed = true from rfl]; simp; omega
theorem wu64 {x : Int} (h1 : 0 ≤ x) (h2 : x ≤ 18446744073709551615) : IntKind.u64.wrap x = x := by
  simp only [IntKind.wrap]; rw [show IntKind.u64.bits = 64 from rfl, show IntKind.u64.signed = false from rfl]; simp; omega
theorem wu8 {x : Int} (h1 : 0 ≤ x) (h2 : x ≤ 255) : IntKind.u8.wrap x = x := by
  simp only [IntKind.wrap]; rw [show IntKind.u8.bits = 8 from rfl, show IntKind.u8.signed = false from rfl]; simp; omega
theorem wrapu64 (n : Int) : IntKind.u64.wrap n = n % 18446744073709551616 := by simp [IntKind.wrap, IntKind.bits, IntKind.signed]
theorem wrapu8 (n : Int) : IntKind.u8.wrap n = n % 256 := by simp [IntKind.wrap, IntKind.bits, IntKind.signed]
theorem max64 : IntKind.i64.max = 9223372036854775807 := by decide
theorem roomy_eq : roomy = 1073741824 := by decide
theorem bytesL_eq (s : ByteArray) : bytesL s = s.data.toList.map fun c => (c.toNat : Int) := rfl
theorem drop_cons {α : Type} {l : List α} {i : Nat} {x : α} (h : l[i]? = some x) : l.drop i = x :: l.drop (i + 1) := by
  obtain ⟨hi, rfl⟩ := List.getElem?_eq_some_iff.1 h
  exact List.drop_eq_getElem_cons hi
theorem empty_eq : (⟨#[]⟩ : ByteArray).toList = [] := by rw [toList_eq]
end Go.Proofs.YtaldfmbnfnagjaaDoor.E
