/- An operation with what comes behind it is the operation, then what comes behind it. -/
import Derived.Test.YtaldfmbnfnagjaaDoorEvRel
namespace Go.Proofs.YtaldfmbnfnagjaaDoor.E
set_option linter.unusedVariables false
set_option linter.unusedSimpArgs false
section
variable {R : Type} (C : Ctx)
theorem cond_bind {α β : Type} (b : Bool) (x y : Option α) (f : α → Option β) : (cond b x y).bind f = cond b (x.bind f) (y.bind f) := by cases b <;> rfl
theorem loadK_nat (st : St) (a : D) (t : TypeId) (K : D → Option R) : loadK C st a t K = (loadK C st a t some).bind K := by
  unfold loadK
  by_cases h : sz C t = 0
  · simp [h]
  · simp only [h, if_false]
    cases a <;> simp only [Option.bind_none]
    · split <;> simp
    · split
      · split <;> simp
      · simp
    · split
      · rw [Option.bind_assoc]; congr 1; funext x; split <;> simp
      · simp
    · split
      · split <;> simp
      · simp
theorem storeK_nat (st : St) (a v : D) (t : TypeId) (K : List (Nat × Option Bx) → Option R) : storeK C st a v t K = (storeK C st a v t some).bind K := by
  unfold storeK
  split
  · cases a <;> simp only [Option.bind_none]
    · split
      · split <;> simp
      · simp
    · split
      · rw [Option.bind_assoc]; congr 1; funext x; split
        · split <;> simp
        · simp
      · simp
  · simp
theorem intBin_nat (op : BinOp) (k : IntKind) (a b : Int) (K : D → Option R) : intBin op k a b K = (intBin op k a b some).bind K := by
  cases op <;> simp [intBin, cond_bind]
theorem strBin_nat (op : BinOp) (a b : ByteArray) (K : D → Option R) : strBin op a b K = (strBin op a b some).bind K := by
  cases op <;> simp [strBin, cond_bind]
theorem binD_nat (op : BinOp) (t : TypeId) (x y : D) (K : D → Option R) : binD C op t x y K = (binD C op t x y some).bind K := by
  unfold binD
  split
  · split
    · simp [cond_bind]
    · simp [cond_bind]
    · split
      · exact intBin_nat _ _ _ _ _
      · simp
  · exact strBin_nat _ _ _ _
  · split <;> simp
  · split
    · split
      · split <;> simp
      · split <;> simp
      · simp
    · simp
  · simp
theorem unD_nat (op : UnOp) (x : D) (K : D → Option R) : unD op x K = (unD op x some).bind K := by
  unfold unD; split <;> simp
theorem boundK_nat (n : Nat) (low high : Option D) (K : Nat → Nat → Option R) : boundK n low high K = (boundK n low high fun l h => some (l, h)).bind fun p => K p.1 p.2 := by
  unfold boundK; split <;> simp [cond_bind]
theorem fresh_nat (st : St) (dst : Nat) {α : Type} (a : Option α) (f : α → Option R) : fresh st dst (a.bind f) = (fresh st dst a).bind f := by
  unfold fresh; split <;> simp
theorem boundK_nat2 {α : Type} (n : Nat) (low high : Option D) (K : Nat → Nat → Option α) (f : α → Option R) : boundK n low high (fun l h => (K l h).bind f) = (boundK n low high K).bind f := by
  unfold boundK; split <;> simp [cond_bind]
def pr (d : D) (us : List (Nat × Option Bx)) : Option (D × List (Nat × Option Bx)) := some (d, us)
theorem sliceK_nat (st : St) (dst n : Nat) (x : D) (low high : Option D) (K : D → List (Nat × Option Bx) → Option R) :
    sliceK st dst n x low high K = (sliceK st dst n x low high pr).bind fun p => K p.1 p.2 := by
  unfold sliceK
  cases x <;> simp only [Option.bind_none, pr]
  · rw [← boundK_nat2]; rfl
  · split
    · rw [← boundK_nat2]; rfl
    · simp
  · split
    · split
      · rw [← fresh_nat, ← boundK_nat2]; rfl
      · simp
    · split
      · rw [← boundK_nat2]; rfl
      · simp
    · simp
theorem appendK_nat (st : St) (dst : Nat) (t : TypeId) (a b : D) (K : D → List (Nat × Option Bx) → Option R) :
    appendK C st dst t a b K = (appendK C st dst t a b pr).bind fun p => K p.1 p.2 := by
  unfold appendK
  rw [← fresh_nat]
  congr 1
  split
  · simp
  · split
    · simp
    · cases a <;> simp only [Option.bind_none]
      · simp [cond_bind, pr]
      · split
        · split
          · split
            · simp
            · simp [cond_bind, pr]
          · simp
        · simp
theorem lenK_nat (st : St) (d : D) (K : D → Option R) : lenK st d K = (lenK st d some).bind K := by
  unfold lenK; cases d <;> simp
  split <;> simp
theorem callK_nat (st : St) (f : FuncId) (ds : List D) (K : D → List (Nat × Option Bx) → Option R) :
    callK C st f ds K = (callK C st f ds pr).bind fun p => K p.1 p.2 := by
  unfold callK
  split
  · simp
  · split
    · simp
    · simp [Option.bind_assoc, pr]
theorem coreK_nat (op : Op) (st : St) (dst : Nat) (K : D → List (Nat × Option Bx) → Option R) :
    coreK C op st dst K = (coreK C op st dst pr).bind fun p => K p.1 p.2 := by
  cases op <;> simp only [coreK, Option.bind_none]
  case move => simp [pr]
  case assign => simp [pr]
  case pick => split <;> simp [cond_bind, pr]
  case alloc => rw [← fresh_nat]; congr 1; (repeat' split) <;> simp [pr]
  case box => rw [← fresh_nat]; congr 1; (repeat' split) <;> simp [pr]
  case build => (repeat' split) <;> simp [pr]
  case buildSlice =>
    rw [← fresh_nat]; congr 1
    (repeat' split) <;> simp [pr]
  case load => rw [loadK_nat]; conv => rhs; rw [loadK_nat]
               simp [Option.bind_assoc, pr]
  case store => rw [storeK_nat]; conv => rhs; rw [storeK_nat]
                simp [Option.bind_assoc, pr]
  case nilCheck => split <;> simp [pr]
  case binOp => rw [binD_nat]; conv => rhs; rw [binD_nat]
                simp [Option.bind_assoc, pr]
  case unOp => rw [unD_nat]; conv => rhs; rw [unD_nat]
               simp [Option.bind_assoc, pr]
  case convert => (repeat' split) <;> simp [pr]
  case makeSlice => rw [← fresh_nat]; congr 1; (repeat' split) <;> simp [pr, cond_bind]
  case slice t x lo hi mx =>
    cases mx <;> simp only [coreK, Option.bind_none]
    split
    · split
      · rw [← boundK_nat2]; rfl
      · simp
    · split
      · exact sliceK_nat _ _ _ _ _ _ _
      · simp
    · split
      · split
        · split
          · rw [← boundK_nat2]; rfl
          · simp
        · simp
      · simp
    · simp
  case fieldAddr =>
    split
    · split
      · split <;> simp [pr]
      · simp
    · simp
  case field => (repeat' split) <;> simp [pr]
  case indexAddr =>
    split
    · split <;> simp [Option.bind_assoc, pr]
    · split
      · split <;> simp [pr, cond_bind]
      · simp
    · split
      · split <;> simp [Option.bind_assoc, pr]
      · simp
    · split <;> simp [pr, cond_bind]
    · simp
  case index =>
    split
    · simp [Option.bind_assoc, pr]
    · split
      · split <;> simp [pr]
      · simp
    · simp
  case extract => split <;> (try split) <;> simp [pr]
  case call c =>
    split
    · split
      · split
        · simp [pr]
        · simp
        · rw [lenK_nat]; conv => rhs; rw [lenK_nat]
          simp [Option.bind_assoc, pr]
        · simp
      · simp
    · split
      · split
        · split
          · exact appendK_nat C _ _ _ _ _ _
          · simp
        · exact appendK_nat C _ _ _ _ _ _
        · simp
      · simp
    · (repeat' split) <;> simp [pr]
    · (repeat' split) <;> simp [pr]
    · split
      · exact callK_nat C _ _ _ _
      · simp
    · simp
end
end Go.Proofs.YtaldfmbnfnagjaaDoor.E
