/- A column that came in: what its reading as data says of its two slices. -/
import Derived.Test.YtaldfmbnfnagjaaDoorLaid
import Derived.Test.YtaldfmbnfnagjaaDoorWMore
import Derived.ShutString
import Derived.SizedLaws
import Derived.Lib.SmallJoins
import Derived.ChangeSlices
namespace Go.Proofs.YtaldfmbnfnagjaaDoor.X
open Go.ChangeShapes Go.WideShapes Go.ChangeAt Go.RowKit Go.Proofs.YtaldfmbnfnagjaaDoorW.PrintWords
set_option linter.unusedVariables false

set_option maxRecDepth 100000 in
theorem open_row {H : Type} {enc : TypeId × Value → H} {W : World} {t e : TypeId} {k : IntKind} (ht : Tryd.prog.underlying t = some (.slice e)) (he : Tryd.prog.underlying e = some (.int k)) (hc : Tryd.prog.cellsOf e = 1) {B : Nat} (hB : Tryd.prog.bytesOf e = B)
    {n : Nat} {v : Value} {y : DataW H × List MemPlace} (h : DataW.trod enc Tryd.prog W 0 (fun _ => true) true n t [v] = some y) (hsz : ∀ x ∈ y.1.weights Tryd.prog t, x ≤ reachBytes) :
    ∃ (A : Option Addr) (c : Nat) (l : List Int), v = .slice A l.length c ∧ Kd.C (Kd.int k) W A l.length l ∧ l.length ≤ c ∧ l.length * B ≤ 140737488351232 ∧ (∀ x ∈ l, (Lit.int k x).wf = true) := by
  rcases open_ints ht he hc h with ⟨hcs, _⟩ | ⟨x, l, c, zs, hcs, _, hl, hm, hz, hy, hcell, hwz⟩
  · obtain ⟨ll, e1, hr, _, hw, hcc⟩ := ReadsInt.ofRowC (k := k) (w := W) (a := none) (len := 0) (cap := 0) (zs := []) (.inl ⟨rfl, rfl, rfl, rfl⟩)
    have hl0 : ll.length = 0 := e1.symm
    refine ⟨none, 0, ll, ?_, Kd.C_of_reads (d := (0 : Int)) (h1 := fun _ => rfl) hr, hcc, by rw [hl0]; omega, hw⟩
    rw [hl0]; exact (List.cons.inj hcs).1
  · obtain ⟨ll, e1, hr, _, hw, hcc⟩ := ReadsInt.ofRowC (k := k) (w := W) (a := some x) (len := l) (cap := c) (zs := zs) (.inr ⟨x, rfl, hl, hm, by simpa using hz, hcell, hwz⟩)
    refine ⟨some x, c, ll, ?_, Kd.C_of_reads (d := (0 : Int)) (h1 := fun _ => rfl) hr, hcc, ?_, hw⟩
    · rw [← e1]; exact (List.cons.inj hcs).1
    · have hz' : zs.length = c := by simpa using hz
      have := hsz ((l + (c - l)) * B) (by
        rw [hy]
        simp only [DataW.weights, ht]
        rw [List.mem_cons]
        left
        rw [hB]
        congr 1
        simp [lits, hz']; omega)
      rw [← e1]
      have h2 : l * B ≤ (l + (c - l)) * B := Nat.mul_le_mul_right _ (by omega)
      have h3 : reachBytes = 140737488351232 := by decide
      omega

theorem cellsVec : Tryd.prog.cellsOf 26 = 2 := by kernel_rfl
theorem cells64 : Tryd.prog.cellsOf 2 = 1 := by kernel_rfl
theorem cellsInt : Tryd.prog.cellsOf 3 = 1 := by kernel_rfl
theorem bytes64 : Tryd.prog.bytesOf 2 = 8 := by kernel_rfl
theorem bytesInt : Tryd.prog.bytesOf 3 = 8 := by kernel_rfl
set_option maxRecDepth 100000 in
theorem open_vec {H : Type} {enc : TypeId × Value → H} {W : World} {base : Nat} {v : Value} {d : DataW H} {p : List MemPlace} (hv : Value.okWide Tryd.prog W .any base 26 v) (h : DataW.Trod enc Tryd.prog W 0 (fun _ => true) true 26 v d p)
    (hsz : ∀ x ∈ d.weights Tryd.prog 26, x ≤ reachBytes) :
    ∃ (A0 : Option Addr) (c0 : Nat) (l0 : List Int) (A1 : Option Addr) (c1 : Nat) (l1 : List Int), v = .agg #[.slice A0 l0.length c0, .slice A1 l1.length c1] ∧
      (Kd.C (Kd.int .i64) W A0 l0.length l0 ∧ l0.length ≤ c0 ∧ l0.length * 8 ≤ 140737488351232 ∧ (∀ x ∈ l0, (Lit.int .i64 x).wf = true)) ∧
      (Kd.C (Kd.int .i64) W A1 l1.length l1 ∧ l1.length ≤ c1 ∧ l1.length * 8 ≤ 140737488351232 ∧ (∀ x ∈ l1, (Lit.int .i64 x).wf = true)) := by
  obtain ⟨v0, v1, y0, y1, m, rfl, rfl, rfl, hy0, hy1⟩ := Joins.open_agg2 Tryd.underlying26 (by kernel_rfl) cellsVec hv h
  have hw : ∀ x, (x ∈ y0.1.weights Tryd.prog 23 ∨ x ∈ y1.1.weights Tryd.prog 24) → x ≤ reachBytes := fun x hx => hsz x (by
    simp only [DataW.weights, Tryd.underlying26, DataW.weightsEach, List.map_cons, List.mem_append]
    rcases hx with hx | hx
    · exact .inl hx
    · exact .inr (.inl hx))
  obtain ⟨A0, c0, l0, rfl, h01, h02, h03, h04⟩ := open_row Tryd.underlying23 Tryd.underlying2 cells64 bytes64 hy0 (fun x hx => hw x (.inl hx))
  obtain ⟨A1, c1, l1, rfl, h11, h12, h13, h14⟩ := open_row Tryd.underlying24 Tryd.underlying3 cellsInt bytesInt hy1 (fun x hx => hw x (.inr hx))
  exact ⟨A0, c0, l0, A1, c1, l1, rfl, ⟨h01, h02, h03, h04⟩, ⟨h11, h12, h13, h14⟩⟩
end Go.Proofs.YtaldfmbnfnagjaaDoor.X
