/- From a row's list of laid variables to what the walks ask of them (GoodW); and a world in which a row's list is met, for the witness. -/
import Derived.Test.YtaldfmbnfnagjaaDoorExt
import Derived.Test.YtaldfmbnfnagjaaDoorRows
import Derived.ProofKit
import Derived.OpenShut
import Derived.Deep.DeepHandedRow
import Derived.Lib.LaidTab
import Derived.LaidSub
namespace Go.Proofs.YtaldfmbnfnagjaaDoor.X
open Go.ChangeShapes Go.WideShapes Go.ChangeAt Go.RowKit

theorem own : ownKnob Tryd.prog.godebug = none := by kernel_rfl
/-- What a row's list gives, if it lists strconv's table; the errors' names; and what the world's shape gives. -/
theorem goodM_of {W : World} (hsh : W.ShapedOpen Tryd.prog) : GoodM W := ⟨Tryd.laysM145.s1_3 W hsh⟩
theorem gNames : Tryd.prog.globalNamed "cadastre/value.names" = some 0 := by kernel_rfl
theorem gNamesType : (Tryd.prog.globals[0]?).map (·.type) = some 67 := by kernel_rfl
theorem cNames : Tryd.prog.cellsOf 67 = 6 := by kernel_rfl
theorem cString : Tryd.prog.cellsOf 9 = 1 := by kernel_rfl
theorem namesData : (Rows.laid_cadastre_value_names : DataW Unit) = .agg (errNames.map fun s => .lit (.string s)) := by kernel_rfl
/-- An array of strings that reads as a list of texts holds these, cell for cell. -/
theorem cells_of_strs {H : Type} {enc : TypeId × Value → H} {P : Program} {w : World} {base : Nat} {sp : Nat → Bool} {held : Bool} {fuel : Nat} {t e : TypeId} {n : Nat} {cs : List Value} {zs : List (List UInt8)} {p : List MemPlace}
    (ht : P.underlying t = some (.array n e)) (he : P.underlying e = some .string) (hce : P.cellsOf e = 1) (hct : P.cellsOf t = n)
    (h : DataW.trod enc P w base sp held fuel t cs = some (.agg (zs.map fun z => .lit (.string z)), p)) : cs = zs.map fun z => Value.string ⟨z.toArray⟩ := by
  cases fuel with
  | zero => simp [DataW.trod] at h
  | succ fuel =>
    simp only [DataW.trod, ht, hce, hct, Nat.mul_one] at h
    split at h
    · rename_i hl
      obtain ⟨xs, hm, hx⟩ := Option.map_eq_some_iff.1 h
      have hxs : xs.map (·.1) = zs.map fun z => (DataW.lit (.string z) : DataW H) := by
        have := congrArg Prod.fst hx
        simpa using this
      have hxl : xs.length = n := by simpa using Lib.mapM_length hm
      have hzl : zs.length = n := by
        have := congrArg List.length hxs
        simp at this
        omega
      apply List.ext_getElem?
      intro i
      by_cases hi : i < n
      · obtain ⟨b, hb, hf⟩ := Lib.mapM_at hm i i (by simp [hi])
        obtain ⟨z, hc, hz, _⟩ := DataW.trod_string he hf
        have h1 : cs[i]? = some (.string z) := by
          have := congrArg (·[0]?) hc
          simpa [List.getElem?_take, List.getElem?_drop] using this
        have h2 : (xs.map (·.1))[i]? = some (DataW.lit (.string z.data.toList) : DataW H) := by rw [List.getElem?_map, hb, hz]; rfl
        rw [hxs] at h2
        simp only [List.getElem?_map, Option.map_eq_some_iff, DataW.lit.injEq, Lit.string.injEq] at h2
        obtain ⟨z', hz', e2⟩ := h2
        rw [h1, List.getElem?_map, hz', e2]
        simp
      · rw [List.getElem?_eq_none (by omega), List.getElem?_eq_none (by simp; omega)]
    · cases h
theorem goodN_of {l : List (String × DataW Unit)} {W : World} (hL : laidMetH Tryd.prog l W)
    (he : (l.filter fun x => x.1 == "cadastre/value.names") = [("cadastre/value.names", Rows.laid_cadastre_value_names)]) : GoodN W := by
  have h1 := hL.filter (fun x => x.1 == "cadastre/value.names")
  rw [he, namesData] at h1
  obtain ⟨ps, ⟨g', t', cs, fuel, p, q, hg', ht', hvar, hd, _, _⟩, _⟩ := h1
  obtain rfl := Option.some.inj (gNames.symm.trans hg')
  obtain rfl := Option.some.inj (gNamesType.symm.trans ht')
  have hcs := cells_of_strs Tryd.underlying67 Tryd.underlying9 cString cNames hd
  refine ⟨fun i hi => ?_⟩
  rw [World.var?_cell gNames hvar i]
  have e1 : cs[i]? = cs.toList[i]? := by simp
  rw [e1, hcs, List.getElem?_map]
  have : i = 0 ∨ i = 1 ∨ i = 2 ∨ i = 3 ∨ i = 4 ∨ i = 5 := by omega
  rcases this with rfl | rfl | rfl | rfl | rfl | rfl <;> rfl

/-- A datum's cells. -/
noncomputable def flat1 : DataW Unit → List Value
  | .lit (.int k n) => [.int k n]
  | .lit (.bool b) => [.bool b]
  | .lit (.string s) => [.string ⟨s.toArray⟩]
  | _ => []
noncomputable def flat2 : DataW Unit → List Value
  | .agg l => l.flatMap flat1
  | d => flat1 d
noncomputable def flat3 : DataW Unit → List Value
  | .agg l => l.flatMap flat2
  | d => flat1 d
noncomputable def layOne (h : Array Obj) (g : Nat) (d : DataW Unit) : Array Obj :=
  h.modify g fun
    | .cells _ t frozen => .cells (flat3 d).toArray t frozen
    | o => o
noncomputable def layAll (h : Array Obj) : List (String × DataW Unit) → Array Obj
  | [] => h
  | (n, d) :: l => layAll (layOne h ((Tryd.prog.globalNamed n).getD 0) d) l
/-- The settled world, the listed variables holding what is listed. -/
noncomputable def laidWorld (l : List (String × DataW Unit)) (os : Os) : World :=
  { World.holding Tryd.prog os ⟨#[], #[], []⟩ with heap := layAll (World.holding Tryd.prog os ⟨#[], #[], []⟩).heap l }
end Go.Proofs.YtaldfmbnfnagjaaDoor.X
