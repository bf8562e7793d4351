/- From a row's list of laid variables and the world's shape to what the functions ask of them (Good); and a world in which a row's list is met, for the witness. -/
import Derived.Test.YtaldfmbnfnagjaaDoorEvFns
import Derived.Test.YtaldfmbnfnagjaaDoorEvOpen
import Derived.ProofKit
import Derived.OpenShut
import Derived.Deep.DeepHandedRow
import Derived.Lib.LaidTab
import Derived.LaidSub
namespace Go.Proofs.YtaldfmbnfnagjaaDoor.E
open Go.ChangeShapes Go.WideShapes Go.ChangeAt Go.RowKit

theorem own : ownKnob Tryd.prog.godebug = none := by kernel_rfl
theorem gNames : Tryd.prog.globalNamed "cadastre/value.names" = some 0 := by kernel_rfl
theorem gNamesType : (Tryd.prog.globals[0]?).map (·.type) = some 67 := by kernel_rfl
theorem cNames : Tryd.prog.cellsOf 67 = 6 := by kernel_rfl
theorem cString : Tryd.prog.cellsOf 9 = 1 := by kernel_rfl
theorem namesData : (Rows.laid_cadastre_value_names : DataW Unit) = .agg (namesL.map fun s => .lit (.string s.data.toList)) := by kernel_rfl
/-- An array of strings that reads as a list of texts holds these, cell for cell. -/
theorem cells_of_strs {H : Type} {enc : TypeId × Value → H} {P : Program} {w : World} {base : Nat} {sp : Nat → Bool} {held : Bool} {fuel : Nat} {t e : TypeId} {n : Nat} {cs : List Value} {zs : List ByteArray} {p : List MemPlace}
    (ht : P.underlying t = some (.array n e)) (he : P.underlying e = some .string) (hce : P.cellsOf e = 1) (hct : P.cellsOf t = n)
    (h : DataW.trod enc P w base sp held fuel t cs = some (.agg (zs.map fun z => .lit (.string z.data.toList)), p)) : cs = zs.map fun z => Value.string z := by
  cases fuel with
  | zero => simp [DataW.trod] at h
  | succ fuel =>
    simp only [DataW.trod, ht, hce, hct, Nat.mul_one] at h
    split at h
    · rename_i hl
      obtain ⟨xs, hm, hx⟩ := Option.map_eq_some_iff.1 h
      have hxs : xs.map (·.1) = zs.map fun z => (DataW.lit (.string z.data.toList) : DataW H) := by
        have := congrArg Prod.fst hx
        simpa using this
      have hxl : xs.length = n := by simpa using Lib.mapM_length hm
      have hzl : zs.length = n := by
        have := congrArg List.length hxs
        simp at this
        omega
      apply List.ext_getElem?
      intro i
      by_cases hi : i < n
      · obtain ⟨b, hb, hf⟩ := Lib.mapM_at hm i i (by simp [hi])
        obtain ⟨z, hc, hz, _⟩ := DataW.trod_string he hf
        have h1 : cs[i]? = some (.string z) := by
          have := congrArg (·[0]?) hc
          simpa [List.getElem?_take, List.getElem?_drop] using this
        have h2 : (xs.map (·.1))[i]? = some (DataW.lit (.string z.data.toList) : DataW H) := by rw [List.getElem?_map, hb, hz]; rfl
        rw [hxs] at h2
        simp only [List.getElem?_map, Option.map_eq_some_iff, DataW.lit.injEq, Lit.string.injEq] at h2
        obtain ⟨z', hz', e2⟩ := h2
        rw [h1, List.getElem?_map, hz']
        have : z' = z := ByteArray.ext (Array.ext' e2)
        rw [this]; rfl
      · rw [List.getElem?_eq_none (by omega), List.getElem?_eq_none (by simp; omega)]
    · cases h
theorem names_of {l : List (String × DataW Unit)} {W : World} (hL : laidMetH Tryd.prog l W)
    (he : (l.filter fun x => x.1 == "cadastre/value.names") = [("cadastre/value.names", Rows.laid_cadastre_value_names)]) : At (snap W) 0 0 (.str : Sh).n (RdT (snap W) (.str)) namesL := by
  have h1 := hL.filter (fun x => x.1 == "cadastre/value.names")
  rw [he, namesData] at h1
  obtain ⟨ps, ⟨g', t', cs, fuel, p, q, hg', ht', hvar, hd, _, _⟩, _⟩ := h1
  obtain rfl := Option.some.inj (gNames.symm.trans hg')
  obtain rfl := Option.some.inj (gNamesType.symm.trans ht')
  have hcs := cells_of_strs Tryd.underlying67 Tryd.underlying9 cString cNames hd
  intro i x hi
  refine ⟨[.string x], rfl, rfl, fun j u hu => ?_⟩
  have hj := idx_lt hu
  simp only [List.length_cons, List.length_nil] at hj
  obtain rfl : j = 0 := by omega
  simp only [List.getElem?_cons_zero, Option.some.injEq] at hu
  subst hu
  show W.cell? ⟨_, 0 + i * (Sh.str).n + 0, none⟩ = _
  rw [show 0 + i * (Sh.str).n + 0 = i by show 0 + i * 1 + 0 = i; omega, World.var?_cell gNames hvar i]
  have e1 : cs[i]? = cs.toList[i]? := by simp
  rw [e1, hcs, List.getElem?_map, hi]; rfl
theorem lib_of {W : World} (hsh : W.ShapedOpen Tryd.prog) : Lib0 (snap W) := ⟨Tryd.laysM145.s1_3 W hsh⟩

/-- A datum's cells. -/
noncomputable def flat1 : DataW Unit → List Value
  | .lit (.int k n) => [.int k n]
  | .lit (.bool b) => [.bool b]
  | .lit (.string s) => [.string ⟨s.toArray⟩]
  | _ => []
noncomputable def flat2 : DataW Unit → List Value
  | .agg l => l.flatMap flat1
  | d => flat1 d
noncomputable def flat3 : DataW Unit → List Value
  | .agg l => l.flatMap flat2
  | d => flat1 d
noncomputable def layOne (h : Array Obj) (g : Nat) (d : DataW Unit) : Array Obj :=
  h.modify g fun
    | .cells _ t frozen => .cells (flat3 d).toArray t frozen
    | o => o
noncomputable def layAll (h : Array Obj) : List (String × DataW Unit) → Array Obj
  | [] => h
  | (n, d) :: l => layAll (layOne h ((Tryd.prog.globalNamed n).getD 0) d) l
/-- The settled world, the listed variables holding what is listed. -/
noncomputable def laidWorld (l : List (String × DataW Unit)) (os : Os) : World :=
  { World.holding Tryd.prog os ⟨#[], #[], []⟩ with heap := layAll (World.holding Tryd.prog os ⟨#[], #[], []⟩).heap l }
theorem laidOut : laidOutB Tryd.prog = true := by kernel_rfl
/-- A contract's call, of a function that answers one bool. -/
theorem calls_of {f : FuncId} {fn : Func} {c : Code} {E : Entry} {x : VsT E.a} {W : World} {vals : List Value} (hf : Tryd.prog.funcs[f]? = some fn) (hname : (fn.name == "runtime.NumGoroutine") = false) (hb : fn.body = some c)
    (hs : Spec Tryd.prog (snap W) f E) (hr : RdVs (snap W) E.a x vals) {y : VsT E.r} (h : E.g x = some y) {v : Value} (hy : ∀ m u, RdRes m E.r y u → u = v) :
    Calls Tryd.prog f vals.toArray W fun e W' => e = .returned v ∧ Below W.heap.size W W' := by
  have k := hs x y h (snap W) W vals (.refl _) (fun _ _ _ h => h) hr
  rw [enters hf hname hb] at k
  refine (show Calls Tryd.prog f vals.toArray W _ from k).mono ?_
  rintro e W' ⟨u, rfl, m', _, _, _, hres, bel⟩
  exact ⟨by rw [hy m' u hres], bel⟩
theorem res_bool {m : M} {b : Bool} {u : Value} (h : RdRes m [.leaf .bool] (b, ()) u) : u = .bool b := by
  obtain ⟨us, ⟨v, vs, rfl, h1, h2⟩, rfl⟩ := h
  obtain rfl : vs = [] := h2
  have := (show [v] = [Value.bool b] from h1)
  simpa using this
end Go.Proofs.YtaldfmbnfnagjaaDoor.E
