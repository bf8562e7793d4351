/- The library's functions, by the contracts of the kit's shelf: what they compute, and that they do. -/
import Derived.Test.YtaldfmbnfnagjaaDoorEvFun
import Derived.Test.YtaldfmbnfnagjaaDoorShelf
import Derived.Shelf.Strings.SlTrimAscii
import Derived.Lib.AppendIntMem
namespace Go.Proofs.YtaldfmbnfnagjaaDoor.E
open Go.RowKit (Below)
open Go.Shelf
set_option linter.unusedVariables false

/-- What the program's laid variables hold, as the library needs it. -/
structure Lib0 (B : M) : Prop where
  maxLen : ∃ m, B 1 0 = some (.int .i64 m)

/-- A function whose results are no places: nothing is known of memory behind it that was not known ahead. -/
theorem spec_ext {P : Program} {B : M} {f : FuncId} {E : Entry}
    (h : ∀ x y, E.g x = some y → ∀ (m : M) (w : World) (vals : List Value), (∀ b o v, B b o = some v → w.cell? ⟨b, o, none⟩ = some v) → RdVs m E.a x vals →
      P.funcs[f]? ≠ none ∧ (callFunc f vals.toArray).run P w = .ok (.enter f vals.toArray) w ∧
      Calls P f vals.toArray w fun e w' => ∃ v, e = .returned v ∧ (∀ m', RdRes m' E.r y v) ∧ Below w.heap.size w w') : Spec P B f E := by
  intro x y hy m w vals hB hag hr
  obtain ⟨_, h1, h2⟩ := h x y hy m w vals (fun b o v hv => hag b o v (hB b o v hv)) hr
  rw [h1]
  refine (show Calls P f vals.toArray w _ from h2.mono ?_)
  rintro e w' ⟨v, he, hres, hb⟩
  exact ⟨v, he, m, .refl m, fun b o u h h' => by rw [h] at h'; simp at h', fun b o v hv => by rw [hb.cell (agree_lt hag hv)]; exact hag b o v hv, hres m, hb⟩
theorem enters {P : Program} {f : FuncId} {fn : Func} {c : Code} (hf : P.funcs[f]? = some fn) (hname : (fn.name == "runtime.NumGoroutine") = false) (hb : fn.body = some c) (vals : Array Value) (w : World) : (callFunc f vals).run P w = .ok (.enter f vals) w := by
  have hn : ¬ fn.name = "runtime.NumGoroutine" := by simpa using hname
  simp [callFunc, program, Sem.run, hf, hn, hb]
theorem args1 {m : M} {a : V} {x : VsT [a]} {vals : List Value} (h : RdVs m [a] x vals) : ∃ u, vals = [u] ∧ RdV m a x.1 u := by
  obtain ⟨u, us, rfl, h1, h2⟩ := h
  exact ⟨u, by rw [show us = [] from h2], h1⟩
theorem args2 {m : M} {a b : V} {x : VsT [a, b]} {vals : List Value} (h : RdVs m [a, b] x vals) : ∃ u v, vals = [u, v] ∧ RdV m a x.1 u ∧ RdV m b x.2.1 v := by
  obtain ⟨u, us, rfl, h1, h2⟩ := h
  obtain ⟨v, rfl, h3⟩ := args1 h2
  exact ⟨u, v, rfl, h1, h3⟩
theorem str_of {m : M} {x : ByteArray} {u : Value} (h : RdV m (.leaf .str) x u) : u = .string x := by
  have := (show [u] = [Value.string x] from h); simpa using this
theorem int_of {m : M} {k : IntKind} {x : Int} {u : Value} (h : RdV m (.leaf (.int k)) x u) : u = .int k x := by
  have := (show [u] = [Value.int k x] from h); simpa using this
theorem res_str (m : M) (s : ByteArray) : RdRes m [.leaf .str] (s, ()) (.string s) := ⟨[.string s], ⟨_, [], rfl, rfl, rfl⟩, rfl⟩

/-! strings.Cut -/
def ext_Cut (a0 a1 : ByteArray) : Option (ByteArray × ByteArray × Bool × Unit) :=
  if a0.size < 4294967281 then some (⟨(Lib.cut a0.data.toList a1.data.toList).1.toArray⟩, ⟨(Lib.cut a0.data.toList a1.data.toList).2.1.toArray⟩, (Lib.cut a0.data.toList a1.data.toList).2.2, ()) else none
abbrev ext_Cut.E : Entry := ⟨[.leaf .str, .leaf .str], [.leaf .str, .leaf .str, .leaf .bool], fun x => ext_Cut x.1 x.2.1⟩
theorem ext_Cut.spec {B : M} (hL : Lib0 B) : Spec Tryd.prog B 60 ext_Cut.E := by
  refine spec_ext fun x y h m w vals hB hr => ⟨by rw [Tryd.func60]; simp, enters Tryd.func60 (by kernel_rfl) rfl _ w, ?_⟩
  obtain ⟨u, v, rfl, h1, h2⟩ := args2 hr
  obtain rfl := str_of h1
  obtain rfl := str_of h2
  obtain ⟨a0, a1, x⟩ := x
  simp only [ext_Cut] at h
  split at h
  · rename_i hs
    simp only [Option.some.injEq] at h
    subst h
    obtain ⟨k, hk⟩ := hL.maxLen
    refine (Tryd.strings_Cut a0 a1 k w hs (hB _ _ _ hk)).mono ?_
    rintro e w' ⟨rfl, n, rfl⟩
    exact ⟨_, rfl, fun m' => ⟨[_, _, _], ⟨_, _, rfl, rfl, ⟨_, _, rfl, rfl, ⟨_, _, rfl, rfl, rfl⟩⟩⟩, rfl⟩, ⟨rfl, rfl, rfl, Nat.le_refl _, fun _ _ => rfl⟩⟩
  · cases h

theorem infoSet : (Tryd.prog.info? 88).map (fun i => (i.zero, i.size)) = some (some (.agg (Array.replicate 256 (.bool false))), 256) := by kernel_rfl
theorem asciiAll (l : List UInt8) (h : l.all (fun b => decide (b.toNat < 128)) = true) : ∀ (j : Nat) b, l[j]? = some b → b.toNat < 128 := fun j b hj => by
  have := List.all_eq_true.1 h b (List.mem_of_getElem? hj); simpa using this
/-! strings.Trim, strings.TrimRight, of an ASCII cutset -/
def ext_Trim (a0 a1 : ByteArray) : Option (ByteArray × Unit) :=
  if a0.size ≤ 9223372036854775807 then if a1.size < 4294967281 then if a1.data.toList.all (fun b => decide (b.toNat < 128)) = true then
    some (⟨(Lib.trimS a0.data.toList a1.data.toList).toArray⟩, ()) else none else none else none
abbrev ext_Trim.E : Entry := ⟨[.leaf .str, .leaf .str], [.leaf .str], fun x => ext_Trim x.1 x.2.1⟩
theorem ext_Trim.spec {B : M} : Spec Tryd.prog B 65 ext_Trim.E := by
  refine spec_ext fun x y h m w vals hB hr => ⟨by rw [Tryd.func65]; simp, enters Tryd.func65 (by kernel_rfl) rfl _ w, ?_⟩
  obtain ⟨u, v, rfl, h1, h2⟩ := args2 hr
  obtain rfl := str_of h1
  obtain rfl := str_of h2
  obtain ⟨a0, a1, x⟩ := x
  simp only [ext_Trim] at h
  split at h
  · rename_i h1
    split at h
    · rename_i h2
      split at h
      · rename_i h3
        simp only [Option.some.injEq] at h
        subst h
        refine (Any.strings_Trim_laid Tryd.lays160 infoSet a0 a1 w h1 h2 (asciiAll _ h3)).mono ?_
        rintro e w' ⟨rfl, hb⟩
        exact ⟨_, rfl, fun m' => res_str m' _, hb⟩
      · cases h
    · cases h
  · cases h
/-! strconv.FormatInt at base 10, strconv.Itoa -/
end Go.Proofs.YtaldfmbnfnagjaaDoor.E
