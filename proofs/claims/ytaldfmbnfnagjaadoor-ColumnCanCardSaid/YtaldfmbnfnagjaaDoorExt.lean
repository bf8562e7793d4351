/- The library's functions that this claim's walks call, each by a contract of the kit's shelf, as plain functions that answer 'some r'; and what the walks ask of the laid variables (GoodM, GoodP, GoodN). -/
import Derived.Test.YtaldfmbnfnagjaaDoorShelf
import Derived.Shelf.Strings.SlTrimAscii
import Derived.Lib.AppendIntMem
import Derived.Test.YtaldfmbnfnagjaaDoorWMore
namespace Go.Proofs.YtaldfmbnfnagjaaDoor.X
open Go.RowKit Go.Proofs.YtaldfmbnfnagjaaDoorW.PrintWords Go.Proofs.YtaldfmbnfnagjaaDoorW.PrintLast Go.Proofs.YtaldfmbnfnagjaaDoorW.PrintMore
set_option linter.unusedVariables false

/-- What the walks ask of package-level variables: bytealg.MaxLen holds a number, strconv's table its powers, value.names the errors' names. -/
structure GoodM (w : World) : Prop where
  maxLen : ∃ m, w.cell? ⟨1, 0, none⟩ = some (.int .i64 m)
def errNames : List (List UInt8) := [[], [35, 82, 69, 70, 33], [35, 86, 65, 76, 85, 69, 33], [35, 68, 73, 86, 47, 48, 33], [35, 78, 85, 77, 33], [35, 67, 89, 67, 76, 69, 33]]
def nameOf (i : Nat) : ByteArray := ⟨(errNames.getD i []).toArray⟩
structure GoodN (w : World) : Prop where
  names : ∀ i, i < 6 → w.cell? ⟨0, i, none⟩ = some (.string (nameOf i))

theorem cell_lt {w : World} {a : Addr} {v : Value} (h : w.cell? a = some v) : a.block < w.heap.size := by
  rcases Nat.lt_or_ge a.block w.heap.size with h1 | h1
  · exact h1
  · rw [World.cell?, Array.getElem?_eq_none h1] at h
    cases h
theorem GoodM.below {w w' : World} (h : GoodM w) (hb : Below w.heap.size w w') : GoodM w' := by
  obtain ⟨m, hm⟩ := h.maxLen
  exact ⟨m, by rw [hb.cell (cell_lt hm)]; exact hm⟩
theorem GoodM.drawn {w w' : World} (h : GoodM w) (hd : Drawn0 w w') : GoodM w' := h.below hd.below
theorem GoodN.below {w w' : World} (h : GoodN w) (hb : Below w.heap.size w w') : GoodN w' := ⟨fun i hi => by rw [hb.cell (cell_lt (h.names i hi))]; exact h.names i hi⟩
theorem GoodN.drawn {w w' : World} (h : GoodN w) (hd : Drawn0 w w') : GoodN w' := h.below hd.below

/-! strings.Cut -/
def strings_Cut.f (a0 a1 : ByteArray) : Option (ByteArray × ByteArray × Bool) :=
  if a0.size < 4294967281 then some (⟨(Lib.cut a0.data.toList a1.data.toList).1.toArray⟩, ⟨(Lib.cut a0.data.toList a1.data.toList).2.1.toArray⟩, (Lib.cut a0.data.toList a1.data.toList).2.2) else none
theorem strings_Cut.calls (a0 a1 : ByteArray) (r1 r2 : ByteArray) (r3 : Bool) (w : World) (hGm : GoodM w) (h : strings_Cut.f a0 a1 = some (r1, r2, r3)) :
    Calls Tryd.prog 60 #[.string a0, .string a1] w fun e w' => e = .returned (.tuple #[.string r1, .string r2, .bool r3]) ∧ Drawn0 w w' := by
  unfold strings_Cut.f at h
  split at h
  · rename_i hs
    simp only [Option.some.injEq, Prod.mk.injEq] at h
    obtain ⟨rfl, rfl, rfl⟩ := h
    obtain ⟨m, hm⟩ := hGm.maxLen
    refine (Tryd.strings_Cut a0 a1 m w hs hm).mono ?_
    rintro e w' ⟨rfl, n, rfl⟩
    exact ⟨rfl, ⟨⟨n, rfl⟩⟩⟩
  · cases h

theorem hascii (l : List UInt8) (h : l.all (fun b => decide (b.toNat < 128)) = true) : ∀ (j : Nat) b, l[j]? = some b → b.toNat < 128 := ascii_of_all h
theorem infoSet : (Tryd.prog.info? 88).map (fun i => (i.zero, i.size)) = some (some (.agg (Array.replicate 256 (.bool false))), 256) := by kernel_rfl

/-! strings.Trim, strings.TrimRight, of an ASCII cutset -/
def strings_Trim.f (a0 a1 : ByteArray) : Option ByteArray :=
  if a0.size ≤ 9223372036854775807 then if a1.size < 4294967281 then if a1.data.toList.all (fun b => decide (b.toNat < 128)) = true then
    some ⟨(Lib.trimS a0.data.toList a1.data.toList).toArray⟩ else none else none else none
theorem strings_Trim.calls (a0 a1 : ByteArray) (r : ByteArray) (w : World) (h : strings_Trim.f a0 a1 = some r) :
    Calls Tryd.prog 65 #[.string a0, .string a1] w fun e w' => e = .returned (.string r) ∧ Below w.heap.size w w' := by
  unfold strings_Trim.f at h
  split at h
  · rename_i h1
    split at h
    · rename_i h2
      split at h
      · rename_i h3
        obtain rfl := Option.some.inj h
        exact Any.strings_Trim_laid Tryd.lays160 infoSet a0 a1 w h1 h2 (hascii _ h3)
      · cases h
    · cases h
  · cases h

/-! strconv.FormatInt at base 10, strconv.Itoa -/
end Go.Proofs.YtaldfmbnfnagjaaDoor.X
