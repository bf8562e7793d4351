/- The library's functions that this claim's walks call, each by a contract of the kit's shelf, as plain functions that answer 'some r'; and what the walks ask of the laid variables (GoodW). -/
import Derived.Test.YtmoohjomkdcdhaaDoorShelf
import Derived.Shelf.Strings.SlTrimAscii
import Derived.Lib.AppendIntMem
import Derived.Test.YtmoohjomkdcdhaaDoorWMore
namespace Go.Proofs.YtmoohjomkdcdhaaDoor.X
open Go.RowKit Go.Proofs.YtmoohjomkdcdhaaDoorW.PrintWords Go.Proofs.YtmoohjomkdcdhaaDoorW.PrintLast Go.Proofs.YtmoohjomkdcdhaaDoorW.PrintMore
set_option linter.unusedVariables false

/-- What the walks ask of the package-level variables of the library: two cells' contents. -/
structure GoodW (w : World) : Prop where
  maxLen : ∃ m, w.cell? ⟨0, 0, none⟩ = some (.int .i64 m)
  pow10 : Lib.TabIs Tryd.prog w "internal/strconv.uint64pow10" .u64 Lib.pow10Tab

theorem GoodW.below {w w' : World} (h : GoodW w) (hb : Below w.heap.size w w') : GoodW w' := by
  refine ⟨?_, Lib.tabBelow_of_tabIs h.pow10 w' hb⟩
  obtain ⟨m, hm⟩ := h.maxLen
  have hlt : 0 < w.heap.size := by
    rcases Nat.lt_or_ge 0 w.heap.size with h1 | h1
    · exact h1
    · exfalso
      rw [World.cell?] at hm
      simp only at hm
      rw [Array.getElem?_eq_none h1] at hm
      simp at hm
  exact ⟨m, by rw [hb.cell (p := ⟨0, 0, none⟩) hlt]; exact hm⟩

theorem GoodW.drawn {w w' : World} (h : GoodW w) (hd : Drawn0 w w') : GoodW w' := h.below hd.below

/-! strings.Cut -/
def strings_Cut.f (a0 a1 : ByteArray) : Option (ByteArray × ByteArray × Bool) :=
  if a0.size < 4294967281 then some (⟨(Lib.cut a0.data.toList a1.data.toList).1.toArray⟩, ⟨(Lib.cut a0.data.toList a1.data.toList).2.1.toArray⟩, (Lib.cut a0.data.toList a1.data.toList).2.2) else none
theorem strings_Cut.calls (a0 a1 : ByteArray) (r1 r2 : ByteArray) (r3 : Bool) (w : World) (hG : GoodW w) (h : strings_Cut.f a0 a1 = some (r1, r2, r3)) :
    Calls Tryd.prog 19 #[.string a0, .string a1] w fun e w' => e = .returned (.tuple #[.string r1, .string r2, .bool r3]) ∧ Drawn0 w w' := by
  unfold strings_Cut.f at h
  split at h
  · rename_i hs
    simp only [Option.some.injEq, Prod.mk.injEq] at h
    obtain ⟨rfl, rfl, rfl⟩ := h
    obtain ⟨m, hm⟩ := hG.maxLen
    refine (Tryd.strings_Cut a0 a1 m w hs hm).mono ?_
    rintro e w' ⟨rfl, n, rfl⟩
    exact ⟨rfl, ⟨⟨n, rfl⟩⟩⟩
  · cases h

theorem hascii (l : List UInt8) (h : l.all (fun b => decide (b.toNat < 128)) = true) : ∀ (j : Nat) b, l[j]? = some b → b.toNat < 128 := ascii_of_all h
theorem infoSet : (Tryd.prog.info? 53).map (fun i => (i.zero, i.size)) = some (some (.agg (Array.replicate 256 (.bool false))), 256) := by kernel_rfl

/-! strings.Trim, strings.TrimRight, of an ASCII cutset -/
def strings_Trim.f (a0 a1 : ByteArray) : Option ByteArray :=
  if a0.size ≤ 9223372036854775807 then if a1.size < 4294967281 then if a1.data.toList.all (fun b => decide (b.toNat < 128)) = true then
    some ⟨(Lib.trimS a0.data.toList a1.data.toList).toArray⟩ else none else none else none
theorem strings_Trim.calls (a0 a1 : ByteArray) (r : ByteArray) (w : World) (h : strings_Trim.f a0 a1 = some r) :
    Calls Tryd.prog 33 #[.string a0, .string a1] w fun e w' => e = .returned (.string r) ∧ Below w.heap.size w w' := by
  unfold strings_Trim.f at h
  split at h
  · rename_i h1
    split at h
    · rename_i h2
      split at h
      · rename_i h3
        obtain rfl := Option.some.inj h
        exact Any.strings_Trim_laid Tryd.lays160 infoSet a0 a1 w h1 h2 (hascii _ h3)
      · cases h
    · cases h
  · cases h

def strings_TrimRight.f (a0 a1 : ByteArray) : Option ByteArray :=
  if a0.size ≤ 9223372036854775807 then if a1.size < 4294967281 then if a1.data.toList.all (fun b => decide (b.toNat < 128)) = true then
    some ⟨(Lib.trimRightS a0.data.toList a1.data.toList).toArray⟩ else none else none else none
theorem strings_TrimRight.calls (a0 a1 : ByteArray) (r : ByteArray) (w : World) (h : strings_TrimRight.f a0 a1 = some r) :
    Calls Tryd.prog 27 #[.string a0, .string a1] w fun e w' => e = .returned (.string r) ∧ Below w.heap.size w w' := by
  unfold strings_TrimRight.f at h
  split at h
  · rename_i h1
    split at h
    · rename_i h2
      split at h
      · rename_i h3
        obtain rfl := Option.some.inj h
        exact Any.strings_TrimRight_laid Tryd.lays162 infoSet a0 a1 w h1 h2 (hascii _ h3)
      · cases h
    · cases h
  · cases h

/-! strconv.FormatInt at base 10, strconv.Itoa -/
def strconv_FormatInt.f (a0 a1 : Int) : Option ByteArray :=
  if -9223372036854775808 ≤ a0 then if a0 ≤ 9223372036854775807 then if a1 = 10 then some ⟨(Lib.itoa a0).toArray⟩ else none else none else none
theorem strconv_FormatInt.calls (a0 a1 : Int) (r : ByteArray) (w : World) (hG : GoodW w) (h : strconv_FormatInt.f a0 a1 = some r) :
    Calls Tryd.prog 26 #[.int .i64 a0, .int .i64 a1] w fun e w' => e = .returned (.string r) ∧ Below w.heap.size w w' := by
  unfold strconv_FormatInt.f at h
  split at h
  · rename_i h1
    split at h
    · rename_i h2
      split at h
      · rename_i h3
        obtain rfl := Option.some.inj h
        subst h3
        refine (Tryd.strconv_FormatInt_10 a0 h1 h2 w hG.pow10).mono ?_
        rintro e w' ⟨rfl, k, os, rfl⟩
        exact ⟨rfl, Lib.below_grow _ _ (Nat.le_refl _) _ _⟩
      · cases h
    · cases h
  · cases h

def strconv_Itoa.f (a0 : Int) : Option ByteArray :=
  if -9223372036854775808 ≤ a0 then if a0 ≤ 9223372036854775807 then some ⟨(Lib.itoa a0).toArray⟩ else none else none
theorem strconv_Itoa.calls (a0 : Int) (r : ByteArray) (w : World) (hG : GoodW w) (h : strconv_Itoa.f a0 = some r) :
    Calls Tryd.prog 30 #[.int .i64 a0] w fun e w' => e = .returned (.string r) ∧ Below w.heap.size w w' := by
  unfold strconv_Itoa.f at h
  split at h
  · rename_i h1
    split at h
    · rename_i h2
      obtain rfl := Option.some.inj h
      refine (Tryd.strconv_Itoa a0 h1 h2 w hG.pow10).mono ?_
      rintro e w' ⟨rfl, k, os, rfl⟩
      exact ⟨rfl, Lib.below_grow _ _ (Nat.le_refl _) _ _⟩
    · cases h
  · cases h
end Go.Proofs.YtmoohjomkdcdhaaDoor.X
