/- The functions that these statements reach, as plain functions, and that the Go code does just that: printed by a program of ours. -/
import Derived.Test.YtaldfmbnfnagjaaDoorEvExt
import Derived.KernelRfl
namespace Go.Proofs.YtaldfmbnfnagjaaDoor.E
set_option maxRecDepth 100000
set_option linter.unusedVariables false
abbrev SacceptRange : Sh := (.pair (.int .u8) (.pair (.int .u8) .unit))
abbrev SW : Sh := (.pair (.int .u64) (.pair (.int .u64) .unit))
abbrev SVec : Sh := (.pair (.sl (.int .i64)) (.pair (.sl (.int .i64)) .unit))
abbrev SValue : Sh := (.pair (.int .i64) (.pair (.int .i64) (.pair .str (.pair (.int .i64) .unit))))
def namesL : List ByteArray := [⟨#[]⟩, ⟨#[35, 82, 69, 70, 33]⟩, ⟨#[35, 86, 65, 76, 85, 69, 33]⟩, ⟨#[35, 68, 73, 86, 47, 48, 33]⟩, ⟨#[35, 78, 85, 77, 33]⟩, ⟨#[35, 67, 89, 67, 76, 69, 33]⟩]
def fnL : List (FuncId × Entry) → FuncId → Option Entry
  | [], _ => none
  | p :: r, f => cond (Nat.beq f p.1) (some p.2) (fnL r f)
theorem fn_nil {P : Program} {B : M} : ∀ f E, fnL [] f = some E → Spec P B f E := fun _ _ h => by cases h
theorem fn_cons {P : Program} {B : M} {f0 : FuncId} {E0 : Entry} {l : List (FuncId × Entry)} (h : Spec P B f0 E0) (r : ∀ f E, fnL l f = some E → Spec P B f E) : ∀ f E, fnL ((f0, E0) :: l) f = some E → Spec P B f E := fun f E k => by
  simp only [fnL, cond_eq_ite] at k
  split at k
  · rename_i e; have e := Nat.eq_of_beq_eq_true e; subst e; cases k; exact h
  · exact r f E k
def shs : TypeId → Option Sh := fun t => cond (Nat.beq t 23) (some (.sl (.int .i64))) (cond (Nat.beq t 33) (some SValue) (cond (Nat.beq t 3) (some (.int .i64)) (cond (Nat.beq t 2) (some (.int .i64)) (none))))
def gls : Nat → Option ((s : Sh) × List s.T) := fun k => cond (Nat.beq k 0) (some ⟨.str, namesL⟩) (none)
theorem mixed : Tryd.prog.follows .mixedOrders = true := by kernel_rfl
/-- What is known of the laid variables. -/
structure Good (B : M) : Prop where
  lib : Lib0 B
  g0 : At B 0 0 (.str : Sh).n (RdT B .str) namesL
theorem Good.globs {B : M} (hB : Good B) : ∀ g row xs, gls g = some ⟨row, xs⟩ → At B g 0 row.n (RdT B row) xs := fun g row xs h => by
  simp only [gls, cond_eq_ite] at h
  split at h
  · rename_i e; have e := Nat.eq_of_beq_eq_true e; subst e; cases h; exact hB.g0
  · cases h
/-! cadastre/value.truth: function 47 -/
def value_truth.f (is0 : Bool) : Option (SValue.T × Unit) :=
  cond is0
  (some (((1 : Int), (1 : Int), (⟨#[]⟩ : ByteArray), (0 : Int), ()), ()))
  (some (((1 : Int), (0 : Int), (⟨#[]⟩ : ByteArray), (0 : Int), ()), ()))
def value_truth.h : Hint := .auto
abbrev value_truth.E : Entry := ⟨[.leaf .bool], [.agg SValue], fun x => value_truth.f x.1⟩
noncomputable def value_truth.C : Ctx := ⟨Tryd.prog, 6, shs, fnL [], gls⟩
theorem value_truth.ev : (fun x : VsT value_truth.E.a => evF value_truth.C Tryd.f47 (Tryd.f47.body.getD .skip) value_truth.h value_truth.E.a value_truth.E.r x) = value_truth.E.g := by as_aux_lemma => kernel_rfl
theorem value_truth.spec {B : M} (hB : Good B) : Spec Tryd.prog B 47 value_truth.E := spec_of (C := value_truth.C) Tryd.func47 (by kernel_rfl) (by kernel_rfl) rfl mixed hB.globs fn_nil value_truth.ev
/-! cadastre/fix.can: function 52 -/
def fix_can.l0 (rec : (List Int) × Int × Int × Unit → Option (Bool × Unit)) (x : (List Int) × Int × Int × Unit) : Option (Bool × Unit) :=
  cond (decide (x.2.2.1 < x.2.1))
  ((idx x.1 x.2.2.1).bind fun y2 =>
  cond (y2 == (-9223372036854775808 : Int))
  (some (false, ()))
  (rec (x.1, x.2.1, (IntKind.i64.wrap (x.2.2.1 + (1 : Int))), ())))
  (some (true, ()))
def fix_can.f (l0 : (List Int)) : Option (Bool × Unit) :=
  loopN fix_can.l0 (64 + l0.length + (l0.length : Int).natAbs + (0 : Int).natAbs) (l0, (l0.length : Int), (0 : Int), ())
def fix_can.h : Hint := .seq none (.auto) (.seq none (.seq none (.auto) (.block (.loop [(5, .sh (.leaf (.sl (.int .i64)))), (6, .sh (.leaf (.int .i64))), (7, .sh (.leaf (.int .i64)))] (fun x => 64 + x.1.length + x.2.1.natAbs + x.2.2.1.natAbs) (.auto)))) (.auto))
abbrev fix_can.E : Entry := ⟨[.leaf (.sl (.int .i64))], [.leaf .bool], fun x => fix_can.f x.1⟩
noncomputable def fix_can.C : Ctx := ⟨Tryd.prog, 14, shs, fnL [], gls⟩
theorem fix_can.ev : (fun x : VsT fix_can.E.a => evF fix_can.C Tryd.f52 (Tryd.f52.body.getD .skip) fix_can.h fix_can.E.a fix_can.E.r x) = fix_can.E.g := by as_aux_lemma => kernel_rfl
theorem fix_can.spec {B : M} (hB : Good B) : Spec Tryd.prog B 52 fix_can.E := spec_of (C := fix_can.C) Tryd.func52 (by kernel_rfl) (by kernel_rfl) rfl mixed hB.globs fn_nil fix_can.ev
/-! cadastre/fix.Can: function 41 -/
def fix_Can.f (a0 : Int) : Option (Bool × Unit) :=
  (fix_can.f ([a0] : List Int)).bind fun y1 =>
  some (y1.1, ())
def fix_Can.h : Hint := .auto
abbrev fix_Can.E : Entry := ⟨[.leaf (.int .i64)], [.leaf .bool], fun x => fix_Can.f x.1⟩
noncomputable def fix_Can.C : Ctx := ⟨Tryd.prog, 6, shs, fnL [(52, fix_can.E)], gls⟩
theorem fix_Can.ev : (fun x : VsT fix_Can.E.a => evF fix_Can.C Tryd.f41 (Tryd.f41.body.getD .skip) fix_Can.h fix_Can.E.a fix_Can.E.r x) = fix_Can.E.g := by as_aux_lemma => kernel_rfl
theorem fix_Can.spec {B : M} (hB : Good B) : Spec Tryd.prog B 41 fix_Can.E := spec_of (C := fix_Can.C) Tryd.func41 (by kernel_rfl) (by kernel_rfl) rfl mixed hB.globs (fn_cons (fix_can.spec hB) fn_nil) fix_Can.ev
/-! cadastre/value.wrong: function 50 -/
def value_wrong.f (e0 : Int) : Option (SValue.T × Unit) :=
  some (((4 : Int), (0 : Int), (⟨#[]⟩ : ByteArray), e0, ()), ())
def value_wrong.h : Hint := .auto
abbrev value_wrong.E : Entry := ⟨[.leaf (.int .i64)], [.agg SValue], fun x => value_wrong.f x.1⟩
noncomputable def value_wrong.C : Ctx := ⟨Tryd.prog, 5, shs, fnL [], gls⟩
theorem value_wrong.ev : (fun x : VsT value_wrong.E.a => evF value_wrong.C Tryd.f50 (Tryd.f50.body.getD .skip) value_wrong.h value_wrong.E.a value_wrong.E.r x) = value_wrong.E.g := by as_aux_lemma => kernel_rfl
theorem value_wrong.spec {B : M} (hB : Good B) : Spec Tryd.prog B 50 value_wrong.E := spec_of (C := value_wrong.C) Tryd.func50 (by kernel_rfl) (by kernel_rfl) rfl mixed hB.globs fn_nil value_wrong.ev
/-! cadastre/value.number: function 43 -/
def value_number.f (n0 : Int) : Option (SValue.T × Unit) :=
  (fix_Can.f n0).bind fun y1 =>
  cond (!y1.1)
  ((value_wrong.f (4 : Int)).bind fun y2 =>
  some (y2.1, ()))
  (some (((2 : Int), n0, (⟨#[]⟩ : ByteArray), (0 : Int), ()), ()))
def value_number.h : Hint := .auto
abbrev value_number.E : Entry := ⟨[.leaf (.int .i64)], [.agg SValue], fun x => value_number.f x.1⟩
noncomputable def value_number.C : Ctx := ⟨Tryd.prog, 9, shs, fnL [(41, fix_Can.E), (50, value_wrong.E)], gls⟩
theorem value_number.ev : (fun x : VsT value_number.E.a => evF value_number.C Tryd.f43 (Tryd.f43.body.getD .skip) value_number.h value_number.E.a value_number.E.r x) = value_number.E.g := by as_aux_lemma => kernel_rfl
theorem value_number.spec {B : M} (hB : Good B) : Spec Tryd.prog B 43 value_number.E := spec_of (C := value_number.C) Tryd.func43 (by kernel_rfl) (by kernel_rfl) rfl mixed hB.globs (fn_cons (fix_Can.spec hB) (fn_cons (value_wrong.spec hB) fn_nil)) value_number.ev
/-! cadastre/value.text: function 48 -/
def value_text.f (s0 : ByteArray) : Option (SValue.T × Unit) :=
  cond (decide ((s0.size : Int) > (300 : Int)))
  ((value_wrong.f (2 : Int)).bind fun y1 =>
  some (y1.1, ()))
  (some (((3 : Int), (0 : Int), s0, (0 : Int), ()), ()))
def value_text.h : Hint := .auto
abbrev value_text.E : Entry := ⟨[.leaf .str], [.agg SValue], fun x => value_text.f x.1⟩
noncomputable def value_text.C : Ctx := ⟨Tryd.prog, 9, shs, fnL [(50, value_wrong.E)], gls⟩
theorem value_text.ev : (fun x : VsT value_text.E.a => evF value_text.C Tryd.f48 (Tryd.f48.body.getD .skip) value_text.h value_text.E.a value_text.E.r x) = value_text.E.g := by as_aux_lemma => kernel_rfl
theorem value_text.spec {B : M} (hB : Good B) : Spec Tryd.prog B 48 value_text.E := spec_of (C := value_text.C) Tryd.func48 (by kernel_rfl) (by kernel_rfl) rfl mixed hB.globs (fn_cons (value_wrong.spec hB) fn_nil) value_text.ev
/-! cadastre/value.errName: function 49 -/
def value_errName.f (e0 : Int) : Option (ByteArray × Unit) :=
  cond ((decide (e0 < (0 : Int))) == false)
  (cond (decide (e0 ≥ (6 : Int)))
  (some ((⟨#[]⟩ : ByteArray), ()))
  ((idx namesL e0).bind fun y1 =>
  some (y1, ())))
  (some ((⟨#[]⟩ : ByteArray), ()))
def value_errName.h : Hint := .auto
abbrev value_errName.E : Entry := ⟨[.leaf (.int .i64)], [.leaf .str], fun x => value_errName.f x.1⟩
noncomputable def value_errName.C : Ctx := ⟨Tryd.prog, 12, shs, fnL [], gls⟩
theorem value_errName.ev : (fun x : VsT value_errName.E.a => evF value_errName.C Tryd.f49 (Tryd.f49.body.getD .skip) value_errName.h value_errName.E.a value_errName.E.r x) = value_errName.E.g := by as_aux_lemma => kernel_rfl
theorem value_errName.spec {B : M} (hB : Good B) : Spec Tryd.prog B 49 value_errName.E := spec_of (C := value_errName.C) Tryd.func49 (by kernel_rfl) (by kernel_rfl) rfl mixed hB.globs fn_nil value_errName.ev
/-! cadastre/value.normal: function 38 -/
def value_normal.f (v0 : SValue.T) : Option (SValue.T × Unit) :=
  cond (v0.1 == (1 : Int))
  ((value_truth.f (v0.2.1 != (0 : Int))).bind fun y1 =>
  some (y1.1, ()))
  (cond (v0.1 == (2 : Int))
  ((value_number.f v0.2.1).bind fun y2 =>
  some (y2.1, ()))
  (cond (v0.1 == (3 : Int))
  ((value_text.f v0.2.2.1).bind fun y3 =>
  some (y3.1, ()))
  (cond (v0.1 == (4 : Int))
  ((value_errName.f v0.2.2.2.1).bind fun y4 =>
  cond (y4.1.toList == (⟨#[]⟩ : ByteArray).toList)
  ((value_wrong.f (2 : Int)).bind fun y5 =>
  some (y5.1, ()))
  ((value_wrong.f v0.2.2.2.1).bind fun y6 =>
  some (y6.1, ())))
  (some (((0 : Int), (0 : Int), (⟨#[]⟩ : ByteArray), (0 : Int), ()), ())))))
def value_normal.h : Hint := .auto
abbrev value_normal.E : Entry := ⟨[.agg SValue], [.agg SValue], fun x => value_normal.f x.1⟩
noncomputable def value_normal.C : Ctx := ⟨Tryd.prog, 32, shs, fnL [(43, value_number.E), (47, value_truth.E), (48, value_text.E), (49, value_errName.E), (50, value_wrong.E)], gls⟩
theorem value_normal.ev : (fun x : VsT value_normal.E.a => evF value_normal.C Tryd.f38 (Tryd.f38.body.getD .skip) value_normal.h value_normal.E.a value_normal.E.r x) = value_normal.E.g := by as_aux_lemma => kernel_rfl
theorem value_normal.spec {B : M} (hB : Good B) : Spec Tryd.prog B 38 value_normal.E := spec_of (C := value_normal.C) Tryd.func38 (by kernel_rfl) (by kernel_rfl) rfl mixed hB.globs (fn_cons (value_number.spec hB) (fn_cons (value_truth.spec hB) (fn_cons (value_text.spec hB) (fn_cons (value_errName.spec hB) (fn_cons (value_wrong.spec hB) fn_nil))))) value_normal.ev
/-! cadastre/value.Normal: function 20 -/
def value_Normal.f (v0 : SValue.T) : Option (SValue.T × Unit) :=
  (value_normal.f v0).bind fun y1 =>
  some (y1.1, ())
def value_Normal.h : Hint := .auto
abbrev value_Normal.E : Entry := ⟨[.agg SValue], [.agg SValue], fun x => value_Normal.f x.1⟩
noncomputable def value_Normal.C : Ctx := ⟨Tryd.prog, 5, shs, fnL [(38, value_normal.E)], gls⟩
theorem value_Normal.ev : (fun x : VsT value_Normal.E.a => evF value_Normal.C Tryd.f20 (Tryd.f20.body.getD .skip) value_Normal.h value_Normal.E.a value_Normal.E.r x) = value_Normal.E.g := by as_aux_lemma => kernel_rfl
theorem value_Normal.spec {B : M} (hB : Good B) : Spec Tryd.prog B 20 value_Normal.E := spec_of (C := value_Normal.C) Tryd.func20 (by kernel_rfl) (by kernel_rfl) rfl mixed hB.globs (fn_cons (value_normal.spec hB) fn_nil) value_Normal.ev
/-! internal/stringslite.HasPrefix: function 66 -/
def internal_stringslite_HasPrefix.f (s0 : ByteArray) (prefix1 : ByteArray) : Option (Bool × Unit) :=
  cond ((decide ((s0.size : Int) ≥ (prefix1.size : Int))) == true)
  (cond (decide ((0 : Int) ≤ (prefix1.size : Int)))
  (cond (decide ((prefix1.size : Int) ≤ (s0.size : Int)))
  (some (((s0.extract 0 (prefix1.size : Int).toNat).toList == prefix1.toList), ()))
  (none))
  (none))
  (some (false, ()))
def internal_stringslite_HasPrefix.h : Hint := .auto
abbrev internal_stringslite_HasPrefix.E : Entry := ⟨[.leaf .str, .leaf .str], [.leaf .bool], fun x => internal_stringslite_HasPrefix.f x.1 x.2.1⟩
noncomputable def internal_stringslite_HasPrefix.C : Ctx := ⟨Tryd.prog, 18, shs, fnL [], gls⟩
theorem internal_stringslite_HasPrefix.ev : (fun x : VsT internal_stringslite_HasPrefix.E.a => evF internal_stringslite_HasPrefix.C Tryd.f66 (Tryd.f66.body.getD .skip) internal_stringslite_HasPrefix.h internal_stringslite_HasPrefix.E.a internal_stringslite_HasPrefix.E.r x) = internal_stringslite_HasPrefix.E.g := by as_aux_lemma => kernel_rfl
theorem internal_stringslite_HasPrefix.spec {B : M} (hB : Good B) : Spec Tryd.prog B 66 internal_stringslite_HasPrefix.E := spec_of (C := internal_stringslite_HasPrefix.C) Tryd.func66 (by kernel_rfl) (by kernel_rfl) rfl mixed hB.globs fn_nil internal_stringslite_HasPrefix.ev
/-! internal/stringslite.CutPrefix: function 63 -/
def internal_stringslite_CutPrefix.f (s0 : ByteArray) (prefix1 : ByteArray) : Option (ByteArray × Bool × Unit) :=
  (internal_stringslite_HasPrefix.f s0 prefix1).bind fun y1 =>
  cond (!y1.1)
  (some (s0, false, ()))
  (cond (decide ((0 : Int) ≤ (prefix1.size : Int)))
  (cond (decide ((prefix1.size : Int) ≤ (s0.size : Int)))
  (some ((s0.extract (prefix1.size : Int).toNat s0.size), true, ()))
  (none))
  (none))
def internal_stringslite_CutPrefix.h : Hint := .auto
abbrev internal_stringslite_CutPrefix.E : Entry := ⟨[.leaf .str, .leaf .str], [.leaf .str, .leaf .bool], fun x => internal_stringslite_CutPrefix.f x.1 x.2.1⟩
noncomputable def internal_stringslite_CutPrefix.C : Ctx := ⟨Tryd.prog, 15, shs, fnL [(66, internal_stringslite_HasPrefix.E)], gls⟩
theorem internal_stringslite_CutPrefix.ev : (fun x : VsT internal_stringslite_CutPrefix.E.a => evF internal_stringslite_CutPrefix.C Tryd.f63 (Tryd.f63.body.getD .skip) internal_stringslite_CutPrefix.h internal_stringslite_CutPrefix.E.a internal_stringslite_CutPrefix.E.r x) = internal_stringslite_CutPrefix.E.g := by as_aux_lemma => kernel_rfl
theorem internal_stringslite_CutPrefix.spec {B : M} (hB : Good B) : Spec Tryd.prog B 63 internal_stringslite_CutPrefix.E := spec_of (C := internal_stringslite_CutPrefix.C) Tryd.func63 (by kernel_rfl) (by kernel_rfl) rfl mixed hB.globs (fn_cons (internal_stringslite_HasPrefix.spec hB) fn_nil) internal_stringslite_CutPrefix.ev
/-! strings.CutPrefix: function 59 -/
def strings_CutPrefix.f (s0 : ByteArray) (prefix1 : ByteArray) : Option (ByteArray × Bool × Unit) :=
  (internal_stringslite_CutPrefix.f s0 prefix1).bind fun y1 =>
  some (y1.1, y1.2.1, ())
def strings_CutPrefix.h : Hint := .auto
abbrev strings_CutPrefix.E : Entry := ⟨[.leaf .str, .leaf .str], [.leaf .str, .leaf .bool], fun x => strings_CutPrefix.f x.1 x.2.1⟩
noncomputable def strings_CutPrefix.C : Ctx := ⟨Tryd.prog, 11, shs, fnL [(63, internal_stringslite_CutPrefix.E)], gls⟩
theorem strings_CutPrefix.ev : (fun x : VsT strings_CutPrefix.E.a => evF strings_CutPrefix.C Tryd.f59 (Tryd.f59.body.getD .skip) strings_CutPrefix.h strings_CutPrefix.E.a strings_CutPrefix.E.r x) = strings_CutPrefix.E.g := by as_aux_lemma => kernel_rfl
theorem strings_CutPrefix.spec {B : M} (hB : Good B) : Spec Tryd.prog B 59 strings_CutPrefix.E := spec_of (C := strings_CutPrefix.C) Tryd.func59 (by kernel_rfl) (by kernel_rfl) rfl mixed hB.globs (fn_cons (internal_stringslite_CutPrefix.spec hB) fn_nil) strings_CutPrefix.ev
/-! cadastre/num.digits: function 61 -/
def num_digits.f (s0 : ByteArray) : Option (Bool × Unit) :=
  cond ((!(s0.toList == (⟨#[]⟩ : ByteArray).toList)) == true)
  (cond ((decide ((s0.size : Int) ≤ (40 : Int))) == true)
  ((ext_Trim s0 (⟨#[48, 49, 50, 51, 52, 53, 54, 55, 56, 57]⟩ : ByteArray)).bind fun y1 =>
  some ((y1.1.toList == (⟨#[]⟩ : ByteArray).toList), ()))
  (some (false, ())))
  (some (false, ()))
def num_digits.h : Hint := .auto
abbrev num_digits.E : Entry := ⟨[.leaf .str], [.leaf .bool], fun x => num_digits.f x.1⟩
noncomputable def num_digits.C : Ctx := ⟨Tryd.prog, 15, shs, fnL [(65, ext_Trim.E)], gls⟩
theorem num_digits.ev : (fun x : VsT num_digits.E.a => evF num_digits.C Tryd.f61 (Tryd.f61.body.getD .skip) num_digits.h num_digits.E.a num_digits.E.r x) = num_digits.E.g := by as_aux_lemma => kernel_rfl
theorem num_digits.spec {B : M} (hB : Good B) : Spec Tryd.prog B 61 num_digits.E := spec_of (C := num_digits.C) Tryd.func61 (by kernel_rfl) (by kernel_rfl) rfl mixed hB.globs (fn_cons (ext_Trim.spec) fn_nil) num_digits.ev
/-! cadastre/num.Parse: function 54 -/
def num_Parse.l0 (rec : Bool × ByteArray × ByteArray × Unit → Option (Cut (Bool × ByteArray × ByteArray × Unit) (Int × Int × Unit))) (x : Bool × ByteArray × ByteArray × Unit) : Option (Cut (Bool × ByteArray × ByteArray × Unit) (Int × Int × Unit)) :=
  cond (decide ((x.2.2.1.size : Int) ≤ (4 : Int)))
  (cond (decide (((x.2.2.1.size + (⟨#[48]⟩ : ByteArray).size : Nat) : Int) > IntKind.i64.max))
  (none)
  (rec (x.1, x.2.1, (x.2.2.1 ++ (⟨#[48]⟩ : ByteArray)), ())))
  (some (.go (x.1, x.2.1, x.2.2.1, ())))
def num_Parse.l1 (rec : Bool × ByteArray × Int × (List Int) × Int × Int × Unit → Option (Cut (Bool × ByteArray × Int × Unit) (Int × Int × Unit))) (x : Bool × ByteArray × Int × (List Int) × Int × Int × Unit) : Option (Cut (Bool × ByteArray × Int × Unit) (Int × Int × Unit)) :=
  cond (decide (x.2.2.2.2.2.1 < x.2.2.2.2.1))
  ((idx x.2.2.2.1 x.2.2.2.2.2.1).bind fun y12 =>
  cond (decide (x.2.2.1 > (IntKind.u64.wrap ((IntKind.u64.wrap ((9223372036854775807 : Int) - (IntKind.u64.wrap (IntKind.u8.wrap (y12 - (48 : Int)))))).tdiv (10 : Int)))))
  (some (.out ((0 : Int), (2 : Int), ())))
  (rec (x.1, x.2.1, (IntKind.u64.wrap ((IntKind.u64.wrap ((10 : Int) * x.2.2.1)) + (IntKind.u64.wrap (IntKind.u8.wrap (y12 - (48 : Int)))))), x.2.2.2.1, x.2.2.2.2.1, (IntKind.i64.wrap (x.2.2.2.2.2.1 + (1 : Int))), ())))
  (some (.go (x.1, x.2.1, x.2.2.1, ())))
def num_Parse.f (s0 : ByteArray) : Option (Int × Int × Unit) :=
  (strings_CutPrefix.f s0 (⟨#[45]⟩ : ByteArray)).bind fun y1 =>
  (ext_Cut y1.1 (⟨#[46]⟩ : ByteArray)).bind fun y2 =>
  cutBind (T := Bool × ByteArray × ByteArray × Unit) (
  (num_digits.f y2.1).bind fun y5 =>
  cond ((!y5.1) == false)
  (cond (y2.2.2.1 == true)
  ((num_digits.f y2.2.1).bind fun y6 =>
  cond (!y6.1)
  (some (.out ((0 : Int), (0 : Int), ())))
  (some (.go (y1.2.1, y2.1, y2.2.1, ()))))
  (some (.go (y1.2.1, y2.1, y2.2.1, ()))))
  (some (.out ((0 : Int), (0 : Int), ()))))
  fun x7 =>
  cutBind (T := Bool × ByteArray × ByteArray × Unit) (
  loopN num_Parse.l0 (64 + x7.2.1.size + x7.2.2.1.size) (x7.1, x7.2.1, x7.2.2.1, ()))
  fun x8 =>
  cutBind (T := Bool × ByteArray × Int × Unit) (
  cond (decide ((4 : Int) ≤ (x8.2.2.1.size : Int)))
  (cond (decide (((x8.2.1.size + (x8.2.2.1.extract 0 4).size : Nat) : Int) > IntKind.i64.max))
  (none)
  (loopN num_Parse.l1 (64 + x8.2.2.1.size + (0 : Int).natAbs + (bytesL (x8.2.1 ++ (x8.2.2.1.extract 0 4))).length + ((bytesL (x8.2.1 ++ (x8.2.2.1.extract 0 4))).length : Int).natAbs + (0 : Int).natAbs) (x8.1, x8.2.2.1, (0 : Int), (bytesL (x8.2.1 ++ (x8.2.2.1.extract 0 4))), ((bytesL (x8.2.1 ++ (x8.2.2.1.extract 0 4))).length : Int), (0 : Int), ())))
  (none))
  fun x13 =>
  (sidx x13.2.1 (4 : Int)).bind fun c14 =>
  cond (decide (c14 ≥ (53 : Int)))
  (cond (decide ((IntKind.u64.wrap (x13.2.2.1 + (1 : Int))) > (9223372036854775807 : Int)))
  (some ((0 : Int), (2 : Int), ()))
  (cond x13.1
  (some ((IntKind.i64.wrap (0 - (IntKind.i64.wrap (IntKind.u64.wrap (x13.2.2.1 + (1 : Int)))))), (1 : Int), ()))
  (some ((IntKind.i64.wrap (IntKind.u64.wrap (x13.2.2.1 + (1 : Int)))), (1 : Int), ()))))
  (cond (decide (x13.2.2.1 > (9223372036854775807 : Int)))
  (some ((0 : Int), (2 : Int), ()))
  (cond x13.1
  (some ((IntKind.i64.wrap (0 - (IntKind.i64.wrap x13.2.2.1))), (1 : Int), ()))
  (some ((IntKind.i64.wrap x13.2.2.1), (1 : Int), ()))))
def num_Parse.h : Hint := .seq none (.auto) (.seq none (.auto) (.seq none (.auto) (.seq (some [(4, .sh (.leaf .bool)), (5, .sh (.leaf .str)), (6, .sh (.leaf .str))]) (.auto) (.seq (some [(4, .sh (.leaf .bool)), (5, .sh (.leaf .str)), (6, .sh (.leaf .str))]) (.block (.loop [(4, .sh (.leaf .bool)), (5, .sh (.leaf .str)), (6, .sh (.leaf .str))] (fun x => 64 + x.2.1.size + x.2.2.1.size) (.auto))) (.seq none (.auto) (.seq (some [(4, .sh (.leaf .bool)), (6, .sh (.leaf .str)), (8, .sh (.leaf (.int .u64)))]) (.seq none (.auto) (.block (.loop [(4, .sh (.leaf .bool)), (6, .sh (.leaf .str)), (8, .sh (.leaf (.int .u64))), (43, .sh (.leaf (.sl (.int .u8)))), (44, .sh (.leaf (.int .i64))), (45, .sh (.leaf (.int .i64)))] (fun x => 64 + x.2.1.size + x.2.2.1.natAbs + x.2.2.2.1.length + x.2.2.2.2.1.natAbs + x.2.2.2.2.2.1.natAbs) (.auto)))) (.auto)))))))
abbrev num_Parse.E : Entry := ⟨[.leaf .str], [.leaf (.int .i64), .leaf (.int .i64)], fun x => num_Parse.f x.1⟩
noncomputable def num_Parse.C : Ctx := ⟨Tryd.prog, 75, shs, fnL [(59, strings_CutPrefix.E), (60, ext_Cut.E), (61, num_digits.E)], gls⟩
theorem num_Parse.ev : (fun x : VsT num_Parse.E.a => evF num_Parse.C Tryd.f54 (Tryd.f54.body.getD .skip) num_Parse.h num_Parse.E.a num_Parse.E.r x) = num_Parse.E.g := by as_aux_lemma => kernel_rfl
theorem num_Parse.spec {B : M} (hB : Good B) : Spec Tryd.prog B 54 num_Parse.E := spec_of (C := num_Parse.C) Tryd.func54 (by kernel_rfl) (by kernel_rfl) rfl mixed hB.globs (fn_cons (strings_CutPrefix.spec hB) (fn_cons (ext_Cut.spec hB.lib) (fn_cons (num_digits.spec hB) fn_nil))) num_Parse.ev
/-! cadastre/value.numeral: function 51 -/
def value_numeral.f (s0 : ByteArray) : Option (SValue.T × Bool × Unit) :=
  (num_Parse.f s0).bind fun y1 =>
  cond (y1.2.1 == (1 : Int))
  ((value_number.f y1.1).bind fun y2 =>
  some (y2.1, true, ()))
  (cond (y1.2.1 == (2 : Int))
  ((value_wrong.f (4 : Int)).bind fun y3 =>
  some (y3.1, true, ()))
  (some (((0 : Int), (0 : Int), (⟨#[]⟩ : ByteArray), (0 : Int), ()), false, ())))
def value_numeral.h : Hint := .auto
abbrev value_numeral.E : Entry := ⟨[.leaf .str], [.agg SValue, .leaf .bool], fun x => value_numeral.f x.1⟩
noncomputable def value_numeral.C : Ctx := ⟨Tryd.prog, 20, shs, fnL [(43, value_number.E), (50, value_wrong.E), (54, num_Parse.E)], gls⟩
theorem value_numeral.ev : (fun x : VsT value_numeral.E.a => evF value_numeral.C Tryd.f51 (Tryd.f51.body.getD .skip) value_numeral.h value_numeral.E.a value_numeral.E.r x) = value_numeral.E.g := by as_aux_lemma => kernel_rfl
theorem value_numeral.spec {B : M} (hB : Good B) : Spec Tryd.prog B 51 value_numeral.E := spec_of (C := value_numeral.C) Tryd.func51 (by kernel_rfl) (by kernel_rfl) rfl mixed hB.globs (fn_cons (value_number.spec hB) (fn_cons (value_wrong.spec hB) (fn_cons (num_Parse.spec hB) fn_nil))) value_numeral.ev
/-! cadastre/value.toNum: function 39 -/
def value_toNum.f (v0 : SValue.T) : Option (SValue.T × Unit) :=
  (value_normal.f v0).bind fun y1 =>
  cond (y1.1.1 == (1 : Int))
  ((value_number.f (IntKind.i64.wrap (y1.1.2.1 * (10000 : Int)))).bind fun y2 =>
  some (y2.1, ()))
  (cond (y1.1.1 == (0 : Int))
  ((value_number.f (0 : Int)).bind fun y3 =>
  some (y3.1, ()))
  (cond (y1.1.1 == (3 : Int))
  ((value_numeral.f y1.1.2.2.1).bind fun y4 =>
  cond y4.2.1
  (some (y4.1, ()))
  ((value_wrong.f (2 : Int)).bind fun y5 =>
  some (y5.1, ())))
  (some (y1.1, ()))))
def value_toNum.h : Hint := .auto
abbrev value_toNum.E : Entry := ⟨[.agg SValue], [.agg SValue], fun x => value_toNum.f x.1⟩
noncomputable def value_toNum.C : Ctx := ⟨Tryd.prog, 30, shs, fnL [(38, value_normal.E), (43, value_number.E), (50, value_wrong.E), (51, value_numeral.E)], gls⟩
theorem value_toNum.ev : (fun x : VsT value_toNum.E.a => evF value_toNum.C Tryd.f39 (Tryd.f39.body.getD .skip) value_toNum.h value_toNum.E.a value_toNum.E.r x) = value_toNum.E.g := by as_aux_lemma => kernel_rfl
theorem value_toNum.spec {B : M} (hB : Good B) : Spec Tryd.prog B 39 value_toNum.E := spec_of (C := value_toNum.C) Tryd.func39 (by kernel_rfl) (by kernel_rfl) rfl mixed hB.globs (fn_cons (value_normal.spec hB) (fn_cons (value_number.spec hB) (fn_cons (value_wrong.spec hB) (fn_cons (value_numeral.spec hB) fn_nil)))) value_toNum.ev
/-! cadastre/value.ToNum: function 21 -/
def value_ToNum.f (v0 : SValue.T) : Option (SValue.T × Unit) :=
  (value_toNum.f v0).bind fun y1 =>
  some (y1.1, ())
def value_ToNum.h : Hint := .auto
abbrev value_ToNum.E : Entry := ⟨[.agg SValue], [.agg SValue], fun x => value_ToNum.f x.1⟩
noncomputable def value_ToNum.C : Ctx := ⟨Tryd.prog, 5, shs, fnL [(39, value_toNum.E)], gls⟩
theorem value_ToNum.ev : (fun x : VsT value_ToNum.E.a => evF value_ToNum.C Tryd.f21 (Tryd.f21.body.getD .skip) value_ToNum.h value_ToNum.E.a value_ToNum.E.r x) = value_ToNum.E.g := by as_aux_lemma => kernel_rfl
theorem value_ToNum.spec {B : M} (hB : Good B) : Spec Tryd.prog B 21 value_ToNum.E := spec_of (C := value_ToNum.C) Tryd.func21 (by kernel_rfl) (by kernel_rfl) rfl mixed hB.globs (fn_cons (value_toNum.spec hB) fn_nil) value_ToNum.ev
/-! cadastre/column.Of: function 7 -/
def column_Of.l0 (rec : Bool × ((List Int) × (List Int) × Unit) × ((List Int) × (List Int) × Unit) × Bool × (List SValue.T) × Int × Int × Unit → Option (SVec.T × Bool × Unit)) (x : Bool × ((List Int) × (List Int) × Unit) × ((List Int) × (List Int) × Unit) × Bool × (List SValue.T) × Int × Int × Unit) : Option (SVec.T × Bool × Unit) :=
  cond (decide (x.2.2.2.2.2.2.1 < x.2.2.2.2.2.1))
  (cutBind (T := Bool × ((List Int) × (List Int) × Unit) × ((List Int) × (List Int) × Unit) × Bool × (List SValue.T) × Int × Int × Unit) (
  (idx x.2.2.2.2.1 x.2.2.2.2.2.2.1).bind fun y26 =>
  (value_Normal.f y26).bind fun y27 =>
  cutBind (T := Bool × ((List Int) × (List Int) × Unit) × ((List Int) × (List Int) × Unit) × Bool × Int × (Int × Int × ByteArray × Int × Unit) × (List SValue.T) × Int × Int × Unit) (
  cond (x.2.2.2.1 == true)
  (cond ((y27.1.1 == (0 : Int)) == false)
  (some (.go (x.1, (x.2.1.1, x.2.1.2.1, ()), (x.2.2.1.1, x.2.2.1.2.1, ()), (y27.1.1 == (2 : Int)), x.2.2.2.2.2.2.1, (y27.1.1, y27.1.2.1, y27.1.2.2.1, y27.1.2.2.2.1, ()), x.2.2.2.2.1, x.2.2.2.2.2.1, x.2.2.2.2.2.2.1, ())))
  (some (.go (x.1, (x.2.1.1, x.2.1.2.1, ()), (x.2.2.1.1, x.2.2.1.2.1, ()), true, x.2.2.2.2.2.2.1, (y27.1.1, y27.1.2.1, y27.1.2.2.1, y27.1.2.2.2.1, ()), x.2.2.2.2.1, x.2.2.2.2.2.1, x.2.2.2.2.2.2.1, ()))))
  (some (.go (x.1, (x.2.1.1, x.2.1.2.1, ()), (x.2.2.1.1, x.2.2.1.2.1, ()), false, x.2.2.2.2.2.2.1, (y27.1.1, y27.1.2.1, y27.1.2.2.1, y27.1.2.2.2.1, ()), x.2.2.2.2.1, x.2.2.2.2.2.1, x.2.2.2.2.2.2.1, ()))))
  fun x28 =>
  cutBind (T := Bool × ((List Int) × (List Int) × Unit) × ((List Int) × (List Int) × Unit) × Bool × Int × (Int × Int × ByteArray × Int × Unit) × (List SValue.T) × Int × Int × Unit) (
  cond (!x28.1)
  ((value_ToNum.f x28.2.2.2.2.2.1).bind fun y30 =>
  some (.go (x28.1, (x28.2.1.1, x28.2.1.2.1, ()), (x28.2.2.1.1, x28.2.2.1.2.1, ()), x28.2.2.2.1, x28.2.2.2.2.1, (y30.1.1, y30.1.2.1, y30.1.2.2.1, y30.1.2.2.2.1, ()), x28.2.2.2.2.2.2.1, x28.2.2.2.2.2.2.2.1, x28.2.2.2.2.2.2.2.2.1, ())))
  (some (.go (x28.1, (x28.2.1.1, x28.2.1.2.1, ()), (x28.2.2.1.1, x28.2.2.1.2.1, ()), x28.2.2.2.1, x28.2.2.2.2.1, (x28.2.2.2.2.2.1.1, x28.2.2.2.2.2.1.2.1, x28.2.2.2.2.2.1.2.2.1, x28.2.2.2.2.2.1.2.2.2.1, ()), x28.2.2.2.2.2.2.1, x28.2.2.2.2.2.2.2.1, x28.2.2.2.2.2.2.2.2.1, ()))))
  fun x31 =>
  cond (x31.2.2.2.2.2.1.1 == (2 : Int))
  (cond (decide ((0 : Int) ≤ x31.2.2.2.2.1))
  (cond (decide (x31.2.2.2.2.1 < (x31.2.2.1.1.length : Int)))
  ((x31.2.2.1.1[x31.2.2.2.2.1.toNat]?).bind fun y32 =>
  some (.go (x31.1, (x31.2.1.1, x31.2.1.2.1, ()), ((x31.2.2.1.1.set x31.2.2.2.2.1.toNat x31.2.2.2.2.2.1.2.1), x31.2.2.1.2.1, ()), x31.2.2.2.1, x31.2.2.2.2.2.2.1, x31.2.2.2.2.2.2.2.1, x31.2.2.2.2.2.2.2.2.1, ())))
  (none))
  (none))
  (cond (x31.2.2.2.2.2.1.1 == (4 : Int))
  (cond (decide ((0 : Int) ≤ x31.2.2.2.2.1))
  (cond (decide (x31.2.2.2.2.1 < (x31.2.2.1.2.1.length : Int)))
  ((x31.2.2.1.2.1[x31.2.2.2.2.1.toNat]?).bind fun y33 =>
  some (.go (x31.1, (x31.2.1.1, x31.2.1.2.1, ()), (x31.2.2.1.1, (x31.2.2.1.2.1.set x31.2.2.2.2.1.toNat x31.2.2.2.2.2.1.2.2.2.1), ()), x31.2.2.2.1, x31.2.2.2.2.2.2.1, x31.2.2.2.2.2.2.2.1, x31.2.2.2.2.2.2.2.2.1, ())))
  (none))
  (none))
  (some (.go (x31.1, (x31.2.1.1, x31.2.1.2.1, ()), (x31.2.2.1.1, x31.2.2.1.2.1, ()), x31.2.2.2.1, x31.2.2.2.2.2.2.1, x31.2.2.2.2.2.2.2.1, x31.2.2.2.2.2.2.2.2.1, ())))))
  fun x34 =>
  rec (x34.1, (x34.2.1.1, x34.2.1.2.1, ()), (x34.2.2.1.1, x34.2.2.1.2.1, ()), x34.2.2.2.1, x34.2.2.2.2.1, x34.2.2.2.2.2.1, (IntKind.i64.wrap (x34.2.2.2.2.2.2.1 + (1 : Int))), ()))
  (some (x.2.2.1, x.2.2.2.1, ()))
def column_Of.f (l0 : (List SValue.T)) (area1 : Bool) : Option (SVec.T × Bool × Unit) :=
  cond (decide ((l0.length : Int) > (1000 : Int)))
  (some ((([] : List Int), ([] : List Int), ()), false, ()))
  (cond (decide ((0 : Int) ≤ (l0.length : Int)))
  (cond (decide ((l0.length : Int) ≤ (roomy : Int)))
  (cond ((l0.length : Int) == (l0.length : Int))
  (cond (decide ((0 : Int) ≤ (l0.length : Int)))
  (cond (decide ((l0.length : Int) ≤ (roomy : Int)))
  (cond ((l0.length : Int) == (l0.length : Int))
  (loopN column_Of.l0 (64 + ([] : List Int).length + ([] : List Int).length + (List.replicate ((l0.length : Int).toNat) (0 : Int)).length + (List.replicate ((l0.length : Int).toNat) (0 : Int)).length + l0.length + (l0.length : Int).natAbs + (0 : Int).natAbs) (area1, (([] : List Int), ([] : List Int), ()), ((List.replicate ((l0.length : Int).toNat) (0 : Int)), (List.replicate ((l0.length : Int).toNat) (0 : Int)), ()), true, l0, (l0.length : Int), (0 : Int), ()))
  (none))
  (none))
  (none))
  (none))
  (none))
  (none))
def column_Of.h : Hint := .seq none (.auto) (.seq none (.auto) (.seq none (.auto) (.seq none (.seq none (.auto) (.block (.loop [(1, .sh (.leaf .bool)), (4, .box [.inr ((.int .i64), false), .inr ((.int .i64), false)]), (6, .box [.inr ((.int .i64), false), .inr ((.int .i64), false)]), (7, .sh (.leaf .bool)), (21, .sh (.leaf (.sl SValue))), (22, .sh (.leaf (.int .i64))), (23, .sh (.leaf (.int .i64)))] (fun x => 64 + x.2.1.1.length + x.2.1.2.1.length + x.2.2.1.1.length + x.2.2.1.2.1.length + x.2.2.2.2.1.length + x.2.2.2.2.2.1.natAbs + x.2.2.2.2.2.2.1.natAbs) (.seq none (.auto) (.seq none (.auto) (.seq (some [(1, .sh (.leaf .bool)), (4, .box [.inr ((.int .i64), false), .inr ((.int .i64), false)]), (6, .box [.inr ((.int .i64), false), .inr ((.int .i64), false)]), (7, .sh (.leaf .bool)), (21, .sh (.leaf (.sl SValue))), (22, .sh (.leaf (.int .i64))), (23, .sh (.leaf (.int .i64)))]) (.block (.seq none (.auto) (.seq none (.auto) (.seq (some [(1, .sh (.leaf .bool)), (4, .box [.inr ((.int .i64), false), .inr ((.int .i64), false)]), (6, .box [.inr ((.int .i64), false), .inr ((.int .i64), false)]), (7, .sh (.leaf .bool)), (8, .sh (.leaf (.int .i64))), (9, .box [.inl (.int .i64), .inl (.int .i64), .inl .str, .inl (.int .i64)]), (21, .sh (.leaf (.sl SValue))), (22, .sh (.leaf (.int .i64))), (23, .sh (.leaf (.int .i64)))]) (.auto) (.seq (some [(1, .sh (.leaf .bool)), (4, .box [.inr ((.int .i64), false), .inr ((.int .i64), false)]), (6, .box [.inr ((.int .i64), false), .inr ((.int .i64), false)]), (7, .sh (.leaf .bool)), (8, .sh (.leaf (.int .i64))), (9, .box [.inl (.int .i64), .inl (.int .i64), .inl .str, .inl (.int .i64)]), (21, .sh (.leaf (.sl SValue))), (22, .sh (.leaf (.int .i64))), (23, .sh (.leaf (.int .i64)))]) (.auto) (.auto)))))) (.auto))))))) (.auto))))
abbrev column_Of.E : Entry := ⟨[.leaf (.sl SValue), .leaf .bool], [.agg SVec, .leaf .bool], fun x => column_Of.f x.1 x.2.1⟩
noncomputable def column_Of.C : Ctx := ⟨Tryd.prog, 66, shs, fnL [(20, value_Normal.E), (21, value_ToNum.E)], gls⟩
theorem column_Of.ev : (fun x : VsT column_Of.E.a => evF column_Of.C Tryd.f7 (Tryd.f7.body.getD .skip) column_Of.h column_Of.E.a column_Of.E.r x) = column_Of.E.g := by as_aux_lemma => kernel_rfl
theorem column_Of.spec {B : M} (hB : Good B) : Spec Tryd.prog B 7 column_Of.E := spec_of (C := column_Of.C) Tryd.func7 (by kernel_rfl) (by kernel_rfl) rfl mixed hB.globs (fn_cons (value_Normal.spec hB) (fn_cons (value_ToNum.spec hB) fn_nil)) column_Of.ev
/-! cadastre/cadastreref04.Bool: function 40 -/
def cadastreref04_Bool.f (is0 : Bool) : Option (SValue.T × Unit) :=
  cond is0
  (some (((1 : Int), (1 : Int), (⟨#[]⟩ : ByteArray), (0 : Int), ()), ()))
  (some (((1 : Int), (0 : Int), (⟨#[]⟩ : ByteArray), (0 : Int), ()), ()))
def cadastreref04_Bool.h : Hint := .auto
abbrev cadastreref04_Bool.E : Entry := ⟨[.leaf .bool], [.agg SValue], fun x => cadastreref04_Bool.f x.1⟩
noncomputable def cadastreref04_Bool.C : Ctx := ⟨Tryd.prog, 6, shs, fnL [], gls⟩
theorem cadastreref04_Bool.ev : (fun x : VsT cadastreref04_Bool.E.a => evF cadastreref04_Bool.C Tryd.f40 (Tryd.f40.body.getD .skip) cadastreref04_Bool.h cadastreref04_Bool.E.a cadastreref04_Bool.E.r x) = cadastreref04_Bool.E.g := by as_aux_lemma => kernel_rfl
theorem cadastreref04_Bool.spec {B : M} (hB : Good B) : Spec Tryd.prog B 40 cadastreref04_Bool.E := spec_of (C := cadastreref04_Bool.C) Tryd.func40 (by kernel_rfl) (by kernel_rfl) rfl mixed hB.globs fn_nil cadastreref04_Bool.ev
/-! cadastre/cadastreref01.Can: function 30 -/
def cadastreref01_Can.f (a0 : Int) : Option (Bool × Unit) :=
  some ((a0 != (-9223372036854775808 : Int)), ())
def cadastreref01_Can.h : Hint := .auto
abbrev cadastreref01_Can.E : Entry := ⟨[.leaf (.int .i64)], [.leaf .bool], fun x => cadastreref01_Can.f x.1⟩
noncomputable def cadastreref01_Can.C : Ctx := ⟨Tryd.prog, 5, shs, fnL [], gls⟩
theorem cadastreref01_Can.ev : (fun x : VsT cadastreref01_Can.E.a => evF cadastreref01_Can.C Tryd.f30 (Tryd.f30.body.getD .skip) cadastreref01_Can.h cadastreref01_Can.E.a cadastreref01_Can.E.r x) = cadastreref01_Can.E.g := by as_aux_lemma => kernel_rfl
theorem cadastreref01_Can.spec {B : M} (hB : Good B) : Spec Tryd.prog B 30 cadastreref01_Can.E := spec_of (C := cadastreref01_Can.C) Tryd.func30 (by kernel_rfl) (by kernel_rfl) rfl mixed hB.globs fn_nil cadastreref01_Can.ev
/-! cadastre/cadastreref04.Err: function 31 -/
def cadastreref04_Err.f (e0 : Int) : Option (SValue.T × Unit) :=
  cond ((decide (e0 < (1 : Int))) == false)
  (cond (decide (e0 > (5 : Int)))
  (some (((4 : Int), (0 : Int), (⟨#[]⟩ : ByteArray), (2 : Int), ()), ()))
  (some (((4 : Int), (0 : Int), (⟨#[]⟩ : ByteArray), e0, ()), ())))
  (some (((4 : Int), (0 : Int), (⟨#[]⟩ : ByteArray), (2 : Int), ()), ()))
def cadastreref04_Err.h : Hint := .auto
abbrev cadastreref04_Err.E : Entry := ⟨[.leaf (.int .i64)], [.agg SValue], fun x => cadastreref04_Err.f x.1⟩
noncomputable def cadastreref04_Err.C : Ctx := ⟨Tryd.prog, 11, shs, fnL [], gls⟩
theorem cadastreref04_Err.ev : (fun x : VsT cadastreref04_Err.E.a => evF cadastreref04_Err.C Tryd.f31 (Tryd.f31.body.getD .skip) cadastreref04_Err.h cadastreref04_Err.E.a cadastreref04_Err.E.r x) = cadastreref04_Err.E.g := by as_aux_lemma => kernel_rfl
theorem cadastreref04_Err.spec {B : M} (hB : Good B) : Spec Tryd.prog B 31 cadastreref04_Err.E := spec_of (C := cadastreref04_Err.C) Tryd.func31 (by kernel_rfl) (by kernel_rfl) rfl mixed hB.globs fn_nil cadastreref04_Err.ev
/-! cadastre/cadastreref04.Num: function 28 -/
def cadastreref04_Num.f (n0 : Int) : Option (SValue.T × Unit) :=
  (cadastreref01_Can.f n0).bind fun y1 =>
  cond (!y1.1)
  ((cadastreref04_Err.f (4 : Int)).bind fun y2 =>
  some (y2.1, ()))
  (some (((2 : Int), n0, (⟨#[]⟩ : ByteArray), (0 : Int), ()), ()))
def cadastreref04_Num.h : Hint := .auto
abbrev cadastreref04_Num.E : Entry := ⟨[.leaf (.int .i64)], [.agg SValue], fun x => cadastreref04_Num.f x.1⟩
noncomputable def cadastreref04_Num.C : Ctx := ⟨Tryd.prog, 9, shs, fnL [(30, cadastreref01_Can.E), (31, cadastreref04_Err.E)], gls⟩
theorem cadastreref04_Num.ev : (fun x : VsT cadastreref04_Num.E.a => evF cadastreref04_Num.C Tryd.f28 (Tryd.f28.body.getD .skip) cadastreref04_Num.h cadastreref04_Num.E.a cadastreref04_Num.E.r x) = cadastreref04_Num.E.g := by as_aux_lemma => kernel_rfl
theorem cadastreref04_Num.spec {B : M} (hB : Good B) : Spec Tryd.prog B 28 cadastreref04_Num.E := spec_of (C := cadastreref04_Num.C) Tryd.func28 (by kernel_rfl) (by kernel_rfl) rfl mixed hB.globs (fn_cons (cadastreref01_Can.spec hB) (fn_cons (cadastreref04_Err.spec hB) fn_nil)) cadastreref04_Num.ev
/-! cadastre/cadastreref04.Text: function 29 -/
def cadastreref04_Text.f (s0 : ByteArray) : Option (SValue.T × Unit) :=
  cond (decide ((s0.size : Int) > (300 : Int)))
  ((cadastreref04_Err.f (2 : Int)).bind fun y1 =>
  some (y1.1, ()))
  (some (((3 : Int), (0 : Int), s0, (0 : Int), ()), ()))
def cadastreref04_Text.h : Hint := .auto
abbrev cadastreref04_Text.E : Entry := ⟨[.leaf .str], [.agg SValue], fun x => cadastreref04_Text.f x.1⟩
noncomputable def cadastreref04_Text.C : Ctx := ⟨Tryd.prog, 9, shs, fnL [(31, cadastreref04_Err.E)], gls⟩
theorem cadastreref04_Text.ev : (fun x : VsT cadastreref04_Text.E.a => evF cadastreref04_Text.C Tryd.f29 (Tryd.f29.body.getD .skip) cadastreref04_Text.h cadastreref04_Text.E.a cadastreref04_Text.E.r x) = cadastreref04_Text.E.g := by as_aux_lemma => kernel_rfl
theorem cadastreref04_Text.spec {B : M} (hB : Good B) : Spec Tryd.prog B 29 cadastreref04_Text.E := spec_of (C := cadastreref04_Text.C) Tryd.func29 (by kernel_rfl) (by kernel_rfl) rfl mixed hB.globs (fn_cons (cadastreref04_Err.spec hB) fn_nil) cadastreref04_Text.ev
/-! cadastre/cadastreref04.Normal: function 22 -/
def cadastreref04_Normal.f (v0 : SValue.T) : Option (SValue.T × Unit) :=
  cond (v0.1 == (1 : Int))
  ((cadastreref04_Bool.f (v0.2.1 != (0 : Int))).bind fun y1 =>
  some (y1.1, ()))
  (cond (v0.1 == (2 : Int))
  ((cadastreref04_Num.f v0.2.1).bind fun y2 =>
  some (y2.1, ()))
  (cond (v0.1 == (3 : Int))
  ((cadastreref04_Text.f v0.2.2.1).bind fun y3 =>
  some (y3.1, ()))
  (cond (v0.1 == (4 : Int))
  ((cadastreref04_Err.f v0.2.2.2.1).bind fun y4 =>
  some (y4.1, ()))
  (some (((0 : Int), (0 : Int), (⟨#[]⟩ : ByteArray), (0 : Int), ()), ())))))
def cadastreref04_Normal.h : Hint := .auto
abbrev cadastreref04_Normal.E : Entry := ⟨[.agg SValue], [.agg SValue], fun x => cadastreref04_Normal.f x.1⟩
noncomputable def cadastreref04_Normal.C : Ctx := ⟨Tryd.prog, 29, shs, fnL [(28, cadastreref04_Num.E), (29, cadastreref04_Text.E), (31, cadastreref04_Err.E), (40, cadastreref04_Bool.E)], gls⟩
theorem cadastreref04_Normal.ev : (fun x : VsT cadastreref04_Normal.E.a => evF cadastreref04_Normal.C Tryd.f22 (Tryd.f22.body.getD .skip) cadastreref04_Normal.h cadastreref04_Normal.E.a cadastreref04_Normal.E.r x) = cadastreref04_Normal.E.g := by as_aux_lemma => kernel_rfl
theorem cadastreref04_Normal.spec {B : M} (hB : Good B) : Spec Tryd.prog B 22 cadastreref04_Normal.E := spec_of (C := cadastreref04_Normal.C) Tryd.func22 (by kernel_rfl) (by kernel_rfl) rfl mixed hB.globs (fn_cons (cadastreref04_Num.spec hB) (fn_cons (cadastreref04_Text.spec hB) (fn_cons (cadastreref04_Err.spec hB) (fn_cons (cadastreref04_Bool.spec hB) fn_nil)))) cadastreref04_Normal.ev
/-! cadastre/cadastreref03.end: function 55 -/
def cadastreref03_end.l0 (rec : ByteArray × Int × Unit → Option (Int × Unit)) (x : ByteArray × Int × Unit) : Option (Int × Unit) :=
  cond ((decide (x.2.1 < (x.1.size : Int))) == true)
  ((sidx x.1 x.2.1).bind fun c3 =>
  cond ((decide (c3 ≥ (48 : Int))) == true)
  ((sidx x.1 x.2.1).bind fun c4 =>
  cond (decide (c4 ≤ (57 : Int)))
  (rec (x.1, (IntKind.i64.wrap (x.2.1 + (1 : Int))), ()))
  (some (x.2.1, ())))
  (some (x.2.1, ())))
  (some (x.2.1, ()))
def cadastreref03_end.f (s0 : ByteArray) (at1 : Int) : Option (Int × Unit) :=
  loopN cadastreref03_end.l0 (64 + s0.size + at1.natAbs) (s0, at1, ())
def cadastreref03_end.h : Hint := .seq none (.auto) (.seq none (.block (.loop [(0, .sh (.leaf .str)), (1, .sh (.leaf (.int .i64)))] (fun x => 64 + x.1.size + x.2.1.natAbs) (.auto))) (.auto))
abbrev cadastreref03_end.E : Entry := ⟨[.leaf .str, .leaf (.int .i64)], [.leaf (.int .i64)], fun x => cadastreref03_end.f x.1 x.2.1⟩
noncomputable def cadastreref03_end.C : Ctx := ⟨Tryd.prog, 24, shs, fnL [], gls⟩
theorem cadastreref03_end.ev : (fun x : VsT cadastreref03_end.E.a => evF cadastreref03_end.C Tryd.f55 (Tryd.f55.body.getD .skip) cadastreref03_end.h cadastreref03_end.E.a cadastreref03_end.E.r x) = cadastreref03_end.E.g := by as_aux_lemma => kernel_rfl
theorem cadastreref03_end.spec {B : M} (hB : Good B) : Spec Tryd.prog B 55 cadastreref03_end.E := spec_of (C := cadastreref03_end.C) Tryd.func55 (by kernel_rfl) (by kernel_rfl) rfl mixed hB.globs fn_nil cadastreref03_end.ev
/-! cadastre/cadastreref01.Up: function 62 -/
def cadastreref01_Up.f (a0 : SW.T) : Option (SW.T × Unit) :=
  some (((IntKind.u64.wrap ((BitVec.ofInt 64 (IntKind.u64.wrap (a0.1 * 2 ^ (min ((1 : Int)).toNat 64)))) ||| (BitVec.ofInt 64 (Int.fdiv a0.2.1 (2 ^ (min ((63 : Int)).toNat 64))))).toNat), (IntKind.u64.wrap (a0.2.1 * 2 ^ (min ((1 : Int)).toNat 64))), ()), ())
def cadastreref01_Up.h : Hint := .auto
abbrev cadastreref01_Up.E : Entry := ⟨[.agg SW], [.agg SW], fun x => cadastreref01_Up.f x.1⟩
noncomputable def cadastreref01_Up.C : Ctx := ⟨Tryd.prog, 14, shs, fnL [], gls⟩
theorem cadastreref01_Up.ev : (fun x : VsT cadastreref01_Up.E.a => evF cadastreref01_Up.C Tryd.f62 (Tryd.f62.body.getD .skip) cadastreref01_Up.h cadastreref01_Up.E.a cadastreref01_Up.E.r x) = cadastreref01_Up.E.g := by as_aux_lemma => kernel_rfl
theorem cadastreref01_Up.spec {B : M} (hB : Good B) : Spec Tryd.prog B 62 cadastreref01_Up.E := spec_of (C := cadastreref01_Up.C) Tryd.func62 (by kernel_rfl) (by kernel_rfl) rfl mixed hB.globs fn_nil cadastreref01_Up.ev
/-! cadastre/cadastreref01.PlusW: function 56 -/
def cadastreref01_PlusW.f (a0 : SW.T) (b1 : SW.T) : Option (SW.T × Unit) :=
  cond (decide ((IntKind.u64.wrap (a0.2.1 + b1.2.1)) < a0.2.1))
  (some (((IntKind.u64.wrap ((IntKind.u64.wrap (a0.1 + b1.1)) + (1 : Int))), (IntKind.u64.wrap (a0.2.1 + b1.2.1)), ()), ()))
  (some (((IntKind.u64.wrap (a0.1 + b1.1)), (IntKind.u64.wrap (a0.2.1 + b1.2.1)), ()), ()))
def cadastreref01_PlusW.h : Hint := .auto
abbrev cadastreref01_PlusW.E : Entry := ⟨[.agg SW, .agg SW], [.agg SW], fun x => cadastreref01_PlusW.f x.1 x.2.1⟩
noncomputable def cadastreref01_PlusW.C : Ctx := ⟨Tryd.prog, 27, shs, fnL [], gls⟩
theorem cadastreref01_PlusW.ev : (fun x : VsT cadastreref01_PlusW.E.a => evF cadastreref01_PlusW.C Tryd.f56 (Tryd.f56.body.getD .skip) cadastreref01_PlusW.h cadastreref01_PlusW.E.a cadastreref01_PlusW.E.r x) = cadastreref01_PlusW.E.g := by as_aux_lemma => kernel_rfl
theorem cadastreref01_PlusW.spec {B : M} (hB : Good B) : Spec Tryd.prog B 56 cadastreref01_PlusW.E := spec_of (C := cadastreref01_PlusW.C) Tryd.func56 (by kernel_rfl) (by kernel_rfl) rfl mixed hB.globs fn_nil cadastreref01_PlusW.ev
/-! cadastre/cadastreref03.times: function 57 -/
def cadastreref03_times.f (w0 : SW.T) : Option (SW.T × Unit) :=
  (cadastreref01_Up.f w0).bind fun y1 =>
  (cadastreref01_Up.f y1.1).bind fun y2 =>
  (cadastreref01_Up.f y2.1).bind fun y3 =>
  (cadastreref01_PlusW.f y1.1 y3.1).bind fun y4 =>
  some (y4.1, ())
def cadastreref03_times.h : Hint := .auto
abbrev cadastreref03_times.E : Entry := ⟨[.agg SW], [.agg SW], fun x => cadastreref03_times.f x.1⟩
noncomputable def cadastreref03_times.C : Ctx := ⟨Tryd.prog, 11, shs, fnL [(56, cadastreref01_PlusW.E), (62, cadastreref01_Up.E)], gls⟩
theorem cadastreref03_times.ev : (fun x : VsT cadastreref03_times.E.a => evF cadastreref03_times.C Tryd.f57 (Tryd.f57.body.getD .skip) cadastreref03_times.h cadastreref03_times.E.a cadastreref03_times.E.r x) = cadastreref03_times.E.g := by as_aux_lemma => kernel_rfl
theorem cadastreref03_times.spec {B : M} (hB : Good B) : Spec Tryd.prog B 57 cadastreref03_times.E := spec_of (C := cadastreref03_times.C) Tryd.func57 (by kernel_rfl) (by kernel_rfl) rfl mixed hB.globs (fn_cons (cadastreref01_PlusW.spec hB) (fn_cons (cadastreref01_Up.spec hB) fn_nil)) cadastreref03_times.ev
/-! cadastre/cadastreref01.Signed: function 58 -/
def cadastreref01_Signed.f (neg0 : Bool) (w1 : SW.T) : Option (Int × Bool × Unit) :=
  cond ((decide (w1.1 > (0 : Int))) == false)
  (cond (decide (w1.2.1 > (9223372036854775807 : Int)))
  (some ((0 : Int), false, ()))
  (cond neg0
  (some ((IntKind.i64.wrap (0 - (IntKind.i64.wrap w1.2.1))), true, ()))
  (some ((IntKind.i64.wrap w1.2.1), true, ()))))
  (some ((0 : Int), false, ()))
def cadastreref01_Signed.h : Hint := .auto
abbrev cadastreref01_Signed.E : Entry := ⟨[.leaf .bool, .agg SW], [.leaf (.int .i64), .leaf .bool], fun x => cadastreref01_Signed.f x.1 x.2.1⟩
noncomputable def cadastreref01_Signed.C : Ctx := ⟨Tryd.prog, 22, shs, fnL [], gls⟩
theorem cadastreref01_Signed.ev : (fun x : VsT cadastreref01_Signed.E.a => evF cadastreref01_Signed.C Tryd.f58 (Tryd.f58.body.getD .skip) cadastreref01_Signed.h cadastreref01_Signed.E.a cadastreref01_Signed.E.r x) = cadastreref01_Signed.E.g := by as_aux_lemma => kernel_rfl
theorem cadastreref01_Signed.spec {B : M} (hB : Good B) : Spec Tryd.prog B 58 cadastreref01_Signed.E := spec_of (C := cadastreref01_Signed.C) Tryd.func58 (by kernel_rfl) (by kernel_rfl) rfl mixed hB.globs fn_nil cadastreref01_Signed.ev
/-! cadastre/cadastreref03.Parse: function 53 -/
def cadastreref03_Parse.l0 (rec : ByteArray × Int × Int × Int × (Int × Int × Unit) × Bool × Int × Unit → Option (Cut (ByteArray × Int × Int × Int × (Int × Int × Unit) × Bool × Unit) (Int × Int × Unit))) (x : ByteArray × Int × Int × Int × (Int × Int × Unit) × Bool × Int × Unit) : Option (Cut (ByteArray × Int × Int × Int × (Int × Int × Unit) × Bool × Unit) (Int × Int × Unit)) :=
  cond (decide (x.2.2.2.2.2.2.1 < (IntKind.i64.wrap (x.2.2.1 + (5 : Int)))))
  (cond (x.2.2.2.2.2.2.1 == x.2.2.1)
  (rec (x.1, x.2.1, x.2.2.1, x.2.2.2.1, (x.2.2.2.2.1.1, x.2.2.2.2.1.2.1, ()), x.2.2.2.2.2.1, (IntKind.i64.wrap (x.2.2.2.2.2.2.1 + (1 : Int))), ()))
  (cond (decide (x.2.2.2.2.2.2.1 < x.2.2.2.1))
  ((sidx x.1 x.2.2.2.2.2.2.1).bind fun c26 =>
  (cadastreref03_times.f x.2.2.2.2.1).bind fun y27 =>
  (cadastreref01_PlusW.f y27.1 ((0 : Int), (IntKind.u64.wrap (IntKind.u8.wrap (c26 - (48 : Int)))), ())).bind fun y28 =>
  cond (x.2.2.2.2.2.1 == false)
  (rec (x.1, x.2.1, x.2.2.1, x.2.2.2.1, (y28.1.1, y28.1.2.1, ()), decide (y28.1.1 ≥ (1125899906842624 : Int)), (IntKind.i64.wrap (x.2.2.2.2.2.2.1 + (1 : Int))), ()))
  (rec (x.1, x.2.1, x.2.2.1, x.2.2.2.1, (y28.1.1, y28.1.2.1, ()), true, (IntKind.i64.wrap (x.2.2.2.2.2.2.1 + (1 : Int))), ())))
  ((cadastreref03_times.f x.2.2.2.2.1).bind fun y29 =>
  (cadastreref01_PlusW.f y29.1 ((0 : Int), (0 : Int), ())).bind fun y30 =>
  cond (x.2.2.2.2.2.1 == false)
  (rec (x.1, x.2.1, x.2.2.1, x.2.2.2.1, (y30.1.1, y30.1.2.1, ()), decide (y30.1.1 ≥ (1125899906842624 : Int)), (IntKind.i64.wrap (x.2.2.2.2.2.2.1 + (1 : Int))), ()))
  (rec (x.1, x.2.1, x.2.2.1, x.2.2.2.1, (y30.1.1, y30.1.2.1, ()), true, (IntKind.i64.wrap (x.2.2.2.2.2.2.1 + (1 : Int))), ())))))
  (some (.go (x.1, x.2.1, x.2.2.1, x.2.2.2.1, (x.2.2.2.2.1.1, x.2.2.2.2.1.2.1, ()), x.2.2.2.2.2.1, ())))
def cadastreref03_Parse.f (s0 : ByteArray) : Option (Int × Int × Unit) :=
  cutBind (T := ByteArray × Int × Unit) (
  cond ((decide ((s0.size : Int) > (0 : Int))) == true)
  ((sidx s0 (0 : Int)).bind fun c2 =>
  cond (c2 == (45 : Int))
  (some (.go (s0, (1 : Int), ())))
  (some (.go (s0, (0 : Int), ()))))
  (some (.go (s0, (0 : Int), ()))))
  fun x3 =>
  (cadastreref03_end.f x3.1 x3.2.1).bind fun y4 =>
  cutBind (T := ByteArray × Int × Int × Unit) (
  cond ((y4.1 == x3.2.1) == false)
  (cond (decide ((IntKind.i64.wrap (y4.1 - x3.2.1)) > (40 : Int)))
  (some (.out ((0 : Int), (0 : Int), ())))
  (some (.go (x3.1, x3.2.1, y4.1, ()))))
  (some (.out ((0 : Int), (0 : Int), ()))))
  fun x5 =>
  cutBind (T := ByteArray × Int × Int × Int × Unit) (
  cond (decide (x5.2.2.1 < (x5.1.size : Int)))
  ((cadastreref03_end.f x5.1 (IntKind.i64.wrap (x5.2.2.1 + (1 : Int)))).bind fun y8 =>
  (sidx x5.1 x5.2.2.1).bind fun c9 =>
  cond ((c9 != (46 : Int)) == false)
  (cond ((y8.1 == (IntKind.i64.wrap (x5.2.2.1 + (1 : Int)))) == false)
  (cond ((decide ((IntKind.i64.wrap ((IntKind.i64.wrap (y8.1 - x5.2.2.1)) - (1 : Int))) > (40 : Int))) == false)
  (cond (decide (y8.1 < (x5.1.size : Int)))
  (some (.out ((0 : Int), (0 : Int), ())))
  (some (.go (x5.1, x5.2.1, x5.2.2.1, y8.1, ()))))
  (some (.out ((0 : Int), (0 : Int), ()))))
  (some (.out ((0 : Int), (0 : Int), ()))))
  (some (.out ((0 : Int), (0 : Int), ()))))
  (some (.go (x5.1, x5.2.1, x5.2.2.1, x5.2.2.1, ()))))
  fun x10 =>
  cutBind (T := ByteArray × Int × Int × Int × (Int × Int × Unit) × Bool × Unit) (
  loopN cadastreref03_Parse.l0 (64 + x10.1.size + x10.2.1.natAbs + x10.2.2.1.natAbs + x10.2.2.2.1.natAbs + (0 : Int).natAbs + (0 : Int).natAbs + x10.2.1.natAbs) (x10.1, x10.2.1, x10.2.2.1, x10.2.2.2.1, ((0 : Int), (0 : Int), ()), false, x10.2.1, ()))
  fun x31 =>
  cutBind (T := Int × (Int × Int × Unit) × Bool × Unit) (
  cond ((decide ((IntKind.i64.wrap (x31.2.2.1 + (5 : Int))) < x31.2.2.2.1)) == true)
  ((sidx x31.1 (IntKind.i64.wrap (x31.2.2.1 + (5 : Int)))).bind fun c34 =>
  cond (decide (c34 ≥ (53 : Int)))
  ((cadastreref01_PlusW.f x31.2.2.2.2.1 ((0 : Int), (1 : Int), ())).bind fun y35 =>
  some (.go (x31.2.1, (y35.1.1, y35.1.2.1, ()), x31.2.2.2.2.2.1, ())))
  (some (.go (x31.2.1, (x31.2.2.2.2.1.1, x31.2.2.2.2.1.2.1, ()), x31.2.2.2.2.2.1, ()))))
  (some (.go (x31.2.1, (x31.2.2.2.2.1.1, x31.2.2.2.2.1.2.1, ()), x31.2.2.2.2.2.1, ()))))
  fun x36 =>
  (cadastreref01_Signed.f (x36.1 == (1 : Int)) x36.2.1).bind fun y37 =>
  cond (x36.2.2.1 == false)
  (cond (!y37.2.1)
  (some ((0 : Int), (2 : Int), ()))
  (some (y37.1, (1 : Int), ())))
  (some ((0 : Int), (2 : Int), ()))
def cadastreref03_Parse.h : Hint := .seq none (.auto) (.seq none (.auto) (.seq (some [(0, .sh (.leaf .str)), (4, .sh (.leaf (.int .i64)))]) (.auto) (.seq none (.auto) (.seq (some [(0, .sh (.leaf .str)), (4, .sh (.leaf (.int .i64))), (5, .sh (.leaf (.int .i64)))]) (.auto) (.seq none (.auto) (.seq (some [(0, .sh (.leaf .str)), (4, .sh (.leaf (.int .i64))), (5, .sh (.leaf (.int .i64))), (6, .sh (.leaf (.int .i64)))]) (.auto) (.seq none (.auto) (.seq (some [(0, .sh (.leaf .str)), (4, .sh (.leaf (.int .i64))), (5, .sh (.leaf (.int .i64))), (6, .sh (.leaf (.int .i64))), (7, .box [.inl (.int .u64), .inl (.int .u64)]), (8, .sh (.leaf .bool))]) (.seq none (.auto) (.block (.loop [(0, .sh (.leaf .str)), (4, .sh (.leaf (.int .i64))), (5, .sh (.leaf (.int .i64))), (6, .sh (.leaf (.int .i64))), (7, .box [.inl (.int .u64), .inl (.int .u64)]), (8, .sh (.leaf .bool)), (9, .sh (.leaf (.int .i64)))] (fun x => 64 + x.1.size + x.2.1.natAbs + x.2.2.1.natAbs + x.2.2.2.1.natAbs + x.2.2.2.2.1.1.natAbs + x.2.2.2.2.1.2.1.natAbs + x.2.2.2.2.2.2.1.natAbs) (.auto)))) (.seq (some [(4, .sh (.leaf (.int .i64))), (7, .box [.inl (.int .u64), .inl (.int .u64)]), (8, .sh (.leaf .bool))]) (.auto) (.auto))))))))))
abbrev cadastreref03_Parse.E : Entry := ⟨[.leaf .str], [.leaf (.int .i64), .leaf (.int .i64)], fun x => cadastreref03_Parse.f x.1⟩
noncomputable def cadastreref03_Parse.C : Ctx := ⟨Tryd.prog, 122, shs, fnL [(55, cadastreref03_end.E), (56, cadastreref01_PlusW.E), (57, cadastreref03_times.E), (58, cadastreref01_Signed.E)], gls⟩
theorem cadastreref03_Parse.ev : (fun x : VsT cadastreref03_Parse.E.a => evF cadastreref03_Parse.C Tryd.f53 (Tryd.f53.body.getD .skip) cadastreref03_Parse.h cadastreref03_Parse.E.a cadastreref03_Parse.E.r x) = cadastreref03_Parse.E.g := by as_aux_lemma => kernel_rfl
theorem cadastreref03_Parse.spec {B : M} (hB : Good B) : Spec Tryd.prog B 53 cadastreref03_Parse.E := spec_of (C := cadastreref03_Parse.C) Tryd.func53 (by kernel_rfl) (by kernel_rfl) rfl mixed hB.globs (fn_cons (cadastreref03_end.spec hB) (fn_cons (cadastreref01_PlusW.spec hB) (fn_cons (cadastreref03_times.spec hB) (fn_cons (cadastreref01_Signed.spec hB) fn_nil)))) cadastreref03_Parse.ev
/-! cadastre/cadastreref04.read: function 44 -/
def cadastreref04_read.f (s0 : ByteArray) : Option (SValue.T × Bool × Unit) :=
  (cadastreref03_Parse.f s0).bind fun y1 =>
  cond (y1.2.1 == (2 : Int))
  ((cadastreref04_Err.f (4 : Int)).bind fun y2 =>
  some (y2.1, true, ()))
  ((cadastreref04_Num.f y1.1).bind fun y3 =>
  some (y3.1, (y1.2.1 == (1 : Int)), ()))
def cadastreref04_read.h : Hint := .auto
abbrev cadastreref04_read.E : Entry := ⟨[.leaf .str], [.agg SValue, .leaf .bool], fun x => cadastreref04_read.f x.1⟩
noncomputable def cadastreref04_read.C : Ctx := ⟨Tryd.prog, 18, shs, fnL [(28, cadastreref04_Num.E), (31, cadastreref04_Err.E), (53, cadastreref03_Parse.E)], gls⟩
theorem cadastreref04_read.ev : (fun x : VsT cadastreref04_read.E.a => evF cadastreref04_read.C Tryd.f44 (Tryd.f44.body.getD .skip) cadastreref04_read.h cadastreref04_read.E.a cadastreref04_read.E.r x) = cadastreref04_read.E.g := by as_aux_lemma => kernel_rfl
theorem cadastreref04_read.spec {B : M} (hB : Good B) : Spec Tryd.prog B 44 cadastreref04_read.E := spec_of (C := cadastreref04_read.C) Tryd.func44 (by kernel_rfl) (by kernel_rfl) rfl mixed hB.globs (fn_cons (cadastreref04_Num.spec hB) (fn_cons (cadastreref04_Err.spec hB) (fn_cons (cadastreref03_Parse.spec hB) fn_nil))) cadastreref04_read.ev
/-! cadastre/cadastreref04.ToNum: function 27 -/
def cadastreref04_ToNum.f (v0 : SValue.T) : Option (SValue.T × Unit) :=
  (cadastreref04_Normal.f v0).bind fun y1 =>
  cutBind (T := (Int × Int × ByteArray × Int × Unit) × (Int × Int × ByteArray × Int × Unit) × Unit) (
  cond ((y1.1.1 == (4 : Int)) == false)
  (cond (y1.1.1 == (2 : Int))
  (some (.out (y1.1, ())))
  (some (.go ((y1.1.1, y1.1.2.1, y1.1.2.2.1, y1.1.2.2.2.1, ()), ((0 : Int), (0 : Int), (⟨#[]⟩ : ByteArray), (0 : Int), ()), ()))))
  (some (.out (y1.1, ()))))
  fun x2 =>
  cond (x2.1.1 == (3 : Int))
  ((cadastreref04_read.f x2.1.2.2.1).bind fun y3 =>
  cond (!y3.2.1)
  ((cadastreref04_Err.f (2 : Int)).bind fun y4 =>
  some (y4.1, ()))
  (some (y3.1, ())))
  (cond (x2.1.2.1 == (1 : Int))
  ((cadastreref04_Num.f (10000 : Int)).bind fun y5 =>
  some (y5.1, ()))
  ((cadastreref04_Num.f (0 : Int)).bind fun y6 =>
  some (y6.1, ())))
def cadastreref04_ToNum.h : Hint := .seq none (.auto) (.seq none (.auto) (.seq (some [(1, .box [.inl (.int .i64), .inl (.int .i64), .inl .str, .inl (.int .i64)]), (2, .box [.inl (.int .i64), .inl (.int .i64), .inl .str, .inl (.int .i64)])]) (.auto) (.auto)))
abbrev cadastreref04_ToNum.E : Entry := ⟨[.agg SValue], [.agg SValue], fun x => cadastreref04_ToNum.f x.1⟩
noncomputable def cadastreref04_ToNum.C : Ctx := ⟨Tryd.prog, 34, shs, fnL [(22, cadastreref04_Normal.E), (28, cadastreref04_Num.E), (31, cadastreref04_Err.E), (44, cadastreref04_read.E)], gls⟩
theorem cadastreref04_ToNum.ev : (fun x : VsT cadastreref04_ToNum.E.a => evF cadastreref04_ToNum.C Tryd.f27 (Tryd.f27.body.getD .skip) cadastreref04_ToNum.h cadastreref04_ToNum.E.a cadastreref04_ToNum.E.r x) = cadastreref04_ToNum.E.g := by as_aux_lemma => kernel_rfl
theorem cadastreref04_ToNum.spec {B : M} (hB : Good B) : Spec Tryd.prog B 27 cadastreref04_ToNum.E := spec_of (C := cadastreref04_ToNum.C) Tryd.func27 (by kernel_rfl) (by kernel_rfl) rfl mixed hB.globs (fn_cons (cadastreref04_Normal.spec hB) (fn_cons (cadastreref04_Num.spec hB) (fn_cons (cadastreref04_Err.spec hB) (fn_cons (cadastreref04_read.spec hB) fn_nil)))) cadastreref04_ToNum.ev
/-! cadastre/cadastreref19.Lane: function 12 -/
def cadastreref19_Lane.f (x0 : SValue.T) (area1 : Bool) : Option (SValue.T × Unit) :=
  cond (!area1)
  ((cadastreref04_ToNum.f x0).bind fun y1 =>
  some (y1.1, ()))
  ((cadastreref04_Normal.f x0).bind fun y2 =>
  cond ((y2.1.1 == (2 : Int)) == false)
  (cond (y2.1.1 == (4 : Int))
  (some (y2.1, ()))
  ((cadastreref04_Num.f (0 : Int)).bind fun y3 =>
  some (y3.1, ())))
  (some (y2.1, ())))
def cadastreref19_Lane.h : Hint := .auto
abbrev cadastreref19_Lane.E : Entry := ⟨[.agg SValue, .leaf .bool], [.agg SValue], fun x => cadastreref19_Lane.f x.1 x.2.1⟩
noncomputable def cadastreref19_Lane.C : Ctx := ⟨Tryd.prog, 21, shs, fnL [(22, cadastreref04_Normal.E), (27, cadastreref04_ToNum.E), (28, cadastreref04_Num.E)], gls⟩
theorem cadastreref19_Lane.ev : (fun x : VsT cadastreref19_Lane.E.a => evF cadastreref19_Lane.C Tryd.f12 (Tryd.f12.body.getD .skip) cadastreref19_Lane.h cadastreref19_Lane.E.a cadastreref19_Lane.E.r x) = cadastreref19_Lane.E.g := by as_aux_lemma => kernel_rfl
theorem cadastreref19_Lane.spec {B : M} (hB : Good B) : Spec Tryd.prog B 12 cadastreref19_Lane.E := spec_of (C := cadastreref19_Lane.C) Tryd.func12 (by kernel_rfl) (by kernel_rfl) rfl mixed hB.globs (fn_cons (cadastreref04_Normal.spec hB) (fn_cons (cadastreref04_ToNum.spec hB) (fn_cons (cadastreref04_Num.spec hB) fn_nil))) cadastreref19_Lane.ev
/-! cadastre/cadastreref19.Put: function 23 -/
def cadastreref19_Put.f (v0 : SVec.T) (x1 : SValue.T) : Option (SVec.T × Unit) :=
  cond (x1.1 == (4 : Int))
  (cond (decide (([] : List Int).length + v0.1.length ≤ roomy))
  (cond (decide ((([] : List Int) ++ v0.1).length + ([(0 : Int)] : List Int).length ≤ roomy))
  (cond (decide (([] : List Int).length + v0.2.1.length ≤ roomy))
  (cond (decide ((([] : List Int) ++ v0.2.1).length + ([x1.2.2.2.1] : List Int).length ≤ roomy))
  (some ((((([] : List Int) ++ v0.1) ++ ([(0 : Int)] : List Int)), ((([] : List Int) ++ v0.2.1) ++ ([x1.2.2.2.1] : List Int)), ()), ()))
  (none))
  (none))
  (none))
  (none))
  (cond (decide (([] : List Int).length + v0.1.length ≤ roomy))
  (cond (decide ((([] : List Int) ++ v0.1).length + ([x1.2.1] : List Int).length ≤ roomy))
  (cond (decide (([] : List Int).length + v0.2.1.length ≤ roomy))
  (cond (decide ((([] : List Int) ++ v0.2.1).length + ([(0 : Int)] : List Int).length ≤ roomy))
  (some ((((([] : List Int) ++ v0.1) ++ ([x1.2.1] : List Int)), ((([] : List Int) ++ v0.2.1) ++ ([(0 : Int)] : List Int)), ()), ()))
  (none))
  (none))
  (none))
  (none))
def cadastreref19_Put.h : Hint := .auto
abbrev cadastreref19_Put.E : Entry := ⟨[.agg SVec, .agg SValue], [.agg SVec], fun x => cadastreref19_Put.f x.1 x.2.1⟩
noncomputable def cadastreref19_Put.C : Ctx := ⟨Tryd.prog, 38, shs, fnL [], gls⟩
theorem cadastreref19_Put.ev : (fun x : VsT cadastreref19_Put.E.a => evF cadastreref19_Put.C Tryd.f23 (Tryd.f23.body.getD .skip) cadastreref19_Put.h cadastreref19_Put.E.a cadastreref19_Put.E.r x) = cadastreref19_Put.E.g := by as_aux_lemma => kernel_rfl
theorem cadastreref19_Put.spec {B : M} (hB : Good B) : Spec Tryd.prog B 23 cadastreref19_Put.E := spec_of (C := cadastreref19_Put.C) Tryd.func23 (by kernel_rfl) (by kernel_rfl) rfl mixed hB.globs fn_nil cadastreref19_Put.ev
/-! cadastre/cadastreref19.Of: function 8 -/
def cadastreref19_Of.l0 (rec : (List SValue.T) × Bool × ((List Int) × (List Int) × Unit) × ((List Int) × (List Int) × Unit) × Bool × Int × Unit → Option (SVec.T × Bool × Unit)) (x : (List SValue.T) × Bool × ((List Int) × (List Int) × Unit) × ((List Int) × (List Int) × Unit) × Bool × Int × Unit) : Option (SVec.T × Bool × Unit) :=
  cond (decide (x.2.2.2.2.2.1 < (x.1.length : Int)))
  ((idx x.1 x.2.2.2.2.2.1).bind fun y13 =>
  (cadastreref04_Normal.f y13).bind fun y14 =>
  cutBind (T := (List SValue.T) × Bool × ((List Int) × (List Int) × Unit) × ((List Int) × (List Int) × Unit) × Bool × Int × Unit) (
  cond (x.2.2.2.2.1 == true)
  (cond ((y14.1.1 == (0 : Int)) == false)
  (some (.go (x.1, x.2.1, (x.2.2.1.1, x.2.2.1.2.1, ()), (x.2.2.2.1.1, x.2.2.2.1.2.1, ()), (y14.1.1 == (2 : Int)), x.2.2.2.2.2.1, ())))
  (some (.go (x.1, x.2.1, (x.2.2.1.1, x.2.2.1.2.1, ()), (x.2.2.2.1.1, x.2.2.2.1.2.1, ()), true, x.2.2.2.2.2.1, ()))))
  (some (.go (x.1, x.2.1, (x.2.2.1.1, x.2.2.1.2.1, ()), (x.2.2.2.1.1, x.2.2.2.1.2.1, ()), false, x.2.2.2.2.2.1, ()))))
  fun x15 =>
  (idx x15.1 x15.2.2.2.2.2.1).bind fun y16 =>
  (cadastreref19_Lane.f y16 x15.2.1).bind fun y17 =>
  (cadastreref19_Put.f x15.2.2.2.1 y17.1).bind fun y18 =>
  rec (x15.1, x15.2.1, (x15.2.2.1.1, x15.2.2.1.2.1, ()), (y18.1.1, y18.1.2.1, ()), x15.2.2.2.2.1, (IntKind.i64.wrap (x15.2.2.2.2.2.1 + (1 : Int))), ()))
  (some (x.2.2.2.1, x.2.2.2.2.1, ()))
def cadastreref19_Of.f (l0 : (List SValue.T)) (area1 : Bool) : Option (SVec.T × Bool × Unit) :=
  cond (decide ((l0.length : Int) > (1000 : Int)))
  (some ((([] : List Int), ([] : List Int), ()), false, ()))
  (loopN cadastreref19_Of.l0 (64 + l0.length + ([] : List Int).length + ([] : List Int).length + ([] : List Int).length + ([] : List Int).length + (0 : Int).natAbs) (l0, area1, (([] : List Int), ([] : List Int), ()), (([] : List Int), ([] : List Int), ()), true, (0 : Int), ()))
def cadastreref19_Of.h : Hint := .seq none (.auto) (.seq none (.auto) (.seq none (.auto) (.seq none (.seq none (.auto) (.block (.loop [(0, .sh (.leaf (.sl SValue))), (1, .sh (.leaf .bool)), (4, .box [.inr ((.int .i64), false), .inr ((.int .i64), false)]), (6, .box [.inl (.sl (.int .i64)), .inl (.sl (.int .i64))]), (7, .sh (.leaf .bool)), (8, .sh (.leaf (.int .i64)))] (fun x => 64 + x.1.length + x.2.2.1.1.length + x.2.2.1.2.1.length + x.2.2.2.1.1.length + x.2.2.2.1.2.1.length + x.2.2.2.2.2.1.natAbs) (.seq none (.auto) (.seq none (.block (.seq none (.auto) (.seq (some [(0, .sh (.leaf (.sl SValue))), (1, .sh (.leaf .bool)), (4, .box [.inr ((.int .i64), false), .inr ((.int .i64), false)]), (6, .box [.inl (.sl (.int .i64)), .inl (.sl (.int .i64))]), (7, .sh (.leaf .bool)), (8, .sh (.leaf (.int .i64)))]) (.auto) (.auto)))) (.auto)))))) (.auto))))
abbrev cadastreref19_Of.E : Entry := ⟨[.leaf (.sl SValue), .leaf .bool], [.agg SVec, .leaf .bool], fun x => cadastreref19_Of.f x.1 x.2.1⟩
noncomputable def cadastreref19_Of.C : Ctx := ⟨Tryd.prog, 46, shs, fnL [(12, cadastreref19_Lane.E), (22, cadastreref04_Normal.E), (23, cadastreref19_Put.E)], gls⟩
theorem cadastreref19_Of.ev : (fun x : VsT cadastreref19_Of.E.a => evF cadastreref19_Of.C Tryd.f8 (Tryd.f8.body.getD .skip) cadastreref19_Of.h cadastreref19_Of.E.a cadastreref19_Of.E.r x) = cadastreref19_Of.E.g := by as_aux_lemma => kernel_rfl
theorem cadastreref19_Of.spec {B : M} (hB : Good B) : Spec Tryd.prog B 8 cadastreref19_Of.E := spec_of (C := cadastreref19_Of.C) Tryd.func8 (by kernel_rfl) (by kernel_rfl) rfl mixed hB.globs (fn_cons (cadastreref19_Lane.spec hB) (fn_cons (cadastreref04_Normal.spec hB) (fn_cons (cadastreref19_Put.spec hB) fn_nil))) cadastreref19_Of.ev
/-! cadastre/cadastreref19.Same: function 9 -/
def cadastreref19_Same.l0 (rec : ((List Int) × (List Int) × Unit) × ((List Int) × (List Int) × Unit) × Int × Unit → Option (Cut (((List Int) × (List Int) × Unit) × ((List Int) × (List Int) × Unit) × Unit) (Bool × Unit))) (x : ((List Int) × (List Int) × Unit) × ((List Int) × (List Int) × Unit) × Int × Unit) : Option (Cut (((List Int) × (List Int) × Unit) × ((List Int) × (List Int) × Unit) × Unit) (Bool × Unit)) :=
  cond (decide (x.2.2.1 < (x.1.1.length : Int)))
  ((idx x.1.1 x.2.2.1).bind fun y8 =>
  (idx x.2.1.1 x.2.2.1).bind fun y9 =>
  cond (y8 != y9)
  (some (.out (false, ())))
  (rec ((x.1.1, x.1.2.1, ()), (x.2.1.1, x.2.1.2.1, ()), (IntKind.i64.wrap (x.2.2.1 + (1 : Int))), ())))
  (some (.go ((x.1.1, x.1.2.1, ()), (x.2.1.1, x.2.1.2.1, ()), ())))
def cadastreref19_Same.l1 (rec : ((List Int) × (List Int) × Unit) × ((List Int) × (List Int) × Unit) × Int × Unit → Option (Bool × Unit)) (x : ((List Int) × (List Int) × Unit) × ((List Int) × (List Int) × Unit) × Int × Unit) : Option (Bool × Unit) :=
  cond (decide (x.2.2.1 < (x.1.2.1.length : Int)))
  ((idx x.1.2.1 x.2.2.1).bind fun y13 =>
  (idx x.2.1.2.1 x.2.2.1).bind fun y14 =>
  cond (y13 != y14)
  (some (false, ()))
  (rec ((x.1.1, x.1.2.1, ()), (x.2.1.1, x.2.1.2.1, ()), (IntKind.i64.wrap (x.2.2.1 + (1 : Int))), ())))
  (some (true, ()))
def cadastreref19_Same.f (a0 : SVec.T) (b1 : SVec.T) : Option (Bool × Unit) :=
  cutBind (T := ((List Int) × (List Int) × Unit) × ((List Int) × (List Int) × Unit) × Unit) (
  cond (((a0.1.length : Int) != (b1.1.length : Int)) == false)
  (cond ((a0.2.1.length : Int) != (b1.2.1.length : Int))
  (some (.out (false, ())))
  (some (.go ((a0.1, a0.2.1, ()), (b1.1, b1.2.1, ()), ()))))
  (some (.out (false, ()))))
  fun x1 =>
  cutBind (T := ((List Int) × (List Int) × Unit) × ((List Int) × (List Int) × Unit) × Unit) (
  loopN cadastreref19_Same.l0 (64 + x1.1.1.length + x1.1.2.1.length + x1.2.1.1.length + x1.2.1.2.1.length + (0 : Int).natAbs) ((x1.1.1, x1.1.2.1, ()), (x1.2.1.1, x1.2.1.2.1, ()), (0 : Int), ()))
  fun x10 =>
  loopN cadastreref19_Same.l1 (64 + x10.1.1.length + x10.1.2.1.length + x10.2.1.1.length + x10.2.1.2.1.length + (0 : Int).natAbs) ((x10.1.1, x10.1.2.1, ()), (x10.2.1.1, x10.2.1.2.1, ()), (0 : Int), ())
def cadastreref19_Same.h : Hint := .seq none (.auto) (.seq (some [(2, .box [.inl (.sl (.int .i64)), .inl (.sl (.int .i64))]), (3, .box [.inl (.sl (.int .i64)), .inl (.sl (.int .i64))])]) (.auto) (.seq (some [(2, .box [.inl (.sl (.int .i64)), .inl (.sl (.int .i64))]), (3, .box [.inl (.sl (.int .i64)), .inl (.sl (.int .i64))])]) (.seq none (.auto) (.block (.loop [(2, .box [.inl (.sl (.int .i64)), .inl (.sl (.int .i64))]), (3, .box [.inl (.sl (.int .i64)), .inl (.sl (.int .i64))]), (5, .sh (.leaf (.int .i64)))] (fun x => 64 + x.1.1.length + x.1.2.1.length + x.2.1.1.length + x.2.1.2.1.length + x.2.2.1.natAbs) (.auto)))) (.seq none (.seq none (.auto) (.block (.loop [(2, .box [.inl (.sl (.int .i64)), .inl (.sl (.int .i64))]), (3, .box [.inl (.sl (.int .i64)), .inl (.sl (.int .i64))]), (6, .sh (.leaf (.int .i64)))] (fun x => 64 + x.1.1.length + x.1.2.1.length + x.2.1.1.length + x.2.1.2.1.length + x.2.2.1.natAbs) (.auto)))) (.auto))))
abbrev cadastreref19_Same.E : Entry := ⟨[.agg SVec, .agg SVec], [.leaf .bool], fun x => cadastreref19_Same.f x.1 x.2.1⟩
noncomputable def cadastreref19_Same.C : Ctx := ⟨Tryd.prog, 59, shs, fnL [], gls⟩
theorem cadastreref19_Same.ev : (fun x : VsT cadastreref19_Same.E.a => evF cadastreref19_Same.C Tryd.f9 (Tryd.f9.body.getD .skip) cadastreref19_Same.h cadastreref19_Same.E.a cadastreref19_Same.E.r x) = cadastreref19_Same.E.g := by as_aux_lemma => kernel_rfl
theorem cadastreref19_Same.spec {B : M} (hB : Good B) : Spec Tryd.prog B 9 cadastreref19_Same.E := spec_of (C := cadastreref19_Same.C) Tryd.func9 (by kernel_rfl) (by kernel_rfl) rfl mixed hB.globs fn_nil cadastreref19_Same.ev
/-! cadastre/value.ErrName: function 42 -/
def value_ErrName.f (e0 : Int) : Option (ByteArray × Unit) :=
  (value_errName.f e0).bind fun y1 =>
  some (y1.1, ())
def value_ErrName.h : Hint := .auto
abbrev value_ErrName.E : Entry := ⟨[.leaf (.int .i64)], [.leaf .str], fun x => value_ErrName.f x.1⟩
noncomputable def value_ErrName.C : Ctx := ⟨Tryd.prog, 5, shs, fnL [(49, value_errName.E)], gls⟩
theorem value_ErrName.ev : (fun x : VsT value_ErrName.E.a => evF value_ErrName.C Tryd.f42 (Tryd.f42.body.getD .skip) value_ErrName.h value_ErrName.E.a value_ErrName.E.r x) = value_ErrName.E.g := by as_aux_lemma => kernel_rfl
theorem value_ErrName.spec {B : M} (hB : Good B) : Spec Tryd.prog B 42 value_ErrName.E := spec_of (C := value_ErrName.C) Tryd.func42 (by kernel_rfl) (by kernel_rfl) rfl mixed hB.globs (fn_cons (value_errName.spec hB) fn_nil) value_ErrName.ev
/-! cadastre/column.can: function 24 -/
def column_can.l0 (rec : ((List Int) × (List Int) × Unit) × (List Int) × Int × Int × Unit → Option (Bool × Unit)) (x : ((List Int) × (List Int) × Unit) × (List Int) × Int × Int × Unit) : Option (Bool × Unit) :=
  cond (decide (x.2.2.2.1 < x.2.2.1))
  ((idx x.2.1 x.2.2.2.1).bind fun y9 =>
  cond ((y9 == (0 : Int)) == true)
  ((idx x.1.1 x.2.2.2.1).bind fun y10 =>
  (fix_Can.f y10).bind fun y11 =>
  cond ((!y11.1) == false)
  (cond ((y9 != (0 : Int)) == true)
  ((idx x.1.1 x.2.2.2.1).bind fun y12 =>
  cond ((y12 != (0 : Int)) == false)
  ((value_ErrName.f y9).bind fun y13 =>
  cond (y13.1.toList == (⟨#[]⟩ : ByteArray).toList)
  (some (false, ()))
  (rec ((x.1.1, x.1.2.1, ()), x.2.1, x.2.2.1, (IntKind.i64.wrap (x.2.2.2.1 + (1 : Int))), ())))
  (some (false, ())))
  (rec ((x.1.1, x.1.2.1, ()), x.2.1, x.2.2.1, (IntKind.i64.wrap (x.2.2.2.1 + (1 : Int))), ())))
  (some (false, ())))
  (cond ((y9 != (0 : Int)) == true)
  ((idx x.1.1 x.2.2.2.1).bind fun y14 =>
  cond ((y14 != (0 : Int)) == false)
  ((value_ErrName.f y9).bind fun y15 =>
  cond (y15.1.toList == (⟨#[]⟩ : ByteArray).toList)
  (some (false, ()))
  (rec ((x.1.1, x.1.2.1, ()), x.2.1, x.2.2.1, (IntKind.i64.wrap (x.2.2.2.1 + (1 : Int))), ())))
  (some (false, ())))
  (rec ((x.1.1, x.1.2.1, ()), x.2.1, x.2.2.1, (IntKind.i64.wrap (x.2.2.2.1 + (1 : Int))), ()))))
  (some (true, ()))
def column_can.f (v0 : SVec.T) : Option (Bool × Unit) :=
  cutBind (T := ((List Int) × (List Int) × Unit) × Unit) (
  cond (((v0.1.length : Int) != (v0.2.1.length : Int)) == false)
  (cond (decide ((v0.1.length : Int) > (1000 : Int)))
  (some (.out (false, ())))
  (some (.go ((v0.1, v0.2.1, ()), ()))))
  (some (.out (false, ()))))
  fun x1 =>
  loopN column_can.l0 (64 + x1.1.1.length + x1.1.2.1.length + x1.1.2.1.length + (x1.1.2.1.length : Int).natAbs + (0 : Int).natAbs) ((x1.1.1, x1.1.2.1, ()), x1.1.2.1, (x1.1.2.1.length : Int), (0 : Int), ())
def column_can.h : Hint := .seq none (.auto) (.seq (some [(1, .box [.inl (.sl (.int .i64)), .inl (.sl (.int .i64))])]) (.auto) (.seq none (.seq none (.auto) (.block (.loop [(1, .box [.inl (.sl (.int .i64)), .inl (.sl (.int .i64))]), (19, .sh (.leaf (.sl (.int .i64)))), (20, .sh (.leaf (.int .i64))), (21, .sh (.leaf (.int .i64)))] (fun x => 64 + x.1.1.length + x.1.2.1.length + x.2.1.length + x.2.2.1.natAbs + x.2.2.2.1.natAbs) (.auto)))) (.auto)))
abbrev column_can.E : Entry := ⟨[.agg SVec], [.leaf .bool], fun x => column_can.f x.1⟩
noncomputable def column_can.C : Ctx := ⟨Tryd.prog, 55, shs, fnL [(41, fix_Can.E), (42, value_ErrName.E)], gls⟩
theorem column_can.ev : (fun x : VsT column_can.E.a => evF column_can.C Tryd.f24 (Tryd.f24.body.getD .skip) column_can.h column_can.E.a column_can.E.r x) = column_can.E.g := by as_aux_lemma => kernel_rfl
theorem column_can.spec {B : M} (hB : Good B) : Spec Tryd.prog B 24 column_can.E := spec_of (C := column_can.C) Tryd.func24 (by kernel_rfl) (by kernel_rfl) rfl mixed hB.globs (fn_cons (fix_Can.spec hB) (fn_cons (value_ErrName.spec hB) fn_nil)) column_can.ev
/-! cadastre/column.Can: function 10 -/
def column_Can.f (v0 : SVec.T) : Option (Bool × Unit) :=
  (column_can.f v0).bind fun y1 =>
  some (y1.1, ())
def column_Can.h : Hint := .auto
abbrev column_Can.E : Entry := ⟨[.agg SVec], [.leaf .bool], fun x => column_Can.f x.1⟩
noncomputable def column_Can.C : Ctx := ⟨Tryd.prog, 5, shs, fnL [(24, column_can.E)], gls⟩
theorem column_Can.ev : (fun x : VsT column_Can.E.a => evF column_Can.C Tryd.f10 (Tryd.f10.body.getD .skip) column_Can.h column_Can.E.a column_Can.E.r x) = column_Can.E.g := by as_aux_lemma => kernel_rfl
theorem column_Can.spec {B : M} (hB : Good B) : Spec Tryd.prog B 10 column_Can.E := spec_of (C := column_Can.C) Tryd.func10 (by kernel_rfl) (by kernel_rfl) rfl mixed hB.globs (fn_cons (column_can.spec hB) fn_nil) column_Can.ev
/-! cadastre/value.Err: function 25 -/
def value_Err.f (e0 : Int) : Option (SValue.T × Unit) :=
  (value_normal.f ((4 : Int), (0 : Int), (⟨#[]⟩ : ByteArray), e0, ())).bind fun y1 =>
  some (y1.1, ())
def value_Err.h : Hint := .auto
abbrev value_Err.E : Entry := ⟨[.leaf (.int .i64)], [.agg SValue], fun x => value_Err.f x.1⟩
noncomputable def value_Err.C : Ctx := ⟨Tryd.prog, 6, shs, fnL [(38, value_normal.E)], gls⟩
theorem value_Err.ev : (fun x : VsT value_Err.E.a => evF value_Err.C Tryd.f25 (Tryd.f25.body.getD .skip) value_Err.h value_Err.E.a value_Err.E.r x) = value_Err.E.g := by as_aux_lemma => kernel_rfl
theorem value_Err.spec {B : M} (hB : Good B) : Spec Tryd.prog B 25 value_Err.E := spec_of (C := value_Err.C) Tryd.func25 (by kernel_rfl) (by kernel_rfl) rfl mixed hB.globs (fn_cons (value_normal.spec hB) fn_nil) value_Err.ev
/-! cadastre/value.Num: function 26 -/
def value_Num.f (n0 : Int) : Option (SValue.T × Unit) :=
  (value_number.f n0).bind fun y1 =>
  some (y1.1, ())
def value_Num.h : Hint := .auto
abbrev value_Num.E : Entry := ⟨[.leaf (.int .i64)], [.agg SValue], fun x => value_Num.f x.1⟩
noncomputable def value_Num.C : Ctx := ⟨Tryd.prog, 5, shs, fnL [(43, value_number.E)], gls⟩
theorem value_Num.ev : (fun x : VsT value_Num.E.a => evF value_Num.C Tryd.f26 (Tryd.f26.body.getD .skip) value_Num.h value_Num.E.a value_Num.E.r x) = value_Num.E.g := by as_aux_lemma => kernel_rfl
theorem value_Num.spec {B : M} (hB : Good B) : Spec Tryd.prog B 26 value_Num.E := spec_of (C := value_Num.C) Tryd.func26 (by kernel_rfl) (by kernel_rfl) rfl mixed hB.globs (fn_cons (value_number.spec hB) fn_nil) value_Num.ev
/-! cadastre/column.Values: function 11 -/
def column_Values.l0 (rec : ((List Int) × (List Int) × Unit) × (List SValue.T) × (List Int) × Int × Int × Unit → Option ((List SValue.T) × Unit)) (x : ((List Int) × (List Int) × Unit) × (List SValue.T) × (List Int) × Int × Int × Unit) : Option ((List SValue.T) × Unit) :=
  cond (decide (x.2.2.2.2.1 < x.2.2.2.1))
  ((idx x.2.2.1 x.2.2.2.2.1).bind fun y6 =>
  cond (y6 != (0 : Int))
  ((value_Err.f y6).bind fun y7 =>
  cond (decide (x.2.1.length + ([y7.1] : List SValue.T).length ≤ roomy))
  (rec ((x.1.1, x.1.2.1, ()), (x.2.1 ++ ([y7.1] : List SValue.T)), x.2.2.1, x.2.2.2.1, (IntKind.i64.wrap (x.2.2.2.2.1 + (1 : Int))), ()))
  (none))
  ((idx x.1.1 x.2.2.2.2.1).bind fun y8 =>
  (value_Num.f y8).bind fun y9 =>
  cond (decide (x.2.1.length + ([y9.1] : List SValue.T).length ≤ roomy))
  (rec ((x.1.1, x.1.2.1, ()), (x.2.1 ++ ([y9.1] : List SValue.T)), x.2.2.1, x.2.2.2.1, (IntKind.i64.wrap (x.2.2.2.2.1 + (1 : Int))), ()))
  (none)))
  (some (x.2.1, ()))
def column_Values.f (v0 : SVec.T) : Option ((List SValue.T) × Unit) :=
  (column_can.f v0).bind fun y1 =>
  cond (!y1.1)
  (some (([] : List SValue.T), ()))
  (loopN column_Values.l0 (64 + v0.1.length + v0.2.1.length + ([] : List SValue.T).length + v0.2.1.length + (v0.2.1.length : Int).natAbs + (0 : Int).natAbs) ((v0.1, v0.2.1, ()), ([] : List SValue.T), v0.2.1, (v0.2.1.length : Int), (0 : Int), ()))
def column_Values.h : Hint := .seq none (.auto) (.seq none (.auto) (.seq none (.auto) (.seq none (.seq none (.auto) (.block (.loop [(1, .box [.inl (.sl (.int .i64)), .inl (.sl (.int .i64))]), (3, .vec SValue false), (10, .sh (.leaf (.sl (.int .i64)))), (11, .sh (.leaf (.int .i64))), (12, .sh (.leaf (.int .i64)))] (fun x => 64 + x.1.1.length + x.1.2.1.length + x.2.1.length + x.2.2.1.length + x.2.2.2.1.natAbs + x.2.2.2.2.1.natAbs) (.auto)))) (.auto))))
abbrev column_Values.E : Entry := ⟨[.agg SVec], [.leaf (.sl SValue)], fun x => column_Values.f x.1⟩
noncomputable def column_Values.C : Ctx := ⟨Tryd.prog, 35, shs, fnL [(24, column_can.E), (25, value_Err.E), (26, value_Num.E)], gls⟩
theorem column_Values.ev : (fun x : VsT column_Values.E.a => evF column_Values.C Tryd.f11 (Tryd.f11.body.getD .skip) column_Values.h column_Values.E.a column_Values.E.r x) = column_Values.E.g := by as_aux_lemma => kernel_rfl
theorem column_Values.spec {B : M} (hB : Good B) : Spec Tryd.prog B 11 column_Values.E := spec_of (C := column_Values.C) Tryd.func11 (by kernel_rfl) (by kernel_rfl) rfl mixed hB.globs (fn_cons (column_can.spec hB) (fn_cons (value_Err.spec hB) (fn_cons (value_Num.spec hB) fn_nil))) column_Values.ev
/-! cadastre/cadastrelaw19.lives: function 13 -/
def cadastrelaw19_lives.f : Option (Bool × Unit) :=
  (cadastreref04_Num.f (10000 : Int)).bind fun y1 =>
  (cadastreref04_Text.f (⟨#[120]⟩ : ByteArray)).bind fun y2 =>
  (column_Of.f ([y1.1, ((0 : Int), (0 : Int), (⟨#[]⟩ : ByteArray), (0 : Int), ()), y2.1] : List SValue.T) false).bind fun y3 =>
  (column_Can.f y3.1).bind fun y4 =>
  cond (y4.1 == true)
  (cond ((!y3.2.1) == true)
  (cond (((y3.1.1.length : Int) == (3 : Int)) == true)
  ((idx y3.1.1 (0 : Int)).bind fun y5 =>
  cond ((y5 == (10000 : Int)) == true)
  ((idx y3.1.2.1 (2 : Int)).bind fun y6 =>
  some ((y6 == (2 : Int)), ()))
  (some (false, ())))
  (some (false, ())))
  (some (false, ())))
  (some (false, ()))
def cadastrelaw19_lives.h : Hint := .auto
abbrev cadastrelaw19_lives.E : Entry := ⟨[], [.leaf .bool], fun x => cadastrelaw19_lives.f⟩
noncomputable def cadastrelaw19_lives.C : Ctx := ⟨Tryd.prog, 37, shs, fnL [(7, column_Of.E), (10, column_Can.E), (28, cadastreref04_Num.E), (29, cadastreref04_Text.E)], gls⟩
theorem cadastrelaw19_lives.ev : (fun x : VsT cadastrelaw19_lives.E.a => evF cadastrelaw19_lives.C Tryd.f13 (Tryd.f13.body.getD .skip) cadastrelaw19_lives.h cadastrelaw19_lives.E.a cadastrelaw19_lives.E.r x) = cadastrelaw19_lives.E.g := by as_aux_lemma => kernel_rfl
theorem cadastrelaw19_lives.spec {B : M} (hB : Good B) : Spec Tryd.prog B 13 cadastrelaw19_lives.E := spec_of (C := cadastrelaw19_lives.C) Tryd.func13 (by kernel_rfl) (by kernel_rfl) rfl mixed hB.globs (fn_cons (column_Of.spec hB) (fn_cons (column_Can.spec hB) (fn_cons (cadastreref04_Num.spec hB) (fn_cons (cadastreref04_Text.spec hB) fn_nil)))) cadastrelaw19_lives.ev
/-! cadastre/cadastrelaw19.ColumnOf: function 3 -/
def cadastrelaw19_ColumnOf.l0 (rec : (List SValue.T) × Bool × (List SValue.T) × Int × Unit → Option (Bool × Unit)) (x : (List SValue.T) × Bool × (List SValue.T) × Int × Unit) : Option (Bool × Unit) :=
  cond (decide (x.2.2.2.1 < (x.2.2.1.length : Int)))
  ((idx x.2.2.1 x.2.2.2.1).bind fun y12 =>
  (idx x.1 x.2.2.2.1).bind fun y13 =>
  (cadastreref19_Lane.f y13 x.2.1).bind fun y14 =>
  cond (!((y12.1 == y14.1.1) && ((y12.2.1 == y14.1.2.1) && ((y12.2.2.1.toList == y14.1.2.2.1.toList) && (y12.2.2.2.1 == y14.1.2.2.2.1)))))
  (some (false, ()))
  (rec (x.1, x.2.1, x.2.2.1, (IntKind.i64.wrap (x.2.2.2.1 + (1 : Int))), ())))
  ((cadastrelaw19_lives.f).bind fun y15 =>
  some (y15.1, ()))
def cadastrelaw19_ColumnOf.f (l0 : (List SValue.T)) (area1 : Bool) : Option (Bool × Unit) :=
  cond (decide (([] : List SValue.T).length + l0.length ≤ roomy))
  ((column_Of.f (([] : List SValue.T) ++ l0) area1).bind fun y1 =>
  (cadastreref19_Of.f l0 area1).bind fun y2 =>
  cutBind (T := (List SValue.T) × Bool × ((List Int) × (List Int) × Unit) × Unit) (
  (cadastreref19_Same.f y1.1 y2.1).bind fun y5 =>
  cond ((!y5.1) == false)
  (cond ((!(y1.2.1 == y2.2.1)) == false)
  ((column_Can.f y1.1).bind fun y6 =>
  cond (!y6.1)
  (some (.out (false, ())))
  (some (.go (l0, area1, (y1.1.1, y1.1.2.1, ()), ()))))
  (some (.out (false, ()))))
  (some (.out (false, ()))))
  fun x7 =>
  (column_Values.f x7.2.2.1).bind fun y8 =>
  cond ((y8.1.length : Int) != (x7.2.2.1.1.length : Int))
  (some (false, ()))
  (loopN cadastrelaw19_ColumnOf.l0 (64 + x7.1.length + y8.1.length + (0 : Int).natAbs) (x7.1, x7.2.1, y8.1, (0 : Int), ())))
  (none)
def cadastrelaw19_ColumnOf.h : Hint := .seq none (.auto) (.seq none (.auto) (.seq none (.auto) (.seq (some [(0, .sh (.leaf (.sl SValue))), (1, .sh (.leaf .bool)), (5, .box [.inl (.sl (.int .i64)), .inl (.sl (.int .i64))])]) (.auto) (.seq none (.auto) (.seq none (.auto) (.seq none (.seq none (.auto) (.block (.loop [(0, .sh (.leaf (.sl SValue))), (1, .sh (.leaf .bool)), (9, .sh (.leaf (.sl SValue))), (10, .sh (.leaf (.int .i64)))] (fun x => 64 + x.1.length + x.2.2.1.length + x.2.2.2.1.natAbs) (.auto)))) (.auto)))))))
abbrev cadastrelaw19_ColumnOf.E : Entry := ⟨[.leaf (.sl SValue), .leaf .bool], [.leaf .bool], fun x => cadastrelaw19_ColumnOf.f x.1 x.2.1⟩
noncomputable def cadastrelaw19_ColumnOf.C : Ctx := ⟨Tryd.prog, 65, shs, fnL [(7, column_Of.E), (8, cadastreref19_Of.E), (9, cadastreref19_Same.E), (10, column_Can.E), (11, column_Values.E), (12, cadastreref19_Lane.E), (13, cadastrelaw19_lives.E)], gls⟩
theorem cadastrelaw19_ColumnOf.ev : (fun x : VsT cadastrelaw19_ColumnOf.E.a => evF cadastrelaw19_ColumnOf.C Tryd.f3 (Tryd.f3.body.getD .skip) cadastrelaw19_ColumnOf.h cadastrelaw19_ColumnOf.E.a cadastrelaw19_ColumnOf.E.r x) = cadastrelaw19_ColumnOf.E.g := by as_aux_lemma => kernel_rfl
theorem cadastrelaw19_ColumnOf.spec {B : M} (hB : Good B) : Spec Tryd.prog B 3 cadastrelaw19_ColumnOf.E := spec_of (C := cadastrelaw19_ColumnOf.C) Tryd.func3 (by kernel_rfl) (by kernel_rfl) rfl mixed hB.globs (fn_cons (column_Of.spec hB) (fn_cons (cadastreref19_Of.spec hB) (fn_cons (cadastreref19_Same.spec hB) (fn_cons (column_Can.spec hB) (fn_cons (column_Values.spec hB) (fn_cons (cadastreref19_Lane.spec hB) (fn_cons (cadastrelaw19_lives.spec hB) fn_nil))))))) cadastrelaw19_ColumnOf.ev
/-! cadastre/cadastreref19.Own: function 14 -/
def cadastreref19_Own.f (v0 : SVec.T) : Option (SVec.T × Unit) :=
  cond (decide (([] : List Int).length + v0.1.length ≤ roomy))
  (cond (decide (([] : List Int).length + v0.2.1.length ≤ roomy))
  (some (((([] : List Int) ++ v0.1), (([] : List Int) ++ v0.2.1), ()), ()))
  (none))
  (none)
def cadastreref19_Own.h : Hint := .auto
abbrev cadastreref19_Own.E : Entry := ⟨[.agg SVec], [.agg SVec], fun x => cadastreref19_Own.f x.1⟩
noncomputable def cadastreref19_Own.C : Ctx := ⟨Tryd.prog, 12, shs, fnL [], gls⟩
theorem cadastreref19_Own.ev : (fun x : VsT cadastreref19_Own.E.a => evF cadastreref19_Own.C Tryd.f14 (Tryd.f14.body.getD .skip) cadastreref19_Own.h cadastreref19_Own.E.a cadastreref19_Own.E.r x) = cadastreref19_Own.E.g := by as_aux_lemma => kernel_rfl
theorem cadastreref19_Own.spec {B : M} (hB : Good B) : Spec Tryd.prog B 14 cadastreref19_Own.E := spec_of (C := cadastreref19_Own.C) Tryd.func14 (by kernel_rfl) (by kernel_rfl) rfl mixed hB.globs fn_nil cadastreref19_Own.ev
/-! slices.Equal[[]int64,int64]: function 34 -/
def slices_Equal_int64_int64.l0 (rec : (List Int) × (List Int) × Int × Int × Unit → Option (Bool × Unit)) (x : (List Int) × (List Int) × Int × Int × Unit) : Option (Bool × Unit) :=
  cond (decide (x.2.2.2.1 < x.2.2.1))
  ((idx x.1 x.2.2.2.1).bind fun y3 =>
  (idx x.2.1 x.2.2.2.1).bind fun y4 =>
  cond (y3 != y4)
  (some (false, ()))
  (rec (x.1, x.2.1, x.2.2.1, (IntKind.i64.wrap (x.2.2.2.1 + (1 : Int))), ())))
  (some (true, ()))
def slices_Equal_int64_int64.f (s10 : (List Int)) (s21 : (List Int)) : Option (Bool × Unit) :=
  cond ((s10.length : Int) != (s21.length : Int))
  (some (false, ()))
  (loopN slices_Equal_int64_int64.l0 (64 + s10.length + s21.length + (s10.length : Int).natAbs + (0 : Int).natAbs) (s10, s21, (s10.length : Int), (0 : Int), ()))
def slices_Equal_int64_int64.h : Hint := .seq none (.auto) (.seq none (.auto) (.seq none (.seq none (.auto) (.block (.loop [(0, .sh (.leaf (.sl (.int .i64)))), (1, .sh (.leaf (.sl (.int .i64)))), (12, .sh (.leaf (.int .i64))), (13, .sh (.leaf (.int .i64)))] (fun x => 64 + x.1.length + x.2.1.length + x.2.2.1.natAbs + x.2.2.2.1.natAbs) (.auto)))) (.auto)))
abbrev slices_Equal_int64_int64.E : Entry := ⟨[.leaf (.sl (.int .i64)), .leaf (.sl (.int .i64))], [.leaf .bool], fun x => slices_Equal_int64_int64.f x.1 x.2.1⟩
noncomputable def slices_Equal_int64_int64.C : Ctx := ⟨Tryd.prog, 26, shs, fnL [], gls⟩
theorem slices_Equal_int64_int64.ev : (fun x : VsT slices_Equal_int64_int64.E.a => evF slices_Equal_int64_int64.C Tryd.f34 (Tryd.f34.body.getD .skip) slices_Equal_int64_int64.h slices_Equal_int64_int64.E.a slices_Equal_int64_int64.E.r x) = slices_Equal_int64_int64.E.g := by as_aux_lemma => kernel_rfl
theorem slices_Equal_int64_int64.spec {B : M} (hB : Good B) : Spec Tryd.prog B 34 slices_Equal_int64_int64.E := spec_of (C := slices_Equal_int64_int64.C) Tryd.func34 (by kernel_rfl) (by kernel_rfl) rfl mixed hB.globs fn_nil slices_Equal_int64_int64.ev
/-! slices.Equal[[]int,int]: function 35 -/
def slices_Equal_int_int.l0 (rec : (List Int) × (List Int) × Int × Int × Unit → Option (Bool × Unit)) (x : (List Int) × (List Int) × Int × Int × Unit) : Option (Bool × Unit) :=
  cond (decide (x.2.2.2.1 < x.2.2.1))
  ((idx x.1 x.2.2.2.1).bind fun y3 =>
  (idx x.2.1 x.2.2.2.1).bind fun y4 =>
  cond (y3 != y4)
  (some (false, ()))
  (rec (x.1, x.2.1, x.2.2.1, (IntKind.i64.wrap (x.2.2.2.1 + (1 : Int))), ())))
  (some (true, ()))
def slices_Equal_int_int.f (s10 : (List Int)) (s21 : (List Int)) : Option (Bool × Unit) :=
  cond ((s10.length : Int) != (s21.length : Int))
  (some (false, ()))
  (loopN slices_Equal_int_int.l0 (64 + s10.length + s21.length + (s10.length : Int).natAbs + (0 : Int).natAbs) (s10, s21, (s10.length : Int), (0 : Int), ()))
def slices_Equal_int_int.h : Hint := .seq none (.auto) (.seq none (.auto) (.seq none (.seq none (.auto) (.block (.loop [(0, .sh (.leaf (.sl (.int .i64)))), (1, .sh (.leaf (.sl (.int .i64)))), (12, .sh (.leaf (.int .i64))), (13, .sh (.leaf (.int .i64)))] (fun x => 64 + x.1.length + x.2.1.length + x.2.2.1.natAbs + x.2.2.2.1.natAbs) (.auto)))) (.auto)))
abbrev slices_Equal_int_int.E : Entry := ⟨[.leaf (.sl (.int .i64)), .leaf (.sl (.int .i64))], [.leaf .bool], fun x => slices_Equal_int_int.f x.1 x.2.1⟩
noncomputable def slices_Equal_int_int.C : Ctx := ⟨Tryd.prog, 26, shs, fnL [], gls⟩
theorem slices_Equal_int_int.ev : (fun x : VsT slices_Equal_int_int.E.a => evF slices_Equal_int_int.C Tryd.f35 (Tryd.f35.body.getD .skip) slices_Equal_int_int.h slices_Equal_int_int.E.a slices_Equal_int_int.E.r x) = slices_Equal_int_int.E.g := by as_aux_lemma => kernel_rfl
theorem slices_Equal_int_int.spec {B : M} (hB : Good B) : Spec Tryd.prog B 35 slices_Equal_int_int.E := spec_of (C := slices_Equal_int_int.C) Tryd.func35 (by kernel_rfl) (by kernel_rfl) rfl mixed hB.globs fn_nil slices_Equal_int_int.ev
/-! cadastre/column.Same: function 18 -/
def column_Same.f (a0 : SVec.T) (b1 : SVec.T) : Option (Bool × Unit) :=
  (slices_Equal_int64_int64.f a0.1 b1.1).bind fun y1 =>
  cond (y1.1 == true)
  ((slices_Equal_int_int.f a0.2.1 b1.2.1).bind fun y2 =>
  some (y2.1, ()))
  (some (false, ()))
def column_Same.h : Hint := .auto
abbrev column_Same.E : Entry := ⟨[.agg SVec, .agg SVec], [.leaf .bool], fun x => column_Same.f x.1 x.2.1⟩
noncomputable def column_Same.C : Ctx := ⟨Tryd.prog, 17, shs, fnL [(34, slices_Equal_int64_int64.E), (35, slices_Equal_int_int.E)], gls⟩
theorem column_Same.ev : (fun x : VsT column_Same.E.a => evF column_Same.C Tryd.f18 (Tryd.f18.body.getD .skip) column_Same.h column_Same.E.a column_Same.E.r x) = column_Same.E.g := by as_aux_lemma => kernel_rfl
theorem column_Same.spec {B : M} (hB : Good B) : Spec Tryd.prog B 18 column_Same.E := spec_of (C := column_Same.C) Tryd.func18 (by kernel_rfl) (by kernel_rfl) rfl mixed hB.globs (fn_cons (slices_Equal_int64_int64.spec hB) (fn_cons (slices_Equal_int_int.spec hB) fn_nil)) column_Same.ev
/-! cadastre/cadastreref19.Can: function 15 -/
def cadastreref19_Can.l0 (rec : ((List Int) × (List Int) × Unit) × Int × Unit → Option (Bool × Unit)) (x : ((List Int) × (List Int) × Unit) × Int × Unit) : Option (Bool × Unit) :=
  cond (decide (x.2.1 < (x.1.1.length : Int)))
  (cutBind (T := ((List Int) × (List Int) × Unit) × Int × Unit) (
  cutBind (T := ((List Int) × (List Int) × Unit) × Int × Unit) (
  (idx x.1.2.1 x.2.1).bind fun y39 =>
  cond ((y39 == (0 : Int)) == true)
  ((idx x.1.1 x.2.1).bind fun y40 =>
  (cadastreref01_Can.f y40).bind fun y41 =>
  cond (!y41.1)
  (some (.out (.out (false, ()))))
  (some (.go ((x.1.1, x.1.2.1, ()), x.2.1, ()))))
  (some (.go ((x.1.1, x.1.2.1, ()), x.2.1, ()))))
  fun x42 =>
  (idx x42.1.2.1 x42.2.1).bind fun y43 =>
  cond ((y43 != (0 : Int)) == true)
  ((idx x42.1.2.1 x42.2.1).bind fun y44 =>
  cond ((decide (y44 < (1 : Int))) == false)
  ((idx x42.1.2.1 x42.2.1).bind fun y45 =>
  cond ((decide (y45 > (5 : Int))) == false)
  ((idx x42.1.1 x42.2.1).bind fun y46 =>
  cond (y46 != (0 : Int))
  (some (.out (false, ())))
  (some (.go ((x42.1.1, x42.1.2.1, ()), x42.2.1, ()))))
  (some (.out (false, ()))))
  (some (.out (false, ()))))
  (some (.go ((x42.1.1, x42.1.2.1, ()), x42.2.1, ()))))
  fun x47 =>
  rec ((x47.1.1, x47.1.2.1, ()), (IntKind.i64.wrap (x47.2.1 + (1 : Int))), ()))
  (some (true, ()))
def cadastreref19_Can.f (v0 : SVec.T) : Option (Bool × Unit) :=
  cutBind (T := ((List Int) × (List Int) × Unit) × Unit) (
  cond (((v0.1.length : Int) != (v0.2.1.length : Int)) == false)
  (cond (decide ((v0.1.length : Int) > (1000 : Int)))
  (some (.out (false, ())))
  (some (.go ((v0.1, v0.2.1, ()), ()))))
  (some (.out (false, ()))))
  fun x1 =>
  loopN cadastreref19_Can.l0 (64 + x1.1.1.length + x1.1.2.1.length + (0 : Int).natAbs) ((x1.1.1, x1.1.2.1, ()), (0 : Int), ())
def cadastreref19_Can.h : Hint := .seq none (.auto) (.seq (some [(1, .box [.inl (.sl (.int .i64)), .inl (.sl (.int .i64))])]) (.auto) (.seq none (.seq none (.auto) (.block (.loop [(1, .box [.inl (.sl (.int .i64)), .inl (.sl (.int .i64))]), (3, .sh (.leaf (.int .i64)))] (fun x => 64 + x.1.1.length + x.1.2.1.length + x.2.1.natAbs) (.seq none (.auto) (.seq (some [(1, .box [.inl (.sl (.int .i64)), .inl (.sl (.int .i64))]), (3, .sh (.leaf (.int .i64)))]) (.block (.seq (some [(1, .box [.inl (.sl (.int .i64)), .inl (.sl (.int .i64))]), (3, .sh (.leaf (.int .i64)))]) (.auto) (.auto))) (.auto)))))) (.auto)))
abbrev cadastreref19_Can.E : Entry := ⟨[.agg SVec], [.leaf .bool], fun x => cadastreref19_Can.f x.1⟩
noncomputable def cadastreref19_Can.C : Ctx := ⟨Tryd.prog, 69, shs, fnL [(30, cadastreref01_Can.E)], gls⟩
theorem cadastreref19_Can.ev : (fun x : VsT cadastreref19_Can.E.a => evF cadastreref19_Can.C Tryd.f15 (Tryd.f15.body.getD .skip) cadastreref19_Can.h cadastreref19_Can.E.a cadastreref19_Can.E.r x) = cadastreref19_Can.E.g := by as_aux_lemma => kernel_rfl
theorem cadastreref19_Can.spec {B : M} (hB : Good B) : Spec Tryd.prog B 15 cadastreref19_Can.E := spec_of (C := cadastreref19_Can.C) Tryd.func15 (by kernel_rfl) (by kernel_rfl) rfl mixed hB.globs (fn_cons (cadastreref01_Can.spec hB) fn_nil) cadastreref19_Can.ev
/-! cadastre/cadastreref19.At: function 16 -/
def cadastreref19_At.f (v0 : SVec.T) (i1 : Int) : Option (SValue.T × Unit) :=
  (idx v0.2.1 i1).bind fun y1 =>
  cond (y1 != (0 : Int))
  ((idx v0.2.1 i1).bind fun y2 =>
  (cadastreref04_Err.f y2).bind fun y3 =>
  some (y3.1, ()))
  ((idx v0.1 i1).bind fun y4 =>
  (cadastreref04_Num.f y4).bind fun y5 =>
  some (y5.1, ()))
def cadastreref19_At.h : Hint := .auto
abbrev cadastreref19_At.E : Entry := ⟨[.agg SVec, .leaf (.int .i64)], [.agg SValue], fun x => cadastreref19_At.f x.1 x.2.1⟩
noncomputable def cadastreref19_At.C : Ctx := ⟨Tryd.prog, 23, shs, fnL [(28, cadastreref04_Num.E), (31, cadastreref04_Err.E)], gls⟩
theorem cadastreref19_At.ev : (fun x : VsT cadastreref19_At.E.a => evF cadastreref19_At.C Tryd.f16 (Tryd.f16.body.getD .skip) cadastreref19_At.h cadastreref19_At.E.a cadastreref19_At.E.r x) = cadastreref19_At.E.g := by as_aux_lemma => kernel_rfl
theorem cadastreref19_At.spec {B : M} (hB : Good B) : Spec Tryd.prog B 16 cadastreref19_At.E := spec_of (C := cadastreref19_At.C) Tryd.func16 (by kernel_rfl) (by kernel_rfl) rfl mixed hB.globs (fn_cons (cadastreref04_Num.spec hB) (fn_cons (cadastreref04_Err.spec hB) fn_nil)) cadastreref19_At.ev
/-! cadastre/cadastrelaw19.ColumnCan: function 4 -/
def cadastrelaw19_ColumnCan.l0 (rec : ((List Int) × (List Int) × Unit) × (List SValue.T) × Int × Unit → Option (Bool × Unit)) (x : ((List Int) × (List Int) × Unit) × (List SValue.T) × Int × Unit) : Option (Bool × Unit) :=
  cond (decide (x.2.2.1 < (x.2.1.length : Int)))
  ((idx x.2.1 x.2.2.1).bind fun y9 =>
  (cadastreref19_At.f x.1 x.2.2.1).bind fun y10 =>
  cond (!((y9.1 == y10.1.1) && ((y9.2.1 == y10.1.2.1) && ((y9.2.2.1.toList == y10.1.2.2.1.toList) && (y9.2.2.2.1 == y10.1.2.2.2.1)))))
  (some (false, ()))
  (rec ((x.1.1, x.1.2.1, ()), x.2.1, (IntKind.i64.wrap (x.2.2.1 + (1 : Int))), ())))
  ((cadastrelaw19_lives.f).bind fun y11 =>
  some (y11.1, ()))
def cadastrelaw19_ColumnCan.f (v0 : SVec.T) : Option (Bool × Unit) :=
  (cadastreref19_Own.f v0).bind fun y1 =>
  (column_Can.f y1.1).bind fun y2 =>
  (cadastreref19_Own.f v0).bind fun y3 =>
  (column_Values.f y3.1).bind fun y4 =>
  (cadastreref19_Can.f v0).bind fun y5 =>
  cond (!(y2.1 == y5.1))
  (some (false, ()))
  (cond (!y2.1)
  (cond (((y4.1.length : Int) == (0 : Int)) == true)
  ((cadastrelaw19_lives.f).bind fun y6 =>
  some (y6.1, ()))
  (some (false, ())))
  (cond ((y4.1.length : Int) != (v0.1.length : Int))
  (some (false, ()))
  (loopN cadastrelaw19_ColumnCan.l0 (64 + v0.1.length + v0.2.1.length + y4.1.length + (0 : Int).natAbs) ((v0.1, v0.2.1, ()), y4.1, (0 : Int), ()))))
def cadastrelaw19_ColumnCan.h : Hint := .seq none (.auto) (.seq none (.auto) (.seq none (.auto) (.seq none (.auto) (.seq none (.auto) (.seq none (.auto) (.seq none (.seq none (.auto) (.block (.loop [(1, .box [.inl (.sl (.int .i64)), .inl (.sl (.int .i64))]), (4, .sh (.leaf (.sl SValue))), (5, .sh (.leaf (.int .i64)))] (fun x => 64 + x.1.1.length + x.1.2.1.length + x.2.1.length + x.2.2.1.natAbs) (.auto)))) (.auto)))))))
abbrev cadastrelaw19_ColumnCan.E : Entry := ⟨[.agg SVec], [.leaf .bool], fun x => cadastrelaw19_ColumnCan.f x.1⟩
noncomputable def cadastrelaw19_ColumnCan.C : Ctx := ⟨Tryd.prog, 45, shs, fnL [(10, column_Can.E), (11, column_Values.E), (13, cadastrelaw19_lives.E), (14, cadastreref19_Own.E), (15, cadastreref19_Can.E), (16, cadastreref19_At.E)], gls⟩
theorem cadastrelaw19_ColumnCan.ev : (fun x : VsT cadastrelaw19_ColumnCan.E.a => evF cadastrelaw19_ColumnCan.C Tryd.f4 (Tryd.f4.body.getD .skip) cadastrelaw19_ColumnCan.h cadastrelaw19_ColumnCan.E.a cadastrelaw19_ColumnCan.E.r x) = cadastrelaw19_ColumnCan.E.g := by as_aux_lemma => kernel_rfl
theorem cadastrelaw19_ColumnCan.spec {B : M} (hB : Good B) : Spec Tryd.prog B 4 cadastrelaw19_ColumnCan.E := spec_of (C := cadastrelaw19_ColumnCan.C) Tryd.func4 (by kernel_rfl) (by kernel_rfl) rfl mixed hB.globs (fn_cons (column_Can.spec hB) (fn_cons (column_Values.spec hB) (fn_cons (cadastrelaw19_lives.spec hB) (fn_cons (cadastreref19_Own.spec hB) (fn_cons (cadastreref19_Can.spec hB) (fn_cons (cadastreref19_At.spec hB) fn_nil)))))) cadastrelaw19_ColumnCan.ev
end Go.Proofs.YtaldfmbnfnagjaaDoor.E
