/- An argument's reading, opened: plain data of its shape, within the kinds' bounds and of the reading's bulk. -/
import Derived.Test.YtaldfmbnfnagjaaDoorEvRel
import Derived.Test.YtaldfmbnfnagjaaDoorEvOk
import Derived.Test.YtaldfmbnfnagjaaDoorRows
import Derived.ChangeArms
import Derived.DataReads
import Derived.WideShapes
namespace Go.Proofs.YtaldfmbnfnagjaaDoor.E
set_option linter.unusedVariables false
/-- Memory as it is. -/
def snap (w : World) : M := fun b o => w.cell? ⟨b, o, none⟩
def fieldsSh (P : Program) (g : TypeId → Option Sh) (n : Nat) : List Field → Nat → Option Sh
  | [], off => cond (Nat.beq off n) (some .unit) none
  | f :: r, off => match g f.type with
    | none => none
    | some s => cond (Nat.beq f.offset off && Nat.beq s.n (P.cellsOf f.type)) ((fieldsSh P g n r (off + s.n)).map fun q => .pair s q) none
/-- A type's shape. -/
def shOf (P : Program) : Nat → TypeId → Option Sh
  | 0, _ => none
  | n + 1, t => match P.underlying t with
    | some .bool => some .bool
    | some (.int k) => some (.int k)
    | some .string => some .str
    | some (.slice e) => (match shOf P n e with
      | some s => cond (Nat.beq s.n (P.cellsOf e) && Nat.ble 1 s.n) (some (.sl s)) none
      | none => none)
    | some (.struct fs) => fieldsSh P (shOf P n) (P.cellsOf t) fs.toList 0
    | _ => none
/-- Within the kinds' bounds, and of a bulk that is told. -/
def Wf (N : Nat) : (s : Sh) → s.T → Prop
  | .bool, _ => True
  | .int k, n => (Lit.int k n).wf = true
  | .str, s => s.size ≤ N
  | .unit, _ => True
  | .pair a b, x => Wf N a x.1 ∧ Wf N b x.2
  | .sl row, xs => xs.length ≤ N ∧ ∀ x ∈ xs, Wf N row x

theorem bulk_pos {H : Type} (d : DataW H) : 1 ≤ Rows.uptoBulk d := by
  cases d <;> (try (rename_i l; cases l)) <;> simp [Rows.uptoBulk]
theorem bulk_length {H : Type} : ∀ l : List (DataW H), l.length ≤ Rows.uptoBulkAll l
  | [] => Nat.zero_le _
  | d :: l => by have := bulk_pos d; have := bulk_length l; simp only [Rows.uptoBulkAll, List.length_cons]; omega
theorem bulk_mem {H : Type} : ∀ {l : List (DataW H)} {d : DataW H}, d ∈ l → Rows.uptoBulk d ≤ Rows.uptoBulkAll l
  | [], _, h => by cases h
  | a :: l, d, h => by
    simp only [Rows.uptoBulkAll]
    rcases List.mem_cons.1 h with rfl | h
    · omega
    · have := bulk_mem h; omega

theorem choose_list {α β : Type} {R : α → β → Prop} : ∀ (l : List β), (∀ y ∈ l, ∃ x, R x y) → ∃ xs : List α, xs.length = l.length ∧ ∀ (i : Nat) (x : α), xs[i]? = some x → ∃ y : β, l[i]? = some y ∧ R x y
  | [], _ => ⟨[], rfl, fun i x h => by simp at h⟩
  | y :: l, h => by
    obtain ⟨x, hx⟩ := h y List.mem_cons_self
    obtain ⟨xs, h1, h2⟩ := choose_list l fun z hz => h z (List.mem_cons_of_mem _ hz)
    refine ⟨x :: xs, by simp [h1], fun i z hz => ?_⟩
    cases i with
    | zero => simp only [List.getElem?_cons_zero, Option.some.injEq] at hz; subst hz; exact ⟨y, rfl, hx⟩
    | succ i => simpa using h2 i z (by simpa using hz)

variable {H : Type} {enc : TypeId × Value → H} {P : Program} {w : World} {N : Nat}
def Opens (P : Program) (w : World) (enc : TypeId × Value → H) (N : Nat) (t : TypeId) (s : Sh) : Prop :=
  ∀ (fuel : Nat) (cs : List Value) (x : DataW H × List MemPlace), DataW.trod enc P w 0 (fun _ => true) true fuel t cs = some x → Rows.uptoBulk x.1 ≤ N → ∃ y : s.T, RdT (snap w) s y cs ∧ Wf N s y
theorem open_fields {g : TypeId → Option Sh} {n : Nat} (hg : ∀ t s, g t = some s → Opens P w enc N t s) : ∀ (fs : List Field) (off : Nat) (s : Sh), fieldsSh P g n fs off = some s →
    ∀ (fuel : Nat) (cs : List Value) (xs : List (DataW H × List MemPlace)), cs.length = n → (∀ (i : Nat) (f : Field), fs[i]? = some f → ∃ x, xs[i]? = some x ∧ DataW.trod enc P w 0 (fun _ => true) true fuel f.type ((cs.drop f.offset).take (P.cellsOf f.type)) = some x) →
      (∀ x ∈ xs, Rows.uptoBulk x.1 ≤ N) → ∃ y : s.T, RdT (snap w) s y (cs.drop off) ∧ Wf N s y
  | [], off, s, h, fuel, cs, xs, hl, ht, hN => by
    simp only [fieldsSh, cond_eq_ite] at h
    split at h
    · rename_i hq
      simp only [Option.some.injEq] at h
      subst h
      have := Nat.eq_of_beq_eq_true hq
      exact ⟨(), by show cs.drop off = []; rw [List.drop_eq_nil_iff]; omega, trivial⟩
    · simp at h
  | f :: r, off, s, h, fuel, cs, xs, hl, ht, hN => by
    simp only [fieldsSh] at h
    split at h
    · simp at h
    · rename_i sf hsf
      simp only [cond_eq_ite] at h
      split at h
      · rename_i hq
        simp only [Bool.and_eq_true] at hq
        have e1 := Nat.eq_of_beq_eq_true hq.1
        have e2 := Nat.eq_of_beq_eq_true hq.2
        obtain ⟨q, hr, rfl⟩ := Option.map_eq_some_iff.1 h
        obtain ⟨x0, hx0, htr⟩ := ht 0 f rfl
        obtain ⟨y, hy, hw⟩ := hg _ _ hsf fuel _ _ htr (hN _ (List.mem_of_getElem? hx0))
        cases xs with
        | nil => simp at hx0
        | cons x1 xs =>
          obtain ⟨z, hz, hwz⟩ := open_fields hg r _ q hr fuel cs xs hl (fun i f' hf => by simpa using ht (i + 1) f' (by simpa using hf)) (fun x hx => hN x (List.mem_cons_of_mem _ hx))
          refine ⟨(y, z), ⟨_, _, ?_, hy, hz⟩, hw, hwz⟩
          rw [e1, ← e2, ← List.drop_drop, List.take_append_drop]
      · simp at h
theorem open_cells : ∀ (n : Nat) (t : TypeId) (s : Sh), shOf P n t = some s → Opens P w enc N t s
  | 0, _, _, h => by simp [shOf] at h
  | n + 1, t, s, h => by
    intro fuel cs x hx hb
    simp only [shOf] at h
    split at h
    · rename_i ht
      simp only [Option.some.injEq] at h; subst h
      obtain ⟨b, rfl, rfl⟩ := DataW.trod_bool ht hx
      exact ⟨b, rfl, trivial⟩
    · rename_i k ht
      simp only [Option.some.injEq] at h; subst h
      obtain ⟨b, rfl, rfl, hw⟩ := DataW.trod_int ht hx
      exact ⟨b, rfl, hw⟩
    · rename_i ht
      simp only [Option.some.injEq] at h; subst h
      obtain ⟨b, rfl, rfl, hw⟩ := DataW.trod_string ht hx
      refine ⟨b, rfl, ?_⟩
      simp only [Rows.uptoBulk] at hb
      have : b.data.toList.length = b.size := by rw [Array.length_toList]; rfl
      show b.size ≤ N
      omega
    · rename_i e ht
      split at h
      · rename_i s' hs'
        simp only [cond_eq_ite] at h
        split at h
        · rename_i hq
          simp only [Bool.and_eq_true] at hq
          have e1 := Nat.eq_of_beq_eq_true hq.1
          have e2 := Nat.le_of_ble_eq_true hq.2
          simp only [Option.some.injEq] at h; subst h
          rcases DataW.trod_slice ht hx with ⟨rfl, rfl⟩ | ⟨a, len, cap, elems, rest, fu, rfl, rfl, rfl, _, hlc, hcm, hel, hat, _, _⟩
          · exact ⟨[], ⟨_, rfl, none, 0, rfl, Nat.le_refl _, .inl rfl⟩, Nat.zero_le _, fun x hx => by cases hx⟩
          · simp only [Rows.uptoBulk] at hb
            have key : ∀ y ∈ List.range len, ∃ z : s'.T, ((∃ vs : List Value, vs.length = s'.n ∧ RdT (snap w) s' z vs ∧ ∀ j u, vs[j]? = some u → w.cell? ((a.add (y * s'.n)).add j) = some u) ∧ Wf N s' z) := by
              intro y hy
              rw [List.mem_range] at hy
              have h1 := hat y hy
              have h2 : elems[y]? = some elems[y] := List.getElem?_eq_getElem (by omega)
              rw [h2, Option.bind_eq_some_iff] at h1
              obtain ⟨vs, hvs, htr⟩ := h1
              obtain ⟨_, hvl, hvc⟩ := World.cells?_some hvs
              have hbe : Rows.uptoBulk elems[y].1 ≤ N := by
                have : Rows.uptoBulk elems[y].1 ≤ Rows.uptoBulkAll (elems.map (·.1)) := bulk_mem (List.mem_map.2 ⟨elems[y], List.getElem_mem _, rfl⟩)
                omega
              obtain ⟨z, hz, hwz⟩ := open_cells n e s' hs' fu vs _ htr hbe
              refine ⟨z, ⟨vs, by rw [e1]; exact hvl, hz, fun j u hu => ?_⟩, hwz⟩
              have hj : j < P.cellsOf e := by have := (List.getElem?_eq_some_iff.1 hu).1; omega
              rw [e1, hvc j hj]; exact hu
            obtain ⟨xs, hxl, hxs⟩ := choose_list _ key
            rw [List.length_range] at hxl
            have hget : ∀ i z, xs[i]? = some z → (∃ vs : List Value, vs.length = s'.n ∧ RdT (snap w) s' z vs ∧ ∀ j u, vs[j]? = some u → w.cell? ((a.add (i * s'.n)).add j) = some u) ∧ Wf N s' z := by
              intro i z hi
              obtain ⟨y, hy, hr⟩ := hxs i z hi
              have : y = i := by
                have hlt := (List.getElem?_eq_some_iff.1 hy).1
                rw [List.getElem?_range (by simpa using hlt)] at hy
                simpa using hy.symm
              subst this; exact hr
            refine ⟨xs, ⟨_, rfl, some a, cap, by rw [hxl], by rw [hxl]; exact hlc, ?_⟩, ?_, fun z hz => ?_⟩
            · cases xs with
              | nil => exact .inl rfl
              | cons z0 xs =>
                refine .inr ⟨a.block, a.off, ?_, fun i z hi => ?_⟩
                · obtain ⟨⟨vs, h1, h2, h3⟩, _⟩ := hget 0 z0 rfl
                  have h4 : vs[0]? = some vs[0] := List.getElem?_eq_getElem (by omega)
                  have h5 := h3 0 _ h4
                  have h6 : (a.add (0 * s'.n)).add 0 = a := by simp [Addr.add]
                  rw [h6] at h5
                  have : a.spot = none := by
                    unfold World.cell? at h5
                    split at h5
                    · split at h5
                      · simp at h5
                      · rename_i hs; simpa using hs
                    · simp at h5
                  cases a; simp_all
                · obtain ⟨⟨vs, h1, h2, h3⟩, _⟩ := hget i z hi
                  refine ⟨vs, h1, h2, fun j u hu => ?_⟩
                  have h5 := h3 j u hu
                  have hsp : a.spot = none := by
                    obtain ⟨⟨vs, h1, h2, h3⟩, _⟩ := hget 0 z0 rfl
                    have h4 : vs[0]? = some vs[0] := List.getElem?_eq_getElem (by omega)
                    have h5 := h3 0 _ h4
                    have h6 : (a.add (0 * s'.n)).add 0 = a := by simp [Addr.add]
                    rw [h6] at h5
                    unfold World.cell? at h5
                    split at h5
                    · split at h5
                      · simp at h5
                      · rename_i hs; simpa using hs
                    · simp at h5
                  have h6 : (a.add (i * s'.n)).add j = ⟨a.block, a.off + i * s'.n + j, none⟩ := by
                    cases a with
                    | mk b o sp =>
                      simp only at hsp
                      subst hsp
                      unfold Addr.add
                      by_cases q1 : i * s'.n = 0 <;> by_cases q2 : j = 0 <;> simp [q1, q2]
                  rw [h6] at h5
                  exact h5
            · have hb1 := bulk_length (elems.map (·.1))
              rw [List.length_map] at hb1
              show xs.length ≤ N
              omega
            · obtain ⟨i, hi⟩ := List.getElem?_of_mem hz
              exact (hget i z hi).2
        · simp at h
      · simp at h
    · rename_i fs ht
      obtain ⟨xs, m, rfl, rfl, hl, hxl, hf⟩ := DataW.trod_struct ht hx
      have := open_fields (fun t s h => open_cells n t s h) _ 0 s h m cs xs hl (fun i f hi => by
        have hi' : fs[i]? = some f := by simpa using hi
        have hlt : i < fs.size := (Array.getElem?_eq_some_iff.1 hi').1
        have := hf i f hi'
        refine ⟨xs[i], List.getElem?_eq_getElem (by omega), ?_⟩
        rw [this]; exact List.getElem?_eq_getElem (by omega)) (fun x hx => by
          simp only [Rows.uptoBulk] at hb
          have : Rows.uptoBulk x.1 ≤ Rows.uptoBulkAll (xs.map (·.1)) := bulk_mem (List.mem_map.2 ⟨x, hx, rfl⟩)
          omega)
      simpa using this
    · simp at h
def WfV (N : Nat) : (v : V) → v.T → Prop
  | .leaf s, x => Wf N s x
  | .agg s, x => Wf N s x
/-- Whether a parameter's type is of this form. -/
def formOk (P : Program) (v : V) (t : TypeId) : Bool := match v with
  | .leaf s => (match P.underlying t with | some .bool | some (.int _) | some .string | some (.slice _) => true | _ => false) && decide (shOf P 9 t = some s)
  | .agg s => (match P.underlying t with | some (.struct _) => true | _ => false) && decide (shOf P 9 t = some s)
theorem open_arg {v : V} {t : TypeId} (hf : formOk P v t = true) {base : Nat} {u : Value} {d : DataW H} {p : List MemPlace} (hv : Value.okWide P w .any base t u) (h : DataW.Trod enc P w 0 (fun _ => true) true t u d p) (hb : Rows.uptoBulk d ≤ N) :
    ∃ x : v.T, RdV (snap w) v x u ∧ WfV N v x := by
  obtain ⟨fuel, h⟩ := h
  cases v with
  | leaf s =>
    simp only [formOk, Bool.and_eq_true, decide_eq_true_eq] at hf
    obtain ⟨x, h1, h2⟩ := open_cells 9 t s hf.2 fuel _ _ h hb
    have hc : u.cells.toList = [u] := by
      have hf1 := hf.1
      split at hf1
      · rename_i hu; obtain ⟨b, rfl⟩ := Go.WideShapes.okWide_bool hu hv; rfl
      · rename_i hu; obtain ⟨b, rfl⟩ := Go.WideShapes.okWide_int hu hv; rfl
      · rename_i hu; obtain ⟨b, rfl⟩ := Go.WideShapes.okWide_string hu hv; rfl
      · rename_i hu; obtain ⟨a, len, cap, rfl⟩ := Go.WideShapes.okWide_slice hu hv; rfl
      · simp at hf1
    rw [hc] at h1
    exact ⟨x, h1, h2⟩
  | agg s =>
    simp only [formOk, Bool.and_eq_true, decide_eq_true_eq] at hf
    obtain ⟨x, h1, h2⟩ := open_cells 9 t s hf.2 fuel _ _ h hb
    have hf1 := hf.1
    split at hf1
    · rename_i fs hu
      obtain ⟨cs, rfl, _⟩ := Go.WideShapes.okWide_struct hu hv
      exact ⟨x, ⟨cs.toList, by simp, by simpa [Value.cells] using h1⟩, h2⟩
    · simp at hf1
end Go.Proofs.YtaldfmbnfnagjaaDoor.E
