/- Two structs held together: leaf by leaf. -/
import Derived.Test.YtaldfmbnfnagjaaDoorEvOp
import Derived.Laws.StructEq
namespace Go.Proofs.YtaldfmbnfnagjaaDoor.E
set_option linter.unusedVariables false
set_option linter.unusedSimpArgs false
section
variable {C : Ctx} {m : M} {e : Env} (w : World)
def mkV (C : Ctx) (t : TypeId) (xs : List Value) : Value := if aggs C t then .agg xs.toArray else xs.getD 0 undef
theorem run_isAgg {t : TypeId} {d : TypeDesc} (h : C.P.underlying t = some d) : (isAgg t).run C.P w = .ok (aggs C t) w := by
  simp only [isAgg, Sem.run_bind, run_und h, Result.andThen_ok, aggs, h]
  cases d <;> rfl
theorem run_part {t : TypeId} {d : TypeDesc} (h : C.P.underlying t = some d) {cs : Array Value} {off : Nat} (hs : 0 < sz C t) (hl : off + sz C t ≤ cs.size) :
    (part t cs off).run C.P w = .ok (mkV C t ((cs.toList.drop off).take (sz C t))) w := by
  simp only [part, Sem.run_bind, run_isAgg w h, Result.andThen_ok, mkV]
  cases ha : aggs C t
  · have : cs[off]? = some cs[off] := Array.getElem?_eq_getElem (by omega)
    simp only [Bool.false_eq_true, if_false, this, Sem.run_pure]
    congr 1
    rw [List.getD_eq_getElem?_getD, List.getElem?_take_of_lt (by omega), List.getElem?_drop]
    simp [Nat.add_zero, this]
  · simp only [if_true, Sem.run_bind, run_sz hs, Result.andThen_ok, Sem.run_pure]
    congr 2
    apply Array.ext'
    simp only [Array.toList_extract, List.extract_eq_take_drop, Nat.add_sub_cancel_left]
theorem eqFs_sound {g : TypeId → List D → List D → Option Bool} {D' : Nat}
    (hg : ∀ t ds es xs ys r, g t ds es = some r → All2 (Rd1 m e) ds xs → All2 (Rd1 m e) es ys → ds.length = sz C t → (aggs C t = false → sz C t = 1) ∧ (∃ d, C.P.underlying t = some d) ∧ (Op.equalIn D' t (mkV C t xs) (mkV C t ys)).run C.P w = .ok r w) :
    ∀ (fs : List Field) (off : Nat) (ds es : List D) (cs cs' : Array Value) (r : Bool), eqFs C g fs off ds es = some r → All2 (Rd1 m e) ds (cs.toList.drop off) → All2 (Rd1 m e) es (cs'.toList.drop off) →
      (Op.eqFields D' cs cs' fs).run C.P w = .ok r w
  | [], _, _, _, _, _, r, h, _, _ => by simp only [eqFs, Option.some.injEq] at h; subst h; rfl
  | f :: fs, off, ds, es, cs, cs', r, h, hx, hy => by
    rw [eqFs.eq_def] at h
    simp only at h
    split at h
    · rename_i hc
      simp only [Bool.and_eq_true, bne_iff_ne, ne_eq, beq_iff_eq, Nat.ble_eq] at hc
      obtain ⟨⟨⟨⟨hn, ho⟩, h0⟩, h1⟩, h2⟩ := hc
      have lx := hx.length
      have ly := hy.length
      simp only [List.length_drop, Array.length_toList] at lx ly
      have key : ∀ p, g f.type (ds.take (sz C f.type)) (es.take (sz C f.type)) = some p →
          ∃ a b, (part f.type cs f.offset).run C.P w = .ok a w ∧ (part f.type cs' f.offset).run C.P w = .ok b w ∧ (Op.equalIn D' f.type a b).run C.P w = .ok p w := by
        intro p hp
        obtain ⟨k1, ⟨d, k2⟩, k3⟩ := hg _ _ _ _ _ _ hp (hx.take _) (hy.take _) (by simp; omega)
        refine ⟨_, _, run_part w k2 (by omega) (by omega), run_part w k2 (by omega) (by omega), ?_⟩
        rw [ho]; exact k3
      cases fs with
      | nil =>
        simp only at h
        obtain ⟨a, b, ra, rb, rr⟩ := key r h
        simp only [Op.eqFields, ne_eq, hn, not_false_eq_true, if_true, Sem.run_bind, ra, rb, rr, Result.andThen_ok]
        cases r <;> simp
      | cons f' fs =>
        simp only at h
        split at h
        · rename_i p q hp hq
          simp only [Option.some.injEq] at h
          subst h
          obtain ⟨a, b, ra, rb, rr⟩ := key p hp
          have ih := eqFs_sound hg (f' :: fs) (off + sz C f.type) _ _ cs cs' q hq (by have := hx.drop (sz C f.type); rwa [List.drop_drop] at this) (by have := hy.drop (sz C f.type); rwa [List.drop_drop] at this)
          rw [Op.eqFields]
          simp only [ne_eq, hn, not_false_eq_true, if_true, Sem.run_bind, ra, rb, rr, Result.andThen_ok, ih, Sem.run_ite]
          cases p <;> simp
        · simp at h
    · simp at h
theorem All2.one {α β : Type} {R : α → β → Prop} {a : α} {k : List β} (h : All2 R [a] k) : ∃ b, k = [b] ∧ R a b := by
  match k, h with
  | [b], h => exact ⟨b, rfl, h.1⟩
  | [], h => exact h.elim
  | _ :: _ :: _, h => exact h.2.elim
theorem equalIn_sound : ∀ (d : Nat) (D' : Nat), d ≤ D' → ∀ (t : TypeId) (ds es : List D) (xs ys : List Value) (r : Bool), eqD C d t ds es = some r →
    All2 (Rd1 m e) ds xs → All2 (Rd1 m e) es ys → ds.length = sz C t → (aggs C t = false → sz C t = 1) ∧ (∃ d, C.P.underlying t = some d) ∧ (Op.equalIn D' t (mkV C t xs) (mkV C t ys)).run C.P w = .ok r w := by
  intro d
  induction d with
  | zero => intro D' _ t ds es xs ys r h; simp [eqD] at h
  | succ d ih =>
    intro D' hD t ds es xs ys r h hx hy hl
    obtain ⟨D', rfl⟩ : ∃ k, D' = k + 1 := ⟨D' - 1, by omega⟩
    simp only [eqD] at h
    split at h
    · rename_i ht
      split at h
      · simp only [Option.some.injEq] at h; subst h
        obtain ⟨v, rfl, hv⟩ := hx.one
        obtain ⟨v', rfl, hv'⟩ := hy.one
        cases hv; cases hv'
        have ha : aggs C t = false := by simp [aggs, ht]
        refine ⟨fun _ => by simpa using hl.symm, ⟨_, ht⟩, ?_⟩
        simp only [mkV, ha, Bool.false_eq_true, if_false, List.getD_cons_zero]
        exact run_equalIn_bool' w D' t _ _ ht
      · simp at h
    · rename_i ht
      split at h
      · split at h
        · rename_i hk
          simp only [Option.some.injEq] at h; subst h; subst hk
          obtain ⟨v, rfl, hv⟩ := hx.one
          obtain ⟨v', rfl, hv'⟩ := hy.one
          cases hv; cases hv'
          have ha : aggs C t = false := by simp [aggs, ht]
          refine ⟨fun _ => by simpa using hl.symm, ⟨_, ht⟩, ?_⟩
          simp only [mkV, ha, Bool.false_eq_true, if_false, List.getD_cons_zero]
          exact run_equalIn_int w D' t _ _ _ _ ht
        · simp at h
      · simp at h
    · rename_i ht
      split at h
      · simp only [Option.some.injEq] at h; subst h
        obtain ⟨v, rfl, hv⟩ := hx.one
        obtain ⟨v', rfl, hv'⟩ := hy.one
        cases hv; cases hv'
        have ha : aggs C t = false := by simp [aggs, ht]
        refine ⟨fun _ => by simpa using hl.symm, ⟨_, ht⟩, ?_⟩
        simp only [mkV, ha, Bool.false_eq_true, if_false, List.getD_cons_zero]
        exact run_equalIn_string w D' t _ _ ht
      · simp at h
    · rename_i fs ht
      have ha : aggs C t = true := by simp [aggs, ht]
      refine ⟨fun h => by simp [ha] at h, ⟨_, ht⟩, ?_⟩
      split at h
      · simp at h
      · rename_i hst
        have hf : C.P.fieldsOf t = fs := by simp [Program.fieldsOf, ht]
        simp only [mkV, ha, if_true]
        rw [run_equalIn_struct w D' t _ _ (by rw [hf]; exact ht) (by simpa using hst), hf]
        exact eqFs_sound w (fun t ds es xs ys r => ih D' (by omega) t ds es xs ys r) fs.toList 0 ds es _ _ r h (by simpa using hx) (by simpa using hy)
    · simp at h
end
end Go.Proofs.YtaldfmbnfnagjaaDoor.E
