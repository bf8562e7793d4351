/- A whole function does what its run on plain data says. -/
import Derived.Test.YtaldfmbnfnagjaaDoorEvCode
namespace Go.Proofs.YtaldfmbnfnagjaaDoor.E
open Go.RowKit (Below)
set_option linter.unusedVariables false
set_option linter.unusedSimpArgs false
section
variable {C : Ctx} {B : M}
theorem resD1_sound {base : Nat} {m : M} {e : Env} {w : World} {st : St} {a : Act} (ok : OK B base m e w st.bx) (hg : Globs C B) (hsl : ∀ t, Rd m e (st.sl t) (a.tmps.getD t undef)) {r : ResultVar} {d : D} (h : resD1 C st r = some d) :
    ∃ v, (match r with | .tmp t => pure (a.tmps.getD t undef) | .cell x t => do loadVar t (← asAddr (a.tmps.getD x undef)) : Sem Value).run C.P w = .ok v w ∧ Rd m e d v := by
  cases r with
  | tmp t =>
    simp only [resD1, Option.some.injEq] at h
    subst h
    exact ⟨_, rfl, hsl t⟩
  | cell x t =>
    simp only [resD1] at h
    obtain ⟨v, hv, hr⟩ := loadK_sound ok hg (fun _ _ h => h) h (hsl x)
    refine ⟨v, ?_, hr⟩
    show (do loadVar t (← asAddr (a.tmps.getD x undef)) : Sem Value).run C.P w = _
    generalize a.tmps.getD x undef = va at hv ⊢
    cases va <;> simp only [Instr.loadAt, Instr.sureAddr, stuck] at hv <;> try (simp at hv; done)
    rename_i p
    cases p with
    | none => simp [Instr.sureAddr, stuck] at hv
    | some p => simpa [asAddr] using hv
theorem results_sound {base : Nat} {m : M} {e : Env} {w : World} {st : St} {a : Act} {fn : Func} (ok : OK B base m e w st.bx) (hg : Globs C B) (hsl : ∀ t, Rd m e (st.sl t) (a.tmps.getD t undef)) {ds : List D} (h : fn.results.toList.mapM (resD1 C st) = some ds) :
    ∃ vs : List Value, (results fn a.tmps).run C.P w = .ok (if h : vs.length = 1 then vs[0] else .tuple vs.toArray) w ∧ All2 (Rd m e) ds vs := by
  have key : ∀ (l : List ResultVar) (ds : List D), l.mapM (resD1 C st) = some ds →
      ∃ vs : List Value, (l.mapM fun r => (match r with | .tmp t => pure (a.tmps.getD t undef) | .cell x t => do loadVar t (← asAddr (a.tmps.getD x undef)) : Sem Value)).run C.P w = .ok vs w ∧ All2 (Rd m e) ds vs := by
    intro l
    induction l with
    | nil => intro ds h; simp at h; subst h; exact ⟨[], rfl, trivial⟩
    | cons r l ih =>
      intro ds h
      simp only [List.mapM_cons, Option.bind_eq_bind, Option.bind_eq_some_iff, Option.pure_def, Option.some.injEq] at h
      obtain ⟨d, h1, ds', h2, rfl⟩ := h
      obtain ⟨v, hv, hr⟩ := resD1_sound ok hg hsl h1
      obtain ⟨vs, hvs, hrs⟩ := ih ds' h2
      exact ⟨v :: vs, by rw [List.mapM_cons]; simp only [Sem.run_bind, hv, hvs, Result.andThen_ok, Sem.run_pure], hr, hrs⟩
  obtain ⟨vs, hvs, hrs⟩ := key _ _ h
  refine ⟨vs, ?_, hrs⟩
  unfold results
  rw [Array.mapM_eq_mapM_toList, Sem.run_bind, Sem.run_map]
  refine (congrArg (fun z => Result.andThen (Result.andThen z _) _) hvs).trans ?_
  simp

/-- A function of which Ev's run is known. -/
theorem spec_of {f : FuncId} {fn : Func} {c : Code} {hint : Hint} {E : Entry} (hf : C.P.funcs[f]? = some fn) (hname : (fn.name == "runtime.NumGoroutine") = false) (hb : fn.body = some c) (hnt : fn.ntmps = C.nt) (hmx : C.P.follows .mixedOrders = true)
    (hg : Globs C B) (hfn : ∀ f E, C.fn f = some E → Spec C.P B f E) (hev : (fun x : VsT E.a => evF C fn c hint E.a E.r x) = E.g) : Spec C.P B f E := by
  intro x y hy m w vals hB hag hr
  have hcall : (callFunc f vals.toArray).run C.P w = .ok (.enter f vals.toArray) w := by
    have hn : ¬ fn.name = "runtime.NumGoroutine" := by simpa using hname
    simp [callFunc, program, Sem.run, hf, hn, hb]
  rw [hcall]
  show Calls C.P f vals.toArray w _
  have he : evF C fn c hint E.a E.r x = some y := by rw [← hy, ← hev]
  unfold evF at he
  have hlen : (encVs E.a x).length = vals.length := (encVs_rd (m := m) (e := fun _ => none) hr).length
  refine calls_of_wp hf hb ?_
  refine evC_sound (m0 := m) (w0 := w) hg hfn hmx c hint _ _ y he _ w _ ⟨m, fun _ => none, ⟨hB, hag, fun k => rfl, (fun k k' p p' b h => by cases h), Nat.le_refl _⟩, fun t => ?_, ?_, rfl, .refl m, fun b o u h h' => by rw [h] at h'; simp at h', .refl _ _⟩ fun ex st' a' w' hk hi => ?_
  · show Rd m _ (((encVs E.a x)[t]?).getD .unk) _
    cases hq : (encVs E.a x)[t]? with
    | none => trivial
    | some d =>
      obtain ⟨v, hv, hrd⟩ := (encVs_rd (m := m) (e := fun _ => none) hr).get t d hq
      have : ((vals.toArray ++ Array.replicate (fn.ntmps - vals.toArray.size) undef).getD t undef) = v := by
        have hlt := idx_lt hv
        have h1 : (vals.toArray ++ Array.replicate (fn.ntmps - vals.toArray.size) undef)[t]? = some v := by
          rw [Array.getElem?_append_left (by simpa using hlt)]; simpa using hv
        rw [Array.getD_eq_getD_getElem?, h1]; rfl
      rw [this]
      exact .of2 hrd
  · simp; omega
  · obtain ⟨m1, e1, ok, h2, h3, h4, h5, h6, h7⟩ := hi
    have fin : (resDs C fn st').bind (decVs E.r) = some y → ∃ v, (results fn a'.tmps).run C.P w' = .ok v w' ∧ ∃ m', M.le m m' ∧ (∀ b o u, m' b o = some u → m b o = none → w.heap.size ≤ b) ∧ (∀ b o v, m' b o = some v → w'.cell? ⟨b, o, none⟩ = some v) ∧ RdRes m' E.r y v ∧ Below w.heap.size w w' := by
      intro h
      simp only [Option.bind_eq_some_iff, resDs, Option.map_eq_some_iff] at h
      obtain ⟨ds', ⟨ds, hds, rfl⟩, hdec⟩ := h
      obtain ⟨vs, hvs, hrs⟩ := results_sound (fn := fn) ok hg h2 hds
      obtain ⟨m2, hm2, hn2, ok2⟩ := OK.freezeL st'.bx (ds.flatMap D.vecs) ok (fun k b hk => .inl hk)
      refine ⟨_, hvs, m2, h5.trans hm2, new_trans h6 hn2 hm2, ok2.agree, ⟨vs, decVs_rd (e := e1) hdec ?_, rfl⟩, h7⟩
      generalize puts (froze st'.bx (ds.flatMap D.vecs)) st'.bx = g at ok2
      clear hds hdec hvs
      induction ds generalizing vs with
      | nil => cases vs <;> first | trivial | exact hrs.elim
      | cons d ds ih =>
        cases vs with
        | nil => exact hrs.elim
        | cons v vs => exact ⟨thaw_rd ok2 (fun _ _ h => h) (hrs.1.mono hm2 (.refl _)), ih vs hrs.2⟩
    cases ex with
    | normal => obtain ⟨v, h8, h9⟩ := fin hk; exact ⟨h4, v, h8, v, rfl, h9⟩
    | ret => obtain ⟨v, h8, h9⟩ := fin hk; exact ⟨h4, v, h8, v, rfl, h9⟩
    | exit id => simp at hk
end
end Go.Proofs.YtaldfmbnfnagjaaDoor.E
