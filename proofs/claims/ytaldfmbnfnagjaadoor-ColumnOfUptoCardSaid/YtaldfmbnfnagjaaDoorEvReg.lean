/- A region's operations, in whatever order the edges allow. -/
import Derived.Test.YtaldfmbnfnagjaaDoorEvSum
namespace Go.Proofs.YtaldfmbnfnagjaaDoor.E
open Go.RowKit (Below)
set_option linter.unusedVariables false
set_option linter.unusedSimpArgs false

theorem any_beq (l : List Nat) (k : Nat) : (l.any (Nat.beq k)) = true ↔ k ∈ l := by
  simp only [List.any_eq_true]
  constructor
  · rintro ⟨x, hx, h⟩; rw [Nat.eq_of_beq_eq_true h]; exact hx
  · intro h; exact ⟨k, h, Nat.beq_refl k⟩
theorem any_beq_false (l : List Nat) (k : Nat) : (l.any (Nat.beq k)) = false ↔ k ∉ l := by
  rw [← Bool.not_eq_true, any_beq]
theorem restr_in {α : Type} {d : α} {ks : List Nat} {f : Nat → α} {k : Nat} (h : k ∈ ks) : restr d ks f k = f k := by simp [restr, (any_beq ks k).2 h]
theorem restr_out {α : Type} {d : α} {ks : List Nat} {f : Nat → α} {k : Nat} (h : k ∉ ks) : restr d ks f k = d := by simp [restr, (any_beq_false ks k).2 h]
theorem restr_congr {α : Type} {d : α} {ks : List Nat} {f g : Nat → α} (h : ∀ k ∈ ks, f k = g k) : restr d ks f = restr d ks g := by
  funext k
  by_cases hk : k ∈ ks
  · rw [restr_in hk, restr_in hk, h k hk]
  · rw [restr_out hk, restr_out hk]
theorem puts_out (us : List (Nat × Option Bx)) (f : Nat → Option Bx) {k : Nat} (h : k ∉ us.map (·.1)) : puts us f k = f k := by
  induction us generalizing f with
  | nil => rfl
  | cons u us ih =>
    simp only [List.map_cons, List.mem_cons, not_or] at h
    rw [puts, ih _ h.2, upd_other _ _ h.1]
theorem puts_in (us : List (Nat × Option Bx)) (f g : Nat → Option Bx) {k : Nat} (h : k ∈ us.map (·.1)) : puts us f k = puts us g k := by
  induction us generalizing f g with
  | nil => simp at h
  | cons u us ih =>
    simp only [puts]
    by_cases hk : k ∈ us.map (·.1)
    · exact ih _ _ hk
    · simp only [List.map_cons, List.mem_cons] at h
      rcases h with h | h
      · rw [puts_out us _ hk, puts_out us _ hk, h, upd_same, upd_same]
      · exact absurd h hk

section
variable {C : Ctx} {B m0 : M} {w0 : World} {Q : Exit → Act → World → Prop}
/-- What holds between a state on plain data and the frame in memory. -/
def Inv (C : Ctx) (B m0 : M) (w0 : World) (st : St) (a : Act) (w : World) : Prop :=
  ∃ m e, OK B w0.heap.size m e w st.bx ∧ (∀ t, Rd m e (st.sl t) (a.tmps.getD t undef)) ∧ C.nt ≤ a.tmps.size ∧ a.defers = [] ∧ M.le m0 m ∧
    (∀ b o u, m b o = some u → m0 b o = none → w0.heap.size ≤ b) ∧ Below w0.heap.size w0 w

def cutSt (o : Oper) (st : St) : St := ⟨restr .unk (tmpsOf o.op) st.sl, restr none ((tmpsOf o.op).flatMap (fun t => (st.sl t).keys) ++ [o.dst.getD 0]) st.bx⟩
/-- What an operation does at a state, with where it looks and writes. -/
def Does (C : Ctx) (ops : Array Oper) (o : Oper) (st : St) (f : Foot) (d : D) (us : List (Nat × Option Bx)) : Prop :=
  o.dst.all (fun t => Nat.blt t C.nt) = true ∧ f.w = o.dst.toList ∧ f.kw = us.map (·.1) ∧
  match o.guard with
  | none => coreK C o.op (cutSt o st) (o.dst.getD 0) pr = some (d, us) ∧ f.rs = tmpsOf o.op ∧ f.kr = (tmpsOf o.op).flatMap (fun t => (st.sl t).keys) ++ [o.dst.getD 0]
  | some (j, want) => ∃ t, gslot ops j = some t ∧
    ((st.sl t = .bool want ∧ coreK C o.op (cutSt o st) (o.dst.getD 0) pr = some (d, us) ∧ f.rs = t :: tmpsOf o.op ∧ f.kr = (tmpsOf o.op).flatMap (fun t => (st.sl t).keys) ++ [o.dst.getD 0]) ∨
     ((st.sl t = .bool (!want) ∨ ∃ ds, st.sl t = .tup ds) ∧ d = .tup [] ∧ us = [] ∧ f.rs = [t] ∧ f.kr = []))
theorem cutSt_congr {o : Oper} {st st' : St} (h : ∀ t ∈ tmpsOf o.op, st'.sl t = st.sl t) (hk : ∀ k ∈ (tmpsOf o.op).flatMap (fun t => (st.sl t).keys) ++ [o.dst.getD 0], st'.bx k = st.bx k) :
    cutSt o st' = cutSt o st ∧ (tmpsOf o.op).flatMap (fun t => (st'.sl t).keys) = (tmpsOf o.op).flatMap (fun t => (st.sl t).keys) := by
  have e : (tmpsOf o.op).flatMap (fun t => (st'.sl t).keys) = (tmpsOf o.op).flatMap (fun t => (st.sl t).keys) := by
    generalize tmpsOf o.op = l at h
    clear hk
    induction l with
    | nil => rfl
    | cons x l ih => rw [List.flatMap_cons, List.flatMap_cons, h x List.mem_cons_self, ih fun t ht => h t (List.mem_cons_of_mem _ ht)]
  refine ⟨?_, e⟩
  unfold cutSt
  rw [e, restr_congr h, restr_congr hk]
theorem Does.congr {ops : Array Oper} {o : Oper} {st st' : St} {f : Foot} {d : D} {us : List (Nat × Option Bx)} (h : Does C ops o st f d us) (hs : ∀ t ∈ f.rs, st'.sl t = st.sl t) (hk : ∀ k ∈ f.kr, st'.bx k = st.bx k) :
    Does C ops o st' f d us := by
  obtain ⟨h1, h2, h3, h4⟩ := h
  refine ⟨h1, h2, h3, ?_⟩
  split
  · rename_i hg
    simp only [hg] at h4
    obtain ⟨a, b, c⟩ := h4
    rw [b] at hs; rw [c] at hk
    obtain ⟨e1, e2⟩ := cutSt_congr hs hk
    rw [e1, e2]; exact ⟨a, b, c⟩
  · rename_i j want hg
    simp only [hg] at h4
    obtain ⟨t, ht, h4⟩ := h4
    refine ⟨t, ht, ?_⟩
    rcases h4 with ⟨a, b, c, d⟩ | ⟨a, b, c, d, e⟩
    · rw [c] at hs; rw [d] at hk
      obtain ⟨e1, e2⟩ := cutSt_congr (fun t ht => hs t (List.mem_cons_of_mem _ ht)) hk
      rw [e1, e2, hs t List.mem_cons_self]
      exact .inl ⟨a, b, c, d⟩
    · rw [d] at hs
      rw [hs t List.mem_cons_self]
      exact .inr ⟨a, b, c, d, e⟩
def after (o : Oper) (st : St) (d : D) (us : List (Nat × Option Bx)) : St := St.put ⟨st.sl, puts us st.bx⟩ o.dst d
theorem after_sl (o : Oper) (st : St) (d : D) (us : List (Nat × Option Bx)) {t : Nat} (h : t ∉ o.dst.toList) : (after o st d us).sl t = st.sl t := by
  unfold after St.put
  cases hd : o.dst with
  | none => rfl
  | some x => rw [hd] at h; simp at h; exact upd_other _ _ h
theorem after_bx (o : Oper) (st : St) (d : D) (us : List (Nat × Option Bx)) : (after o st d us).bx = puts us st.bx := by
  unfold after St.put; cases o.dst <;> rfl
theorem apart_spec {f g : Foot} (h : f.apart g = true) : (∀ x ∈ f.w, x ∉ g.rs ∧ x ∉ g.w) ∧ (∀ x ∈ g.w, x ∉ f.rs) ∧ (∀ x ∈ f.kw, x ∉ g.kr ∧ x ∉ g.kw) ∧ (∀ x ∈ g.kw, x ∉ f.kr) := by
  simp only [Foot.apart, Bool.and_eq_true, List.all_eq_true, Bool.not_eq_true'] at h
  obtain ⟨⟨⟨h1, h2⟩, h3⟩, h4⟩ := h
  refine ⟨fun x hx => ⟨(any_beq_false _ _).1 (h1 x hx).1, (any_beq_false _ _).1 (h1 x hx).2⟩, fun x hx => (any_beq_false _ _).1 (h2 x hx), fun x hx => ⟨(any_beq_false _ _).1 (h3 x hx).1, (any_beq_false _ _).1 (h3 x hx).2⟩, fun x hx => (any_beq_false _ _).1 (h4 x hx)⟩
/-- Two operations that keep apart, the other way round. -/
theorem Does.swap {ops : Array Oper} {o o' : Oper} {st : St} {f g : Foot} {d d' : D} {us us' : List (Nat × Option Bx)} (h : Does C ops o st f d us) (h' : Does C ops o' (after o st d us) g d' us') (ha : f.apart g = true) :
    Does C ops o' st g d' us' ∧ Does C ops o (after o' st d' us') f d us ∧ after o (after o' st d' us') d us = after o' (after o st d us) d' us' := by
  obtain ⟨a1, a2, a3, a4⟩ := apart_spec ha
  have hw := h.2.1
  have hkw := h.2.2.1
  have hw' := h'.2.1
  have hkw' := h'.2.2.1
  rw [hw] at a1; rw [hw'] at a1 a2; rw [hkw] at a3; rw [hkw'] at a3 a4
  refine ⟨h'.congr (fun t ht => ?_) (fun k hk => ?_), h.congr (fun t ht => ?_) (fun k hk => ?_), ?_⟩
  · exact (after_sl _ _ _ _ fun hx => (a1 t hx).1 ht).symm
  · rw [after_bx]; exact (puts_out _ _ fun hx => (a3 k hx).1 hk).symm
  · exact after_sl _ _ _ _ fun hx => a2 t hx ht
  · rw [after_bx]; exact puts_out _ _ fun hx => a4 k hx hk
  · have hsl : (after o (after o' st d' us') d us).sl = (after o' (after o st d us) d' us').sl := by
      funext t
      unfold after St.put
      cases hd : o.dst with
      | none => cases hd' : o'.dst <;> rfl
      | some x =>
        cases hd' : o'.dst with
        | none => rfl
        | some y =>
          have hxy : x ≠ y := fun e => (a1 x (by simp [hd])).2 (by simp [hd', e])
          simp only
          by_cases ht : t = x
          · subst ht; rw [upd_same, upd_other _ _ hxy, upd_same]
          · by_cases ht' : t = y
            · subst ht'; rw [upd_other _ _ ht, upd_same, upd_same]
            · rw [upd_other _ _ ht, upd_other _ _ ht', upd_other _ _ ht', upd_other _ _ ht]
    have hbx : (after o (after o' st d' us') d us).bx = (after o' (after o st d us) d' us').bx := by
      rw [after_bx, after_bx, after_bx, after_bx]
      funext k
      by_cases hk : k ∈ us.map (·.1)
      · rw [puts_out us' _ (a3 k hk).2, puts_in us _ st.bx hk]
      · rw [puts_out us _ hk]
        by_cases hk' : k ∈ us'.map (·.1)
        · exact puts_in us' _ _ hk'
        · rw [puts_out us' _ hk', puts_out us' _ hk', puts_out us _ hk]
    generalize after o (after o' st d' us') d us = s1 at *
    generalize after o' (after o st d us) d' us' = s2 at *
    cases s1; cases s2; simp only at hsl hbx; rw [hsl, hbx]

/-! #### what an operation does, in memory -/
theorem goes_wp {P : Program} {o : Oper} {a : Act} {w : World} {next : Act → World → Prop} {R : Value → World → Prop} (h : Goes P a.eval o w R) (hn : ∀ v w', R v w' → next (a.put o.dst v) w') : o.wp P a w next Q := by
  unfold Goes Comes1 at h
  unfold Oper.wp
  generalize (execOp a.eval o).run P w = r at h
  cases r with
  | halt x y => exact h.elim
  | ok n w' =>
    cases n <;> simp only at h <;> first
      | exact hn _ _ h
      | exact h.elim
      | (refine Calls.mono h fun e w'' hx => ?_
         obtain ⟨v, rfl, hr⟩ := hx
         exact hn _ _ hr)
theorem getD_put {a : Act} {t x : Nat} {v : Value} (hx : x < a.tmps.size) : (a.put (some x) v).tmps.getD t undef = if t = x then v else a.tmps.getD t undef := by
  simp only [Act.put]
  by_cases h : t = x
  · subst h; simp [Array.getD, hx]
  · simp [Array.getD, h, Array.getElem?_setIfInBounds, Ne.symm h]
    by_cases ht : t < a.tmps.size
    · simp [ht, Array.getElem_setIfInBounds, Ne.symm h]
    · simp [ht]
theorem inv_put {st : St} {a : Act} {w w' : World} {o : Oper} {d : D} {us : List (Nat × Option Bx)} {v : Value} {m : M} {e : Env}
    (hsl : ∀ t, Rd m e (st.sl t) (a.tmps.getD t undef)) (hnt : C.nt ≤ a.tmps.size) (hdf : a.defers = []) (hm0 : M.le m0 m) (hnew : ∀ b o u, m b o = some u → m0 b o = none → w0.heap.size ≤ b) (hbel : Below w0.heap.size w0 w)
    (hdst : o.dst.all (fun t => Nat.blt t C.nt) = true) (hr : Res B w0.heap.size m e w (puts us st.bx) d v w') : Inv C B m0 w0 (after o st d us) (a.put o.dst v) w' := by
  obtain ⟨m', e', h1, h2, h3, h4, h5, h6⟩ := hr
  refine ⟨m', e', by rw [after_bx]; exact h5, fun t => ?_, ?_, ?_, hm0.trans h1, new_trans hnew h2 h1, hbel.trans h6⟩
  · cases hd : o.dst with
    | none =>
      rw [after_sl _ _ _ _ (by simp [hd])]
      exact (hsl t).mono h1 h3
    | some x =>
      rw [hd] at hdst
      have hx : x < C.nt := Nat.le_of_ble_eq_true hdst
      rw [getD_put (Nat.lt_of_lt_of_le hx hnt)]
      by_cases ht : t = x
      · subst ht
        rw [if_pos rfl]
        have : (after o st d us).sl t = d := by unfold after St.put; rw [hd]; exact upd_same _ _ _
        rw [this]; exact h4
      · rw [if_neg ht, after_sl _ _ _ _ (by simp [hd]; exact ht)]
        exact (hsl t).mono h1 h3
  · cases hd : o.dst <;> simp [Act.put, hnt]
  · cases hd : o.dst <;> simp [Act.put, hdf]

theorem does_sound (hg : Globs C B) (hfn : ∀ f E, C.fn f = some E → Spec C.P B f E) {ops : Array Oper} {i : Nat} {o : Oper} (ho : ops[i]? = some o) {st : St} {f : Foot} {d : D} {us : List (Nat × Option Bx)} (h : Does C ops o st f d us)
    {a : Act} {w : World} {K : Act → World → Prop} (hi : Inv C B m0 w0 st a w) (hK : ∀ a' w', Inv C B m0 w0 (after o st d us) a' w' → K a' w') : wpOp C.P ops Q i K a w := by
  obtain ⟨m, e, ok, hsl, hnt, hdf, hm0, hnew, hbel⟩ := hi
  obtain ⟨h1, h2, h3, h4⟩ := h
  have run : coreK C o.op (cutSt o st) (o.dst.getD 0) pr = some (d, us) → o.wp C.P a w K Q := fun hc => by
    refine goes_wp (core_sound (o := o) (ρ := a.eval) ok hg hfn (st := cutSt o st) (fun k b hk => ?_) (fun x => ?_) (fun hn => ?_) hc) fun v w' hr => hK _ _ (inv_put hsl hnt hdf hm0 hnew hbel h1 hr)
    · by_cases hin : k ∈ (tmpsOf o.op).flatMap (fun t => (st.sl t).keys) ++ [o.dst.getD 0]
      · have := restr_in (d := none) (f := st.bx) hin
        exact this.symm.trans hk
      · have := restr_out (d := none) (f := st.bx) hin
        have hk : restr none _ st.bx k = some b := hk
        rw [this] at hk; simp at hk
    · cases x with
      | tmp t =>
        by_cases hin : t ∈ tmpsOf o.op
        · have : (cutSt o st).ev (.tmp t) = st.sl t := restr_in hin
          rw [this]; exact hsl t
        · have : (cutSt o st).ev (.tmp t) = .unk := restr_out hin
          rw [this]; trivial
      | const v => exact ofVal_rd m e v
      | global g => rfl
      | func f => rfl
    · have : (cutSt o st).bx (o.dst.getD 0) = st.bx (o.dst.getD 0) := restr_in (by simp)
      rw [← this]; exact hn
  unfold wpOp
  simp only [ho]
  cases hgd : o.guard with
  | none =>
    simp only [hgd] at h4
    rw [if_pos (by simp [Region.wanted, hgd])]
    exact .inl (run h4.1)
  | some p =>
    obtain ⟨j, want⟩ := p
    simp only [hgd] at h4
    obtain ⟨t, ht, h4⟩ := h4
    have hy : ∀ v, a.tmps.getD t undef = v → yielded ops a.tmps j = match v with | .bool b => some b | _ => none := by
      intro v hv
      unfold yielded
      unfold gslot at ht
      rw [ht]
      simp only [Option.bind_some]
      by_cases hlt : t < a.tmps.size
      · have : a.tmps[t]? = some v := by rw [Array.getElem?_eq_getElem hlt, ← hv]; simp [Array.getD, hlt]
        rw [this]
        cases v <;> rfl
      · have h0 : a.tmps[t]? = none := Array.getElem?_eq_none (by omega)
        have : v = undef := by rw [← hv]; simp [Array.getD, hlt]
        rw [h0, this]; rfl
    rcases h4 with ⟨q1, q2, q3, q4⟩ | ⟨q1, q2, q3, q4, q5⟩
    · have hv := hsl t
      rw [q1] at hv
      rw [if_pos (by simp [Region.wanted, hgd, hy _ hv])]
      exact .inl (run q2)
    · have hw : Region.wanted o (yielded ops a.tmps) = false := by
        rcases q1 with q1 | ⟨ds, q1⟩
        · have hv := hsl t
          rw [q1] at hv
          simp only [Region.wanted, hgd, hy _ hv]
          cases want <;> rfl
        · have hv := hsl t
          rw [q1] at hv
          obtain ⟨vs, hv, _⟩ := hv
          simp only [Region.wanted, hgd, hy _ hv]
          rfl
      rw [if_neg (by rw [hw]; simp)]
      subst q2 q3
      exact hK _ _ (inv_put hsl hnt hdf hm0 hnew hbel h1 ⟨m, e, .refl m, fun b o u h h' => by rw [h] at h'; simp at h', .refl e, ⟨[], rfl, trivial⟩, ok, .refl _ _⟩)

/-! #### a run of operations on plain data -/
inductive Run (C : Ctx) (ops : Array Oper) : List Nat → St → List (Nat × Foot) → St → Prop
  | nil (st : St) : Run C ops [] st [] st
  | cons {i : Nat} {rest : List Nat} {st st' : St} {f : Foot} {fs : List (Nat × Foot)} {o : Oper} {d : D} {us : List (Nat × Option Bx)} (ho : ops[i]? = some o) (h : Does C ops o st f d us) (k : Run C ops rest (after o st d us) fs st') :
      Run C ops (i :: rest) st ((i, f) :: fs) st'
/-- Each two keep apart, or the first is ahead of the second anyway. -/
def Pairs (ops : Array Oper) : List (Nat × Foot) → Prop
  | [] => True
  | p :: r => (∀ q ∈ r, p.2.apart q.2 = true ∨ p.1 ∈ aheadOf ops 6 [q.1]) ∧ Pairs ops r
theorem Run.feet {ops : Array Oper} {l : List Nat} {st st' : St} {fs : List (Nat × Foot)} (h : Run C ops l st fs st') : fs.map (·.1) = l := by
  induction h with
  | nil => rfl
  | cons ho h k ih => simp [ih]
/-- One that nothing before it is ahead of can go first. -/
theorem Run.first {ops : Array Oper} : ∀ (l1 l2 : List Nat) {i : Nat} {st st' : St} {fs : List (Nat × Foot)}, Run C ops (l1 ++ i :: l2) st fs st' → Pairs ops fs → (∀ k ∈ l1, k ∉ aheadOf ops 6 [i]) →
    ∃ o f d us fs', ops[i]? = some o ∧ Does C ops o st f d us ∧ Run C ops (l1 ++ l2) (after o st d us) fs' st' ∧ Pairs ops fs' ∧ (i, f) ∈ fs ∧ ∀ q ∈ fs', q ∈ fs
  | [], l2, i, st, st', fs, h, hp, hk => by
    cases h with
    | cons ho h k => exact ⟨_, _, _, _, _, ho, h, k, hp.2, List.mem_cons_self, fun q hq => List.mem_cons_of_mem _ hq⟩
  | x :: l1, l2, i, st, st', fs, h, hp, hk => by
    cases h with
    | @cons _ _ _ _ f fs o d us ho h k =>
      obtain ⟨o', g, d', us', fs', ho', h', k', hp', hin, hsub⟩ := Run.first l1 l2 k hp.2 (fun y hy => hk y (List.mem_cons_of_mem _ hy))
      have hap : f.apart g = true := by
        rcases hp.1 _ hin with h | h
        · exact h
        · exact absurd h (hk x List.mem_cons_self)
      obtain ⟨s1, s2, s3⟩ := h.swap h' hap
      refine ⟨o', g, d', us', (x, f) :: fs', ho', s1, ?_, ⟨fun q hq => hp.1 q (hsub q hq), hp'⟩, List.mem_cons_of_mem _ hin, fun q hq => ?_⟩
      · rw [← s3] at k'
        exact .cons ho s2 k'
      · rcases List.mem_cons.1 hq with rfl | hq
        · exact List.mem_cons_self
        · exact List.mem_cons_of_mem _ (hsub q hq)

/-! #### from the run with what comes behind it -/
theorem stepK_some {R : Type} {o : Oper} {st : St} {K : St → Foot → Option R} {r : R} (h : stepK C o st K = some r) :
    ∃ d us, coreK C o.op (cutSt o st) (o.dst.getD 0) pr = some (d, us) ∧ o.dst.all (fun t => Nat.blt t C.nt) = true ∧
      K (after o st d us) ⟨tmpsOf o.op, o.dst.toList, (tmpsOf o.op).flatMap (fun t => (st.sl t).keys) ++ [o.dst.getD 0], us.map (·.1)⟩ = some r := by
  unfold stepK at h
  obtain ⟨h1, h⟩ := cond_some h
  rw [coreK_nat] at h
  simp only [Option.bind_eq_some_iff] at h
  obtain ⟨⟨d, us⟩, h2, h⟩ := h
  obtain ⟨h3, h⟩ := cond_some h
  exact ⟨d, us, h2, h1, h⟩
set_option maxHeartbeats 400000 in
theorem evOps_run {R : Type} (draw : Bool) (ops : Array Oper) : ∀ (l : List Nat) (fs0 : List (Nat × Foot)) (st : St) (K : St → Option R) (r : R), evOps C draw ops l fs0 st K = some r →
    ∃ fs st', Run C ops l st fs st' ∧ K st' = some r ∧ (draw = true → Pairs ops fs ∧ (∀ p ∈ fs0, ∀ q ∈ fs, p.2.apart q.2 = true ∨ p.1 ∈ aheadOf ops 6 [q.1]) ∧ ∀ i ∈ l, ∀ o, ops[i]? = some o → backOk o i = true)
  | [], fs0, st, K, r, h => ⟨[], st, .nil st, h, fun _ => ⟨trivial, by simp, by simp⟩⟩
  | i :: l, fs0, st, K, r, h => by
    rw [evOps] at h
    split at h
    · simp at h
    · rename_i o ho
      have next : ∀ (f : Foot) (d : D) (us : List (Nat × Option Bx)), Does C ops o st f d us →
          cond (!draw || (backOk o i && apartOk ops i f fs0)) (evOps C draw ops l (cond draw ((i, f) :: fs0) fs0) (after o st d us) K) none = some r →
          ∃ fs st', Run C ops (i :: l) st fs st' ∧ K st' = some r ∧ (draw = true → Pairs ops fs ∧ (∀ p ∈ fs0, ∀ q ∈ fs, p.2.apart q.2 = true ∨ p.1 ∈ aheadOf ops 6 [q.1]) ∧ ∀ j ∈ i :: l, ∀ o, ops[j]? = some o → backOk o j = true) := by
        intro f d us hd h
        obtain ⟨h1, h2⟩ := cond_some h
        obtain ⟨fs, st', hr, hk, hp⟩ := evOps_run draw ops l _ _ K r h2
        refine ⟨(i, f) :: fs, st', .cons ho hd hr, hk, fun hdr => ?_⟩
        subst hdr
        obtain ⟨p1, p2, p3⟩ := hp rfl
        simp only [cond_true] at p2
        simp only [Bool.not_true, Bool.false_or, Bool.and_eq_true] at h1
        have hap : ∀ p ∈ fs0, p.2.apart f = true ∨ p.1 ∈ aheadOf ops 6 [i] := fun p hp => by
          have := List.all_eq_true.1 h1.2 p hp
          simp only [Bool.or_eq_true, any_beq] at this
          exact this
        refine ⟨⟨fun q hq => p2 (i, f) List.mem_cons_self q hq, p1⟩, fun p hp q hq => ?_, fun j hj o' ho' => ?_⟩
        · rcases List.mem_cons.1 hq with rfl | hq
          · exact hap p hp
          · exact p2 p (List.mem_cons_of_mem _ hp) q hq
        · rcases List.mem_cons.1 hj with rfl | hj
          · rw [ho] at ho'; cases ho'; exact h1.1
          · exact p3 j hj o' ho'
      split at h
      · rename_i hgd
        obtain ⟨d, us, hc, hd, h⟩ := stepK_some h
        exact next _ d us ⟨hd, rfl, rfl, by rw [hgd]; exact ⟨hc, rfl, rfl⟩⟩ h
      · rename_i j want hgd
        split at h
        · simp at h
        · rename_i t ht
          have skip : (st.sl t = .bool (!want) ∨ ∃ ds, st.sl t = .tup ds) →
              cond (o.dst.all fun t => Nat.blt t C.nt) (cond (!draw || (backOk o i && apartOk ops i ⟨[t], o.dst.toList, [], []⟩ fs0)) (evOps C draw ops l (cond draw ((i, ⟨[t], o.dst.toList, [], []⟩) :: fs0) fs0) (skipped o st) K) none) none = some r →
              ∃ fs st', Run C ops (i :: l) st fs st' ∧ K st' = some r ∧ (draw = true → Pairs ops fs ∧ (∀ p ∈ fs0, ∀ q ∈ fs, p.2.apart q.2 = true ∨ p.1 ∈ aheadOf ops 6 [q.1]) ∧ ∀ j ∈ i :: l, ∀ o, ops[j]? = some o → backOk o j = true) := by
            intro hq h
            obtain ⟨hd, h⟩ := cond_some h
            exact next ⟨[t], o.dst.toList, [], []⟩ (.tup []) [] ⟨hd, rfl, rfl, by rw [hgd]; exact ⟨t, ht, .inr ⟨hq, rfl, rfl, rfl, rfl⟩⟩⟩ h
          simp only at h
          split at h
          · rename_i b hb
            cases hbw : (b == want)
            · rw [hbw] at h
              simp only [cond_false] at h
              have hb' : b = !want := by cases b <;> cases want <;> simp_all
              rw [hb'] at hb
              have : ({ st with sl := upd st.sl t (.bool (!want)) } : St) = st := by rw [← hb, upd_self]
              rw [this] at h
              exact skip (.inl hb) h
            · rw [hbw] at h
              simp only [cond_true] at h
              have hb' : b = want := by simpa using hbw
              rw [hb'] at hb
              have : ({ st with sl := upd st.sl t (.bool want) } : St) = st := by rw [← hb, upd_self]
              rw [this] at h
              obtain ⟨d, us, hc, hd, h⟩ := stepK_some h
              dsimp only at h
              refine next _ d us ?_ h
              exact ⟨hd, rfl, rfl, by rw [hgd]; exact ⟨t, ht, .inl ⟨hb, hc, rfl, rfl⟩⟩⟩
          · rename_i ds hb
            exact skip (.inr ⟨ds, hb⟩) h
          · simp at h

theorem run_sound (hg : Globs C B) (hfn : ∀ f E, C.fn f = some E → Spec C.P B f E) {ops : Array Oper} {l : List Nat} {st st' : St} {fs : List (Nat × Foot)} (h : Run C ops l st fs st') :
    ∀ {a : Act} {w : World}, Inv C B m0 w0 st a w → (∀ a' w', Inv C B m0 w0 st' a' w' → Q .normal a' w') → wpOps C.P ops Q l a w := by
  induction h with
  | nil => intro a w hi hK; exact hK _ _ hi
  | cons ho hd k ih =>
    intro a w hi hK
    rw [wpOps_cons]
    exact does_sound hg hfn ho hd hi fun a' w' hi' => ih hi' hK

/-! #### any order that the edges allow -/
/-- What the edges of an operation name is there. -/
def predsIn (ops : Array Oper) (there : Nat → Prop) (i : Nat) : Prop := ∀ o, ops[i]? = some o → ∀ e ∈ o.after.toList, Region.binds .any e = true → there e.on
theorem ahead_there {ops : Array Oper} {there : Nat → Prop} {i : Nat} (hi : predsIn ops there i) (hc : ∀ j, there j → predsIn ops there j) :
    ∀ (n : Nat) (l : List Nat), (∀ x ∈ l, x = i ∨ there x) → ∀ y ∈ aheadOf ops n l, y = i ∨ there y
  | 0, l, h, y, hy => h y hy
  | n + 1, l, h, y, hy => by
    rw [aheadOf] at hy
    refine ahead_there hi hc n _ (fun x hx => ?_) y hy
    rcases List.mem_append.1 hx with hx | hx
    · exact h x hx
    · rw [List.mem_flatMap] at hx
      obtain ⟨z, hz, hx⟩ := hx
      cases ho : ops[z]? with
      | none => rw [ho] at hx; simp at hx
      | some o =>
        rw [ho] at hx
        simp only [Option.map_some, Option.getD_some, List.mem_filterMap] at hx
        obtain ⟨e, he, hx⟩ := hx
        split at hx
        · rename_i hb
          simp only [Bool.and_eq_true] at hb
          simp only [Option.some.injEq] at hx
          subst hx
          right
          rcases h z hz with rfl | hz
          · exact hi o ho e he hb.1
          · exact hc z hz o ho e he hb.1
        · simp at hx
theorem ready_iff {ops : Array Oper} {listed : Array Bool} {i : Nat} : i ∈ Region.ready .any ops listed ↔ i < ops.size ∧ listed.getD i true = false ∧ predsIn ops (fun j => listed.getD j false = true) i := by
  unfold Region.ready predsIn
  rw [List.mem_filter, List.mem_range]
  constructor
  · rintro ⟨h1, h2⟩
    simp only [Bool.and_eq_true, Bool.not_eq_true'] at h2
    refine ⟨h1, h2.1, fun o ho e he hb => ?_⟩
    have h3 := h2.2
    rw [ho] at h3
    simp only [Option.map_some, Option.getD_some, Array.all_eq_true'] at h3
    have := h3 e (Array.mem_toList_iff.1 he)
    simpa [hb] using this
  · rintro ⟨h1, h2, h3⟩
    refine ⟨h1, ?_⟩
    simp only [Bool.and_eq_true, Bool.not_eq_true']
    refine ⟨h2, ?_⟩
    rw [Array.getElem?_eq_getElem h1]
    simp only [Option.map_some, Option.getD_some, Array.all_eq_true']
    intro e he
    by_cases hb : Region.binds .any e = true
    · have := h3 _ (Array.getElem?_eq_getElem h1) e (Array.mem_toList_iff.2 he) hb
      simp [hb, this]
    · simp [hb]
theorem any_sound (hg : Globs C B) (hfn : ∀ f E, C.fn f = some E → Spec C.P B f E) {ops : Array Oper} {st' : St} :
    ∀ (fuel : Nat) (rem : List Nat) (listed : Array Bool) (st : St) (fs : List (Nat × Foot)) (a : Act) (w : World), Run C ops rem st fs st' → Pairs ops fs → (∀ i ∈ rem, ∀ o, ops[i]? = some o → backOk o i = true) →
      listed.size = ops.size → (∀ i, i ∈ rem ↔ i < ops.size ∧ listed.getD i true = false) → rem.Pairwise (· < ·) → (∀ j, listed.getD j false = true → predsIn ops (fun j => listed.getD j false = true) j) → rem.length ≤ fuel →
      Inv C B m0 w0 st a w → (∀ a' w', Inv C B m0 w0 st' a' w' → Q .normal a' w') → wpAny C.P .any ops Q fuel listed a w := by
  intro fuel
  have least : ∀ (rem : List Nat) (listed : Array Bool), (∀ i ∈ rem, ∀ o, ops[i]? = some o → backOk o i = true) → listed.size = ops.size → (∀ i, i ∈ rem ↔ i < ops.size ∧ listed.getD i true = false) → rem.Pairwise (· < ·) → Region.ready .any ops listed = [] → rem = [] := by
    intro rem listed hb hsz hrem hp hr
    cases rem with
    | nil => rfl
    | cons i rest =>
      exfalso
      have hi := (hrem i).1 List.mem_cons_self
      have : i ∈ Region.ready .any ops listed := ready_iff.2 ⟨hi.1, hi.2, fun o ho e he hbd => by
        have h1 := List.all_eq_true.1 (hb i List.mem_cons_self o ho) e he
        simp only [hbd, Bool.not_true, Bool.false_or] at h1
        have h1 : e.on < i := Nat.le_of_ble_eq_true h1
        have hn : e.on ∉ i :: rest := fun h => by
          rcases List.mem_cons.1 h with h | h
          · omega
          · have := (List.pairwise_cons.1 hp).1 _ h; omega
        have hlt : e.on < listed.size := by omega
        have : ¬ (listed.getD e.on true = false) := fun h => hn ((hrem e.on).2 ⟨by omega, h⟩)
        simp only [Array.getD, hlt, dif_pos] at this ⊢
        simpa using this⟩
      rw [hr] at this; simp at this
  induction fuel with
  | zero =>
    intro rem listed st fs a w hrun hp hb hsz hrem hs hcl hlen hi hK
    have : rem = [] := List.eq_nil_of_length_eq_zero (by omega)
    subst this
    cases hrun
    refine ⟨?_, hK _ _ hi⟩
    cases hr : Region.ready .any ops listed with
    | nil => rfl
    | cons i l =>
      have := ready_iff.1 (show i ∈ Region.ready .any ops listed by rw [hr]; exact List.mem_cons_self)
      have := (hrem i).2 ⟨this.1, this.2.1⟩
      simp at this
  | succ fuel ih =>
    intro rem listed st fs a w hrun hp hb hsz hrem hs hcl hlen hi hK
    refine ⟨fun hr => ?_, fun i hir => ?_⟩
    · have := least rem listed hb hsz hrem hs hr
      subst this
      cases hrun
      exact hK _ _ hi
    · obtain ⟨h1, h2, h3⟩ := ready_iff.1 hir
      have hin := (hrem i).2 ⟨h1, h2⟩
      obtain ⟨l1, l2, rfl⟩ := List.append_of_mem hin
      have hs1 := List.pairwise_append.1 hs
      have hnot : ∀ k ∈ l1, k ∉ aheadOf ops 6 [i] := fun k hk hka => by
        have hki : k < i := hs1.2.2 k hk i List.mem_cons_self
        rcases ahead_there h3 hcl 6 [i] (by simp) k hka with h | h
        · omega
        · have := (hrem k).1 (List.mem_append_left _ hk)
          have hlt : k < listed.size := by omega
          simp only [Array.getD, hlt, dif_pos] at h this
          rw [h] at this; simp at this
      obtain ⟨o, f, d, us, fs', ho, hd, hrun', hp', _, hsub⟩ := Run.first l1 l2 hrun hp hnot
      refine does_sound hg hfn ho hd hi fun a' w' hi' => ?_
      have hget : ∀ j (b : Bool), (listed.setIfInBounds i true).getD j b = if j = i then true else listed.getD j b := by
        intro j b
        by_cases hji : j = i
        · subst hji
          rw [if_pos rfl]
          have : j < listed.size := by omega
          simp [Array.getD, this]
        · rw [if_neg hji]
          by_cases hlt : j < listed.size
          · simp [Array.getD, hlt, Array.getElem_setIfInBounds, Ne.symm hji]
          · simp [Array.getD, hlt]
      refine ih (l1 ++ l2) (listed.setIfInBounds i true) (after o st d us) fs' a' w' hrun' hp' (fun j hj => hb j ?_) (by simpa using hsz) (fun j => ?_) ?_ (fun j hj => ?_) ?_ hi' hK
      · rcases List.mem_append.1 hj with h | h
        · exact List.mem_append_left _ h
        · exact List.mem_append_right _ (List.mem_cons_of_mem _ h)
      · rw [hget]
        have hj := hrem j
        by_cases hji : j = i
        · subst hji
          rw [if_pos rfl]
          constructor
          · intro hm
            exfalso
            rcases List.mem_append.1 hm with h | h
            · have := hs1.2.2 j h j List.mem_cons_self; omega
            · have := (List.pairwise_cons.1 hs1.2.1).1 j h; omega
          · rintro ⟨_, h⟩; simp at h
        · rw [if_neg hji, ← hj]
          simp [hji]
      · refine List.pairwise_append.2 ⟨hs1.1, (List.pairwise_cons.1 hs1.2.1).2, fun x hx y hy => hs1.2.2 x hx y (List.mem_cons_of_mem _ hy)⟩
      · rw [hget] at hj
        intro o' ho' e he hbd
        show (listed.setIfInBounds i true).getD e.on false = true
        rw [hget]
        split
        · rfl
        · by_cases hji : j = i
          · subst hji; exact h3 o' ho' e he hbd
          · rw [if_neg hji] at hj; exact hcl j hj o' ho' e he hbd
      · simp at hlen ⊢; omega

theorem region_sound {R : Type} (hg : Globs C B) (hfn : ∀ f E, C.fn f = some E → Spec C.P B f E) (hmx : C.P.follows .mixedOrders = true) {id : Nat} {ops : Array Oper} {draw : Bool} {st : St} {K : St → Option R} {r : R}
    (h : evOps C draw ops (List.range ops.size) [] st K = some r) {a : Act} {w : World} (hi : Inv C B m0 w0 st a w) (hK : ∀ st' a' w', K st' = some r → Inv C B m0 w0 st' a' w' → Q .normal a' w') :
    (Code.region id ops draw).wp C.P Q a w := by
  obtain ⟨fs, st', hrun, hk, hp⟩ := evOps_run draw ops _ _ _ _ _ h
  cases draw
  · exact wp_region (run_sound hg hfn hrun hi fun a' w' hi' => hK st' a' w' hk hi')
  · obtain ⟨p1, _, p3⟩ := hp rfl
    refine wp_region_any hmx (any_sound hg hfn ops.size (List.range ops.size) _ st fs a _ hrun p1 p3 (by simp) (fun i => ?_) List.pairwise_lt_range (fun j hj => ?_) (by simp) ?_ fun a' w' hi' => hK st' a' w' hk hi')
    · rw [List.mem_range]
      constructor
      · intro h; exact ⟨h, by simp [Array.getD, h]⟩
      · exact fun h => h.1
    · exfalso
      by_cases hlt : j < ops.size <;> simp [Array.getD, hlt] at hj
    · obtain ⟨m, e, ok, h2, h3, h4, h5, h6, h7⟩ := hi
      exact ⟨m, e, ⟨ok.hB, ok.agree, fun k => (ok.box k).mono (.refl m) (.refl e) (fun hn => by have := ok.box k; rw [hn] at this; exact this) (fun _ _ _ _ _ => ⟨rfl, fun _ h => h⟩), ok.inj, ok.size⟩, h2, h3, h4, h5, h6, ⟨h7.os, h7.tape, h7.output, h7.size, h7.block⟩⟩
end
end Go.Proofs.YtaldfmbnfnagjaaDoor.E
