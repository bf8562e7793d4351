/- What keeps the relation between a frame's own places and memory. -/
import Derived.Test.YtaldfmbnfnagjaaDoorEvNat
import Derived.Laws.CopyRow
import Derived.Laws.MakeOwn
import Derived.Laws.AppendOwn
namespace Go.Proofs.YtaldfmbnfnagjaaDoor.E
open Go.RowKit (Below)
set_option linter.unusedVariables false
set_option linter.unusedSimpArgs false

/-! ### Typed data -/
section
variable {m : M} {e : Env}
theorem enc_rd : ∀ (s : Sh) (x : s.T) (vs : List Value), RdT m s x vs → All2 (Rd1 m e) (enc s x) vs
  | .bool, b, vs, h => by rw [show vs = _ from h]; exact ⟨rfl, trivial⟩
  | .int k, b, vs, h => by rw [show vs = _ from h]; exact ⟨rfl, trivial⟩
  | .str, b, vs, h => by rw [show vs = _ from h]; exact ⟨rfl, trivial⟩
  | .unit, b, vs, h => by rw [show vs = _ from h]; trivial
  | .pair a b, x, vs, ⟨u, v, hv, ha, hb⟩ => by rw [hv]; exact All2.append (enc_rd a x.1 u ha) (enc_rd b x.2 v hb)
  | .sl row, xs, vs, ⟨v, hv, h⟩ => by rw [hv]; exact ⟨h, trivial⟩
theorem castT_rfl {a : Sh} (h : a = a) (xs : List a.T) : castT h xs = xs := rfl
theorem castT_SlR {a b : Sh} (h : a = b) (xs : List a.T) (v : Value) (k : SlR m a.n (RdT m a) xs v) : SlR m b.n (RdT m b) (castT h xs) v := by subst h; exact k
theorem dec_rd : ∀ (s : Sh) (ds : List D) (x : s.T) (r : List D) (vs : List Value), dec s ds = some (x, r) → All2 (Rd1 m e) ds vs →
    ∃ u v, vs = u ++ v ∧ RdT m s x u ∧ All2 (Rd1 m e) r v := by
  intro s
  induction s with
  | bool =>
    intro ds x r vs h k
    match ds, vs, k with
    | [], _, _ => simp [dec] at h
    | d :: ds, v :: vs, k =>
      cases d <;> simp [dec] at h
      obtain ⟨rfl, rfl⟩ := h
      exact ⟨[v], vs, rfl, by rw [show v = _ from k.1]; rfl, k.2⟩
  | int kk =>
    intro ds x r vs h k
    match ds, vs, k with
    | [], _, _ => simp [dec] at h
    | d :: ds, v :: vs, k =>
      cases d <;> simp [dec] at h
      obtain ⟨rfl, rfl, rfl⟩ := h
      exact ⟨[v], vs, rfl, by rw [show v = _ from k.1]; rfl, k.2⟩
  | str =>
    intro ds x r vs h k
    match ds, vs, k with
    | [], _, _ => simp [dec] at h
    | d :: ds, v :: vs, k =>
      cases d <;> simp [dec] at h
      obtain ⟨rfl, rfl⟩ := h
      exact ⟨[v], vs, rfl, by rw [show v = _ from k.1]; rfl, k.2⟩
  | unit =>
    intro ds x r vs h k
    simp only [dec, Option.some.injEq, Prod.mk.injEq] at h
    obtain ⟨_, rfl⟩ := h
    exact ⟨[], vs, rfl, rfl, k⟩
  | pair a b iha ihb =>
    intro ds x r vs h k
    simp only [dec, Option.bind_eq_some_iff] at h
    obtain ⟨⟨x1, r1⟩, h1, ⟨x2, r2⟩, h2, h3⟩ := h
    simp only [Option.some.injEq, Prod.mk.injEq] at h3
    obtain ⟨rfl, rfl⟩ := h3
    obtain ⟨u, v, rfl, ra, k1⟩ := iha _ _ _ _ h1 k
    obtain ⟨u', v', rfl, rb, k2⟩ := ihb _ _ _ _ h2 k1
    exact ⟨u ++ u', v', by simp, ⟨u, u', rfl, ra, rb⟩, k2⟩
  | sl row ih =>
    intro ds x r vs h k
    match ds, vs, k with
    | [], _, _ => simp [dec] at h
    | d :: ds, v :: vs, k =>
      cases d <;> simp only [dec, reduceCtorEq] at h
      case nil =>
        simp only [Option.some.injEq, Prod.mk.injEq] at h
        obtain ⟨rfl, rfl⟩ := h
        refine ⟨[v], vs, rfl, ⟨v, rfl, none, 0, ?_, Nat.le_refl _, .inl rfl⟩, k.2⟩
        exact k.1
      case sl row' xs =>
        split at h
        · rename_i hr
          simp only [Option.some.injEq, Prod.mk.injEq] at h
          obtain ⟨rfl, rfl⟩ := h
          exact ⟨[v], vs, rfl, ⟨v, rfl, castT_SlR hr xs v k.1⟩, k.2⟩
        · simp at h
theorem decAll_rd {s : Sh} {ds : List D} {x : s.T} {vs : List Value} (h : decAll s ds = some x) (k : All2 (Rd1 m e) ds vs) : RdT m s x vs := by
  simp only [decAll, Option.bind_eq_some_iff] at h
  obtain ⟨⟨x', r⟩, h1, h2⟩ := h
  split at h2
  · rename_i hr
    simp only at hr
    subst hr
    simp only [Option.some.injEq] at h2
    subst h2
    obtain ⟨u, v, rfl, a, b⟩ := dec_rd s _ _ _ _ h1 k
    cases v with
    | nil => simpa using a
    | cons _ _ => exact b.elim
  · simp at h2

def RdV (m : M) : (v : V) → v.T → Value → Prop
  | .leaf s, x, u => RdT m s x [u]
  | .agg s, x, u => ∃ vs : List Value, u = .agg vs.toArray ∧ RdT m s x vs
def RdVs (m : M) : (l : List V) → VsT l → List Value → Prop
  | [], _, vs => vs = []
  | v :: r, x, vs => ∃ u us, vs = u :: us ∧ RdV m v x.1 u ∧ RdVs m r x.2 us
theorem RdV.mono {m m' : M} (h : M.le m m') : ∀ (v : V) (x : v.T) (u : Value), RdV m v x u → RdV m' v x u
  | .leaf s, _, _, k => RdT.mono h s _ _ k
  | .agg s, _, _, ⟨vs, hu, k⟩ => ⟨vs, hu, RdT.mono h s _ _ k⟩
theorem RdVs.mono {m m' : M} (h : M.le m m') : ∀ (l : List V) (x : VsT l) (u : List Value), RdVs m l x u → RdVs m' l x u
  | [], _, _, k => k
  | _ :: r, _, _, ⟨u, us, hu, a, b⟩ => ⟨u, us, hu, a.mono h, RdVs.mono h r _ _ b⟩
theorem encV_rd {v : V} {x : v.T} {u : Value} (h : RdV m v x u) : Rd2 m e (encV v x) u := by
  cases v with
  | leaf s =>
    have k := enc_rd (e := e) s x [u] h
    simp only [encV]
    match hq : enc s x, k with
    | [d], k => exact Rd2.of1 k.1
    | [], k => exact k.elim
    | _ :: _ :: _, k => exact k.2.elim
  | agg s =>
    obtain ⟨vs, hu, k⟩ := h
    exact ⟨vs, hu, enc_rd s x vs k⟩
theorem encVs_rd : ∀ {l : List V} {x : VsT l} {us : List Value}, RdVs m l x us → All2 (Rd2 m e) (encVs l x) us
  | [], _, us, h => by rw [show us = [] from h]; trivial
  | v :: r, x, _, ⟨u, us, hu, a, b⟩ => by rw [hu]; exact ⟨encV_rd a, encVs_rd b⟩
theorem decV_rd {v : V} {d : D} {x : v.T} {u : Value} (h : decV v d = some x) (k : Rd m e d u) : RdV m v x u := by
  cases v with
  | leaf s =>
    have k1 : Rd1 m e d u ∧ decAll s [d] = some x := by
      cases d <;> first | exact ⟨k, h⟩ | (simp [decV] at h)
    exact decAll_rd k1.2 ⟨k1.1, trivial⟩
  | agg s =>
    cases d <;> simp only [decV, reduceCtorEq] at h
    obtain ⟨vs, hu, k⟩ := k
    exact ⟨vs, hu, decAll_rd h k⟩
theorem decVs_rd : ∀ {l : List V} {ds : List D} {x : VsT l} {us : List Value}, decVs l ds = some x → All2 (Rd m e) ds us → RdVs m l x us
  | [], [], x, [], _, _ => rfl
  | [], _ :: _, x, _, h, _ => by simp [decVs] at h
  | _ :: _, [], x, _, h, _ => by simp [decVs] at h
  | v :: r, d :: ds, x, u :: us, h, k => by
    simp only [decVs, Option.bind_eq_some_iff] at h
    obtain ⟨y, h1, z, h2, h3⟩ := h
    simp only [Option.some.injEq] at h3
    subst h3
    exact ⟨u, us, rfl, decV_rd h1 k.1, decVs_rd h2 k.2⟩
  | [], [], _, _ :: _, _, k => k.elim
  | _ :: _, _ :: _, _, [], _, k => k.elim
def RdRes (m : M) (l : List V) (x : VsT l) (u : Value) : Prop := ∃ us, RdVs m l x us ∧ u = (if h : us.length = 1 then us[0] else .tuple us.toArray)
theorem RdVs.length {m : M} : ∀ {l : List V} {x : VsT l} {us : List Value}, RdVs m l x us → us.length = l.length
  | [], _, _, h => by rw [show _ = _ from h]; rfl
  | _ :: _, _, _, ⟨u, us, hu, a, b⟩ => by rw [hu]; simp [RdVs.length b]
theorem RdRes.rd {l : List V} {x : VsT l} {u : Value} (h : RdRes m l x u) : Rd m e (tup (encVs l x)) u := by
  obtain ⟨us, h, hu⟩ := h
  have k := encVs_rd (e := e) h
  have hl := k.length
  match hq : encVs l x, us, k with
  | [], [], _ => rw [hu]; exact ⟨[], by simp, trivial⟩
  | [d], [v], k => rw [hu]; exact .of2 k.1
  | a :: b :: c, x :: y :: z, k => rw [hu]; exact ⟨x :: y :: z, by simp, k⟩
  | [], _ :: _, k => exact k.elim
  | _ :: _, [], k => exact k.elim
  | [_], _ :: _ :: _, k => exact k.2.elim
  | _ :: _ :: _, [_], k => exact k.2.elim
end
end Go.Proofs.YtaldfmbnfnagjaaDoor.E
