/- Each operation does what its run on plain data says: the sum. -/
import Derived.Test.YtaldfmbnfnagjaaDoorEvCore
namespace Go.Proofs.YtaldfmbnfnagjaaDoor.E
open Go.RowKit (Below)
set_option linter.unusedVariables false
set_option linter.unusedSimpArgs false
section
variable {C : Ctx} {B : M} {base : Nat} {m : M} {e : Env} {w w' : World} {bx : Nat → Option Bx} {st : St} {ρ : Operand → Value} {o : Oper}

theorem boundK_some {α : Type} {n : Nat} {lo hi : Option Operand} {K : Nat → Nat → Option α} {y : α} (hρ : ∀ x, Rd m e (st.ev x) (ρ x)) (h : boundK n (lo.map st.ev) (hi.map st.ev) K = some y) :
    ∃ l h' : Nat, l ≤ h' ∧ h' ≤ n ∧ K l h' = some y ∧ ∀ (isS : Bool) (cap : Nat), n ≤ cap → (Instr.sliceBounds isS n cap (lo.map ρ) (hi.map ρ) none).run C.P w = .ok (l, h', cap) w := by
  have toI : ∀ x k a, st.ev x = .int k a → ρ x = .int k a := fun x k a hx => by have := hρ x; rw [hx] at this; exact this
  unfold boundK at h
  cases lo with
  | none =>
    cases hi with
    | none =>
      simp only [Option.map_none] at h
      exact ⟨0, n, Nat.zero_le _, Nat.le_refl _, h, fun isS cap hc => by simp [Instr.sliceBounds]⟩
    | some x =>
      simp only [Option.map_none, Option.map_some] at h
      split at h <;> try (simp at h; done)
      all_goals first | (rename_i heq1 heq2; simp at heq1 heq2; done) | skip
      rename_i k a _ hx
      simp only [Option.some.injEq] at hx
      obtain ⟨c1, h⟩ := cond_some h
      obtain ⟨c2, h⟩ := cond_some h
      simp only [decide_eq_true_eq] at c1 c2
      refine ⟨0, a.toNat, Nat.zero_le _, by omega, h, fun isS cap hc => ?_⟩
      simp [Instr.sliceBounds, toI x k a hx, run_sliceBound w k a cap _ c1 (by omega)]
  | some z =>
    cases hi with
    | none =>
      simp only [Option.map_none, Option.map_some] at h
      split at h <;> try (simp at h; done)
      all_goals first | (rename_i heq1 heq2; simp at heq1 heq2; done) | skip
      rename_i k a hx _
      simp only [Option.some.injEq] at hx
      obtain ⟨c1, h⟩ := cond_some h
      obtain ⟨c2, h⟩ := cond_some h
      simp only [decide_eq_true_eq] at c1 c2
      refine ⟨a.toNat, n, by omega, Nat.le_refl _, h, fun isS cap hc => ?_⟩
      simp [Instr.sliceBounds, toI z k a hx, run_sliceBound w k a n _ c1 (by omega)]
    | some x =>
      simp only [Option.map_some] at h
      split at h <;> try (simp at h; done)
      all_goals first | (rename_i heq1 heq2; simp at heq1 heq2; done) | skip
      rename_i k a k' b hz hx
      simp only [Option.some.injEq] at hx hz
      obtain ⟨c1, h⟩ := cond_some h
      obtain ⟨c2, h⟩ := cond_some h
      obtain ⟨c3, h⟩ := cond_some h
      simp only [decide_eq_true_eq] at c1 c2 c3
      refine ⟨a.toNat, b.toNat, by omega, by omega, h, fun isS cap hc => ?_⟩
      simp [Instr.sliceBounds, toI z k a hz, toI x k' b hx, run_sliceBound w k' b cap _ (by omega) (by omega), run_sliceBound w k a b.toNat _ c1 (by omega)]

/-- A piece of a slice. -/
theorem At.shift {α : Type} {b o n l h : Nat} {R : α → List Value → Prop} {xs : List α} (k : At m b o n R xs) : At m b (o + l * n) n R ((xs.take h).drop l) := fun i x hx => by
  rw [List.getElem?_drop, List.getElem?_take] at hx
  split at hx
  · obtain ⟨vs, h1, h2, h3⟩ := k _ x hx
    refine ⟨vs, h1, h2, fun j u hu => ?_⟩
    have := h3 j u hu
    rwa [show o + l * n + i * n + j = o + (l + i) * n + j by rw [Nat.add_mul]; omega]
  · simp at hx
theorem slice_addr {a : Option Addr} {b o : Nat} (ha : a = some ⟨b, o, none⟩) {l m' z : Nat} (hne : m' ≠ l) : (if m' = l then a else a.map (·.add (l * z))) = some ⟨b, o + l * z, none⟩ := by
  rw [if_neg hne, ha]; simp [addr_add]
theorem SlR.piece {α : Type} {n : Nat} {R : α → List Value → Prop} {xs : List α} {a : Option Addr} {cap l h : Nat} (hlh : l ≤ h) (hh : h ≤ xs.length) (hc : xs.length ≤ cap)
    (k : xs = [] ∨ ∃ b o, a = some ⟨b, o, none⟩ ∧ At m b o n R xs) : SlR m n R ((xs.take h).drop l) (.slice (if cap = l then a else a.map (·.add (l * n))) (h - l) (cap - l)) := by
  have hlen : ((xs.take h).drop l).length = h - l := by simp; omega
  refine ⟨_, cap - l, by rw [hlen], by rw [hlen]; omega, ?_⟩
  rcases k with rfl | ⟨b, o, ha, k⟩
  · left; simp
  · by_cases hq : (xs.take h).drop l = []
    · exact .inl hq
    · right
      have : 0 < h - l := by
        rw [← hlen]; exact List.length_pos_iff.2 hq
      exact ⟨b, o + l * n, slice_addr ha (by omega), k.shift⟩
theorem run_slice_op {t el : TypeId} (ht : C.P.underlying t = some (.slice el)) (h0 : 0 < sz C el) {a : Option Addr} {len cap l h : Nat} {lo hi : Option Value} (hb : (Instr.sliceBounds true len cap lo hi none).run C.P w = .ok (l, h, cap) w) :
    (Instr.sliceAt t (.slice a len cap) lo hi none).run C.P w = .ok (.slice (if cap = l then a else a.map (·.add (l * sz C el))) (h - l) (cap - l)) w := by
  simp [Instr.sliceAt, Instr.slice, run_und ht, hb, run_sz h0 w]

theorem sliceK_sound (ok : OK B base m e w bx) (hs : Sub st.bx bx) (hρ : ∀ x, Rd m e (st.ev x) (ρ x)) {dst : Nat} (hdst : st.bx dst = none → bx dst = none) {t el : TypeId} (ht : C.P.underlying t = some (.slice el)) (h0 : 0 < sz C el) {x : Operand} {lo hi : Option Operand}
    {d : D} {us : List (Nat × Option Bx)} (h : sliceK st dst (sz C el) (st.ev x) (lo.map st.ev) (hi.map st.ev) pr = some (d, us)) :
    ∃ v, (Instr.sliceAt t (ρ x) (lo.map ρ) (hi.map ρ) none).run C.P w = .ok v w ∧ Res B base m e w (puts us bx) d v w := by
  have hx := hρ x
  unfold sliceK at h
  split at h
  · rename_i row xs hex
    rw [hex] at hx
    split at h
    · rename_i hn
      obtain ⟨l, h', h1, h2, h3, h4⟩ := boundK_some (C := C) (w := w) hρ h
      obtain ⟨rfl, rfl⟩ := pr_some h3
      obtain ⟨a, cap, hv, hc, k⟩ := hx
      rw [hv]
      refine ⟨_, run_slice_op ht h0 (h4 true cap hc), res_same ok ?_⟩
      have := SlR.piece (n := row.n) h1 h2 hc k
      rw [hn] at this
      show SlR m row.n (RdT m row) _ _
      rw [hn]; exact this
    · simp at h
  · rename_i k hex
    rw [hex] at hx
    obtain ⟨a, len, cap, n, hek, hv⟩ := hx
    split at h
    · rename_i row xs hk hlo
      have hlo : lo = none := by cases lo <;> simp_all
      subst hlo
      split at h
      · rename_i hn
        obtain ⟨hd0, h⟩ := fresh_some h
        have hd := hdst hd0
        have hbk := hs k _ hk
        have hbx := ok.box k
        rw [hbk] at hbx
        obtain ⟨a', cap', h1, h2, h3, h4⟩ := hbx
        rw [hek] at h1; cases h1
        obtain ⟨l, h', q1, q2, q3, q4⟩ := boundK_some (C := C) (w := w) hρ (lo := none) (by simpa using h)
        obtain ⟨rfl, rfl⟩ := pr_some q3
        have hl0 : l = 0 := by
          have := q4 true cap h3
          cases hi with
          | none => simp [Instr.sliceBounds] at this; omega
          | some z =>
            simp [Instr.sliceBounds] at this
            cases hr : Sem.run C.P (Instr.sliceBound (ρ z) cap BoundsCode.sliceAcap) w with
            | ok aa ww => rw [hr] at this; simp at this; omega
            | halt aa ww => rw [hr] at this; simp at this
        subst hl0
        refine ⟨_, by rw [hv]; exact run_slice_op ht h0 (q4 true cap h3), ?_⟩
        have haddr : (if cap = 0 then adr a else (adr a).map (·.add (0 * sz C el))) = adr a := by
          cases a <;> simp [adr, addr_add]
        rw [haddr]
        simp only [Nat.sub_zero, puts]
        have hlen : (xs.take h').length = h' := by simp; omega
        obtain ⟨ok1, he⟩ := ok.move (w' := w) (m' := m) (nb := .vec row (xs.take h') false) (len' := h') hbk hd hek (.refl m) ok.agree (fun b _ => ⟨rfl, fun _ h => h⟩) ok.size (by
          refine ⟨a, cap, by rw [hlen]; exact upd_same _ _ _, h2, by omega, ?_⟩
          rcases h4 with ⟨ha, hxs, hcap⟩ | ⟨b, ha, r1, c, r2, r3, r4, r5, r6⟩
          · exact .inl ⟨ha, by simp [hxs], hcap⟩
          · refine .inr ⟨b, ha, r1, c, r2, r3, fun i x hx => ?_, fun hf => by simp at hf, fun o' _ => r6 o' (.inl rfl)⟩
            rw [List.getElem?_take] at hx
            split at hx
            · exact r4 i x hx
            · simp at hx)
        exact ⟨m, _, .refl m, fun b o u h h' => by rw [h] at h'; simp at h', he, ⟨a, h', cap, row.n, upd_same _ _ _, rfl⟩, ok1, .refl _ _⟩
      · simp at h
    · rename_i row xs fz z hk hlo
      split at h
      · rename_i hn
        have hbk := hs k _ hk
        obtain ⟨m1, hm1, hn1, ok1⟩ := ok.freeze hbk
        have hbx := ok1.box k
        rw [upd_same] at hbx
        obtain ⟨a', cap', h1, h2, h3, h4⟩ := hbx
        rw [hek] at h1; cases h1
        obtain ⟨l, h', q1, q2, q3, q4⟩ := boundK_some (C := C) (w := w) hρ h
        obtain ⟨rfl, rfl⟩ := pr_some q3
        refine ⟨_, by rw [hv]; exact run_slice_op ht h0 (q4 true cap h3), m1, e, hm1, hn1, .refl e, ?_, ok1, .refl _ _⟩
        have := SlR.piece (m := m1) (n := row.n) (R := RdT m1 row) (a := adr a) (cap := cap) q1 q2 h3 (by
          rcases h4 with ⟨ha, hxs, hcap⟩ | ⟨b, ha, r1, c, r2, r3, r4, r5, r6⟩
          · exact .inl hxs
          · exact .inr ⟨b, 0, by rw [ha]; rfl, r5 rfl⟩)
        rw [hn] at this
        show SlR m1 row.n (RdT m1 row) _ _
        rw [hn]; exact this
      · simp at h
    · simp at h
  · rename_i hex
    rw [hex] at hx
    obtain ⟨l, h', h1, h2, h3, h4⟩ := boundK_some (C := C) (w := w) hρ h
    obtain ⟨rfl, rfl⟩ := pr_some h3
    rw [show ρ x = _ from hx]
    refine ⟨_, run_slice_op ht h0 (h4 true 0 (Nat.le_refl _)), res_same ok ?_⟩
    have : l = 0 ∧ h' = 0 := by omega
    obtain ⟨rfl, rfl⟩ := this
    rfl
  · simp at h

/-! #### a call -/
theorem callK_sound (ok : OK B base m e w bx) (hfn : ∀ f E, C.fn f = some E → Spec C.P B f E) (hs : Sub st.bx bx) {f : FuncId} {ds : List D} {vals : List Value} (hv : All2 (Rd m e) ds vals) {d : D} {us : List (Nat × Option Bx)}
    (h : callK C st f ds pr = some (d, us)) : Comes1 C.P ((callFunc f vals.toArray).run C.P w) (Res B base m e w (puts us bx) d) := by
  unfold callK at h
  split at h
  · simp at h
  · rename_i E hE
    split at h
    · simp at h
    · rename_i x hx
      simp only [Option.bind_eq_some_iff] at h
      obtain ⟨y, hy, h⟩ := h
      obtain ⟨rfl, rfl⟩ := pr_some h
      obtain ⟨m1, hm1, hn1, ok1⟩ := OK.freezeL st.bx (ds.flatMap D.vecs) ok (fun k b hk => .inl (hs k b hk))
      have hv1 : All2 (Rd m1 e) (ds.map (thaw (puts (froze st.bx (ds.flatMap D.vecs)) st.bx))) vals := by
        have hs1 := hs.puts (froze st.bx (ds.flatMap D.vecs))
        generalize puts (froze st.bx (ds.flatMap D.vecs)) st.bx = g at hs1
        clear hx
        have : ∀ (ds : List D) (vals : List Value), All2 (Rd m e) ds vals → All2 (Rd m1 e) (ds.map (thaw g)) vals := by
          intro ds
          induction ds with
          | nil => intro vals k; cases vals <;> first | trivial | exact k.elim
          | cons d ds ih =>
            intro vals k
            cases vals with
            | nil => exact k.elim
            | cons v vals => exact ⟨thaw_rd ok1 hs1 (k.1.mono hm1 (.refl e)), ih vals k.2⟩
        exact this ds vals hv
      have hr := decVs_rd hx hv1
      have hsp := hfn f E hE x y hy m1 w vals ok1.hB ok1.agree hr
      have fin : ∀ v w', (∃ m', M.le m1 m' ∧ (∀ b o u, m' b o = some u → m1 b o = none → w.heap.size ≤ b) ∧ (∀ b o v, m' b o = some v → w'.cell? ⟨b, o, none⟩ = some v) ∧ RdRes m' E.r y v ∧ Below w.heap.size w w') →
          Res B base m e w (puts (froze st.bx (ds.flatMap D.vecs)) bx) (tup (encVs E.r y)) v w' := by
        rintro v w' ⟨m', q1, q2, q3, q4, q5⟩
        have ok2 := ok1.grow q1 q3 q5.block q2 (Nat.le_trans ok.size q5.size)
        exact ⟨m', e, hm1.trans q1, new_trans hn1 (fun b o u h h' => Nat.le_trans ok.size (q2 b o u h h')) q1, .refl e, q4.rd, ok2, q5.mono ok.size⟩
      unfold Comes1 at hsp ⊢
      generalize (callFunc f vals.toArray).run C.P w = r at hsp
      cases r with
      | halt a b => exact hsp
      | ok n w1 =>
        cases n <;> first
          | exact fin _ _ hsp
          | exact hsp.mono fun e' w'' ⟨v, he, hr⟩ => ⟨v, he, fin _ _ hr⟩
          | exact hsp
end
end Go.Proofs.YtaldfmbnfnagjaaDoor.E
