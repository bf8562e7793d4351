/- Code, and whole functions. -/
import Derived.Test.YtaldfmbnfnagjaaDoorEvLive
namespace Go.Proofs.YtaldfmbnfnagjaaDoor.E
open Go.RowKit (Below)
set_option linter.unusedVariables false
set_option linter.unusedSimpArgs false

/-- A loop whose rounds count down. -/
theorem wp_loop_down {P : Program} {Q : Exit → Act → World → Prop} {c : Code} (I : Nat → Act → World → Prop) {n : Nat} {a : Act} {w : World} (h0 : I n a w)
    (round : ∀ n a w, I n a w → c.wp P (Exit.then (fun a' w' => ∃ k, k < n ∧ I k a' w') Q) a w) : (Code.loop c).wp P Q a w := by
  have least : ∀ a w n, I n a w → ∃ k, I k a w ∧ ∀ j, j < k → ¬ I j a w := by
    intro a w n
    induction n using Nat.strongRecOn with
    | _ n ih =>
      intro h
      by_cases hq : ∃ j, j < n ∧ I j a w
      · obtain ⟨j, hj, hI⟩ := hq; exact ih j hj hI
      · exact ⟨n, h, fun j hj hI => hq ⟨j, hj, hI⟩⟩
  let μ : Act → World → Nat := fun a w => @Classical.epsilon Nat ⟨0⟩ fun k => I k a w ∧ ∀ j, j < k → ¬ I j a w
  have hμ : ∀ a w n, I n a w → I (μ a w) a w ∧ ∀ j, j < μ a w → ¬ I j a w := fun a w n h => Classical.epsilon_spec (p := fun k => I k a w ∧ ∀ j, j < k → ¬ I j a w) (least a w n h)
  refine wp_loop (fun a w => ∃ n, I n a w) μ ⟨n, h0⟩ fun a w ⟨n, h⟩ => ?_
  obtain ⟨hI, hmin⟩ := hμ a w n h
  refine wp_mono (round _ a w hI) fun ex a' w' hq => ?_
  cases ex <;> try exact hq
  obtain ⟨k, hk, hI'⟩ := hq
  refine ⟨⟨k, hI'⟩, ?_⟩
  obtain ⟨_, hmin'⟩ := hμ a' w' k hI'
  rcases Nat.lt_or_ge (μ a' w') (μ a w) with h | h
  · exact h
  · exact absurd hI' (hmin' k (by omega))

def exOf : Ex → Exit | .normal => .normal | .exit id => .exit id | .ret => .ret
section
variable {C : Ctx} {B m0 : M} {w0 : World}
theorem evC_sound (hg : Globs C B) (hfn : ∀ f E, C.fn f = some E → Spec C.P B f E) (hmx : C.P.follows .mixedOrders = true) : ∀ (c : Code) {R : Type} (h : Hint) (st : St) (K : Ex → St → Option R) (r : R), evC C c h st K = some r →
    ∀ (a : Act) (w : World) (Q : Exit → Act → World → Prop), Inv C B m0 w0 st a w → (∀ ex st' a' w', K ex st' = some r → Inv C B m0 w0 st' a' w' → Q (exOf ex) a' w') → c.wp C.P Q a w := by
  intro c
  induction c with
  | skip => intro R h st K r he a w Q hi hK; rw [evC] at he; exact wp_skip (hK .normal st a w he hi)
  | region id ops draw =>
    intro R h st K r he a w Q hi hK
    rw [evC] at he
    exact region_sound hg hfn hmx he hi fun st' a' w' hk hi' => hK .normal st' a' w' hk hi'
  | seq x y ihx ihy =>
    intro R h st K r he a w Q hi hK
    have plain : ∀ ha hb, evC C x ha st (fun e st' => Ex.casesOn e (evC C y hb st' K) (fun id => K (.exit id) st') (K .ret st')) = some r → (Code.seq x y).wp C.P Q a w := by
      intro ha hb he
      refine wp_seq (ihx ha st _ r he a w _ hi fun ex st' a' w' hk hi' => ?_)
      cases ex with
      | normal => exact ihy hb st' K r hk a' w' Q hi' hK
      | exit id => exact hK (.exit id) st' a' w' hk hi'
      | ret => exact hK .ret st' a' w' hk hi'
    cases h with
    | seq cut ha hb =>
      cases cut with
      | none => rw [evC] at he; exact plain ha hb he
      | some l =>
        rw [evC] at he
        simp only [cutBind, Option.bind_eq_some_iff] at he
        obtain ⟨cc, h1, h2⟩ := he
        refine wp_seq (ihx ha st _ cc h1 a w _ hi fun ex st' a' w' hk hi' => ?_)
        cases ex with
        | normal =>
          simp only [Option.map_eq_some_iff] at hk
          obtain ⟨x', hx', rfl⟩ := hk
          exact ihy hb _ K r h2 a' w' Q (live_inv hi' hx') hK
        | exit id =>
          simp only [cutOut, Option.map_eq_some_iff] at hk
          obtain ⟨r', hr', rfl⟩ := hk
          simp only [Option.some.injEq] at h2
          subst h2
          exact hK (.exit id) st' a' w' hr' hi'
        | ret =>
          simp only [cutOut, Option.map_eq_some_iff] at hk
          obtain ⟨r', hr', rfl⟩ := hk
          simp only [Option.some.injEq] at h2
          subst h2
          exact hK .ret st' a' w' hr' hi'
    | auto => rw [evC] at he; exact plain .auto .auto he; all_goals (intros; simp_all)
    | cond _ _ => rw [evC] at he; exact plain .auto .auto he; all_goals (intros; simp_all)
    | block _ => rw [evC] at he; exact plain .auto .auto he; all_goals (intros; simp_all)
    | loop _ _ _ => rw [evC] at he; exact plain .auto .auto he; all_goals (intros; simp_all)
  | cond cnd x y ihx ihy =>
    intro R h st K r he a w Q hi hK
    rw [evC] at he
    split at he
    · rename_i t ht
      have hv : a.eval cnd = .bool t := by
        obtain ⟨m, e, ok, h2, _⟩ := hi
        cases cnd with
        | tmp t' => have := h2 t'; rw [show st.sl t' = _ from ht] at this; exact this
        | const v => have := ofVal_rd m e v; rw [show ofVal v = _ from ht] at this; exact this
        | global g => cases ht
        | func f => cases ht
      refine wp_cond hv ?_
      cases t
      · exact ihy _ st K r he a w Q hi hK
      · exact ihx _ st K r he a w Q hi hK
    · simp at he
  | block id x ihx =>
    intro R h st K r he a w Q hi hK
    rw [evC] at he
    refine wp_block (ihx _ st _ r he a w _ hi fun ex st' a' w' hk hi' => ?_)
    cases ex with
    | normal => exact hK .normal st' a' w' hk hi'
    | exit i =>
      simp only at hk
      show (if i = id then _ else _)
      cases hb : Nat.beq i id with
      | true =>
        rw [hb] at hk
        rw [if_pos (Nat.eq_of_beq_eq_true hb)]
        exact hK .normal st' a' w' hk hi'
      | false =>
        rw [hb] at hk
        rw [if_neg (fun h => by rw [h] at hb; simp at hb)]
        exact hK (.exit i) st' a' w' hk hi'
    | ret => exact hK .ret st' a' w' hk hi'
  | loop x ihx =>
    intro R h st K r he a w Q hi hK
    cases h with
    | loop l μ ha =>
      rw [evC] at he
      simp only [Option.bind_eq_some_iff] at he
      obtain ⟨x0, hx0, he⟩ := he
      generalize hs : (fun (rec : LiveT l → Option R) x' => evC C x ha (encLive l x') fun e st' => Ex.casesOn e ((decLive st' l).bind rec) (fun id => K (.exit id) st') (K .ret st')) = step at he
      refine wp_loop_down (fun n a w => ∃ x', loopN step n x' = some r ∧ Inv C B m0 w0 (encLive l x') a w) (n := μ x0) ⟨x0, he, live_inv hi hx0⟩ fun n a w ⟨x', hn, hi'⟩ => ?_
      cases n with
      | zero => simp [loopN] at hn
      | succ n =>
        rw [loopN, ← hs] at hn
        refine ihx ha _ _ r hn a w _ hi' fun ex st' a' w' hk hi'' => ?_
        cases ex with
        | normal =>
          simp only [Option.bind_eq_some_iff] at hk
          obtain ⟨x'', hx'', hk⟩ := hk
          rw [hs] at hk
          exact ⟨n, Nat.lt_succ_self n, x'', hk, live_inv hi'' hx''⟩
        | exit id => exact hK (.exit id) st' a' w' hk hi''
        | ret => exact hK .ret st' a' w' hk hi''
    | _ => rw [evC] at he; simp at he; all_goals (intros; simp_all)
  | exit id => intro R h st K r he a w Q hi hK; rw [evC] at he; exact wp_exit (hK (.exit id) st a w he hi)
  | ret => intro R h st K r he a w Q hi hK; rw [evC] at he; exact wp_ret (hK .ret st a w he hi)
  | _ => intro R h st K r he; rw [evC] at he; simp at he; all_goals (intros; simp_all)
end
end Go.Proofs.YtaldfmbnfnagjaaDoor.E
