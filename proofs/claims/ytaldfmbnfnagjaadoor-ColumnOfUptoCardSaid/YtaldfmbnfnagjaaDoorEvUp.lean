/- Steps of memory and of the boxes that keep the relation: a new block, a store, a row that stays, a box that is spent. -/
import Derived.Test.YtaldfmbnfnagjaaDoorEvOk
namespace Go.Proofs.YtaldfmbnfnagjaaDoor.E
open Go.RowKit (Below)
set_option linter.unusedVariables false
set_option linter.unusedSimpArgs false

theorem upd_same {α : Type} (f : Nat → α) (k : Nat) (v : α) : upd f k v k = v := by simp [upd]
theorem upd_other {α : Type} (f : Nat → α) {k i : Nat} (v : α) (h : i ≠ k) : upd f k v i = f i := by
  have : Nat.beq i k = false := by
    cases hb : Nat.beq i k with
    | false => rfl
    | true => exact absurd (Nat.eq_of_beq_eq_true hb) h
  simp [upd, this]
theorem upd_self {α : Type} (f : Nat → α) (k : Nat) : upd f k (f k) = f := by
  funext i; by_cases h : i = k
  · subst h; exact upd_same _ _ _
  · exact upd_other _ _ h
theorem puts_append (a b : List (Nat × Option Bx)) (f : Nat → Option Bx) : puts (a ++ b) f = puts b (puts a f) := by
  induction a generalizing f with
  | nil => rfl
  | cons x a ih => simp [puts, ih]

section
variable {B : M} {base : Nat} {m m' : M} {e e' : Env} {w w' : World} {bx : Nat → Option Bx}

/-- One box anew; what else lives lies in other blocks. -/
theorem OK.upd_box (ok : OK B base m e w bx) (k : Nat) (nb : Option Bx) (hm : M.le m m') (he : Env.le e e')
    (hag : ∀ b o v, m' b o = some v → w'.cell? ⟨b, o, none⟩ = some v)
    (hek : ∀ k', k' ≠ k → e' k' = e k')
    (hoth : ∀ k', k' ≠ k → ∀ p b, isLive (bx k') = true → e k' = some p → p.blk = some b → w'.heap[b]? = w.heap[b]? ∧ ∀ o, m b o = none → m' b o = none)
    (hnew : BxR base m' e' w' k nb)
    (hinj : ∀ p b, isLive nb = true → e' k = some p → p.blk = some b → ∀ k', k' ≠ k → ∀ p', isLive (bx k') = true → e k' = some p' → p'.blk ≠ some b)
    (hs : base ≤ w'.heap.size) : OK B base m' e' w' (upd bx k nb) where
  hB := ok.hB.trans hm
  agree := hag
  box := fun k' => by
    by_cases h : k' = k
    · subst h; rw [upd_same]; exact hnew
    · rw [upd_other _ _ h]
      refine (ok.box k').mono hm he (fun hn => ?_) (fun p b hl hp hb => hoth k' h p b hl hp hb)
      have := ok.box k'
      rw [hn] at this
      rw [hek k' h]; exact this
  inj := by
    intro k1 k2 p1 p2 b h1 h2 l1 l2 b1 b2
    by_cases e1 : k1 = k
    · subst e1
      by_cases e2 : k2 = k1
      · exact e2.symm
      · rw [upd_same] at l1
        rw [upd_other _ _ e2] at l2
        rw [hek k2 e2] at h2
        exact absurd b2 (hinj p1 b l1 h1 b1 k2 e2 p2 l2 h2)
    · rw [upd_other _ _ e1] at l1
      rw [hek k1 e1] at h1
      by_cases e2 : k2 = k
      · subst e2
        rw [upd_same] at l2
        exact absurd b1 (hinj p2 b l2 h2 b2 k1 e1 p1 l1 h1)
      · rw [upd_other _ _ e2] at l2
        rw [hek k2 e2] at h2
        exact ok.inj k1 k2 p1 p2 b h1 h2 l1 l2 b1 b2
  size := hs

/-- The box of a key that holds live memory has a place. -/
theorem BxR.place {k : Nat} {x : Option Bx} (h : BxR base m e w k x) (hl : isLive x = true) : ∃ p, e k = some p := by
  match x, h with
  | none, _ => simp [isLive] at hl
  | some .dead, _ => simp [isLive] at hl
  | some (.cells ds), ⟨b, c, h1, _⟩ => exact ⟨_, h1⟩
  | some (.vec row xs fz), ⟨a, cap, h1, _⟩ => exact ⟨_, h1⟩
theorem BxR.lt {k : Nat} {x : Option Bx} (h : BxR base m e w k x) (hl : isLive x = true) {p : Pl} {b : Nat} (hp : e k = some p) (hb : p.blk = some b) : b < w.heap.size ∧ base ≤ b := by
  match x, h with
  | none, _ => simp [isLive] at hl
  | some .dead, _ => simp [isLive] at hl
  | some (.cells ds), ⟨b', c, h1, h2, h3, _⟩ =>
    rw [h1] at hp; cases hp; cases hb; exact ⟨h3.lt, h2⟩
  | some (.vec row xs fz), ⟨a, cap, h1, _, _, h4⟩ =>
    rw [h1] at hp; cases hp
    rcases h4 with ⟨rfl, _⟩ | ⟨b', rfl, h4, c, h5, _⟩
    · cases hb
    · cases hb; exact ⟨h5.lt, h4⟩

theorem OK.kill (ok : OK B base m e w bx) (k : Nat) : OK B base m e w (upd bx k (some .dead)) :=
  ok.upd_box k _ (.refl m) (.refl e) ok.agree (fun _ _ => rfl) (fun _ _ _ _ _ _ _ => ⟨rfl, fun _ h => h⟩) trivial (fun _ _ h => by simp [isLive] at h) ok.size

/-- New blocks alone, and what came to stay in them. -/
theorem OK.grow (ok : OK B base m e w bx) (hm : M.le m m') (hag : ∀ b o v, m' b o = some v → w'.cell? ⟨b, o, none⟩ = some v)
    (hold : ∀ b, b < w.heap.size → w'.heap[b]? = w.heap[b]?) (hnew : ∀ b o u, m' b o = some u → m b o = none → w.heap.size ≤ b) (hs : base ≤ w'.heap.size) : OK B base m' e w' bx where
  hB := ok.hB.trans hm
  agree := hag
  box := fun k => (ok.box k).mono hm (.refl e) (fun hn => by have := ok.box k; rw [hn] at this; exact this) fun p b hl hp hb => by
    have := (ok.box k).lt hl hp hb
    refine ⟨hold b this.1, fun o ho => ?_⟩
    cases h : m' b o with
    | none => rfl
    | some u => have := hnew b o u h ho; omega
  inj := ok.inj
  size := hs

theorem agree_old (ok : OK B base m e w bx) (hold : ∀ b, b < w.heap.size → w'.heap[b]? = w.heap[b]?) : ∀ b o v, m b o = some v → w'.cell? ⟨b, o, none⟩ = some v := by
  intro b o v h
  have h1 := ok.agree b o v h
  have h2 := agree_lt ok.agree h
  rw [← h1]
  exact World.cell?_of_block (hold b h2)

/-- A new block for a key that was never used. -/
theorem OK.alloc (ok : OK B base m e w bx) {k : Nat} (hk : bx k = none) {nb : Bx} {p : Pl} (hold : ∀ b, b < w.heap.size → w'.heap[b]? = w.heap[b]?) (hs : w.heap.size ≤ w'.heap.size)
    (hp : ∀ b, p.blk = some b → w.heap.size ≤ b)
    (hnew : BxR base m (upd e k (some p)) w' k (some nb)) : OK B base m (upd e k (some p)) w' (upd bx k (some nb)) ∧ Env.le e (upd e k (some p)) := by
  have hek : e k = none := by have := ok.box k; rw [hk] at this; exact this
  have he : Env.le e (upd e k (some p)) := fun k' p' h => by
    have : k' ≠ k := fun e => by rw [e, hek] at h; simp at h
    rw [upd_other _ _ this]; exact h
  refine ⟨ok.upd_box k _ (.refl m) he (agree_old ok hold) (fun k' h => upd_other _ _ h) (fun k' h p' b hl hp' hb => ?_) hnew (fun p' b hl hp' hb k' hne p2 l2 h2 hb2 => ?_) (Nat.le_trans ok.size hs), he⟩
  · have := (ok.box k').lt hl hp' hb
    exact ⟨hold b this.1, fun _ h => h⟩
  · rw [upd_same] at hp'; cases hp'
    have h1 := hp b hb
    have h2 := (ok.box k').lt l2 h2 hb2
    omega

/-- A row of which nothing more is written stays from now on. -/
theorem OK.freeze (ok : OK B base m e w bx) {k : Nat} {row : Sh} {xs : List row.T} {fz : Bool} (hk : bx k = some (.vec row xs fz)) :
    ∃ m', M.le m m' ∧ (∀ b o u, m' b o = some u → m b o = none → base ≤ b) ∧ OK B base m' e w (upd bx k (some (.vec row xs true))) := by
  have hb := ok.box k
  rw [hk] at hb
  obtain ⟨a, cap, h1, h2, h3, h4⟩ := hb
  rcases h4 with ⟨ha, hxs, hcap⟩ | ⟨b, ha, h4, c, h5, h6, h7, h8, h9⟩
  · refine ⟨m, .refl m, fun b o u h h' => by rw [h] at h'; simp at h', ok.upd_box k _ (.refl m) (.refl e) ok.agree (fun _ _ => rfl) (fun _ _ _ _ _ _ _ => ⟨rfl, fun _ h => h⟩) ⟨a, cap, h1, h2, h3, .inl ⟨ha, hxs, hcap⟩⟩ (fun p b hl hp hb => ?_) ok.size⟩
    rw [h1] at hp; cases hp; rw [ha] at hb; cases hb
  · by_cases hf : fz = true
    · subst hf
      refine ⟨m, .refl m, fun b o u h h' => by rw [h] at h'; simp at h', ?_⟩
      have : upd bx k (some (.vec row xs true)) = bx := by rw [← hk]; exact upd_self bx k
      rw [this]; exact ok
    · have hf : fz = false := by simpa using hf
      subst ha
      let m' : M := fun b' o' => if b' = b ∧ o' < xs.length * row.n then c[o']? else m b' o'
      have hmb : ∀ o, m b o = none := fun o => h9 o (.inl hf)
      have hm : M.le m m' := fun b' o' v h => by
        show (if b' = b ∧ o' < xs.length * row.n then c[o']? else m b' o') = some v
        rw [if_neg]; exact h
        rintro ⟨rfl, _⟩; rw [hmb] at h; simp at h
      refine ⟨m', hm, fun b' o' u h h' => ?_, ?_⟩
      · have h : (if b' = b ∧ o' < xs.length * row.n then c[o']? else m b' o') = some u := h
        split at h
        · rename_i hc; rw [hc.1]; exact h4
        · rw [h'] at h; simp at h
      · refine ok.upd_box k _ hm (.refl e) (fun b' o' v h => ?_) (fun _ _ => rfl) (fun k' hne p b' hl hp hb' => ⟨rfl, fun o' ho' => ?_⟩) ⟨some b, cap, h1, h2, h3, .inr ⟨b, rfl, h4, c, h5, h6, h7.mono (RdT.mono hm row), fun _ => ?_, fun o' ho' => ?_⟩⟩ (fun p b' hl hp hb' k' hne p' l' hp' hb2 => ?_) ok.size
        · have h : (if b' = b ∧ o' < xs.length * row.n then c[o']? else m b' o') = some v := h
          split at h
          · rename_i hc; rw [hc.1, h5.cell]; exact h
          · exact ok.agree _ _ _ h
        · show (if b' = b ∧ o' < xs.length * row.n then c[o']? else m b' o') = none
          rw [if_neg]; exact ho'
          rintro ⟨rfl, _⟩
          exact hne (ok.inj k' k p _ b' hp h1 hl (by rw [hk]; rfl) hb' rfl)
        · intro i x hx
          obtain ⟨vs, hl, hr, hc⟩ := h7 i x hx
          refine ⟨vs, hl, hr.mono hm, fun j u hu => ?_⟩
          have hi : i < xs.length := by
            rcases Nat.lt_or_ge i xs.length with h | h
            · exact h
            · rw [List.getElem?_eq_none h] at hx; simp at hx
          have hj : j < row.n := by
            rcases Nat.lt_or_ge j vs.length with h | h
            · omega
            · rw [List.getElem?_eq_none h] at hu; simp at hu
          have : i * row.n + j < xs.length * row.n := by
            have : (i + 1) * row.n ≤ xs.length * row.n := Nat.mul_le_mul_right _ hi
            rw [Nat.add_mul] at this; omega
          show (if b = b ∧ 0 + i * row.n + j < xs.length * row.n then c[0 + i * row.n + j]? else m b (0 + i * row.n + j)) = some u
          rw [if_pos ⟨rfl, by omega⟩]
          exact hc j u hu
        · show (if b = b ∧ o' < xs.length * row.n then c[o']? else m b o') = none
          rcases ho' with h | h
          · simp at h
          · rw [if_neg (by omega)]; exact hmb o'
        · rw [h1] at hp; cases hp; cases hb'
          exact hne (ok.inj k' k p' _ b hp' h1 l' (by rw [hk]; rfl) hb2 rfl)
def frz : Option Bx → Option Bx
  | some (.vec row xs _) => some (.vec row xs true)
  | x => x
theorem frz_frz (x : Option Bx) : frz (frz x) = frz x := by
  rcases x with _ | x
  · rfl
  · cases x <;> rfl
theorem OK.freezeL (f : Nat → Option Bx) : ∀ (ks : List Nat) {m : M} {bx : Nat → Option Bx} (ok : OK B base m e w bx) (hf : ∀ k b, f k = some b → bx k = some b ∨ bx k = frz (some b)),
    ∃ m', M.le m m' ∧ (∀ b o u, m' b o = some u → m b o = none → base ≤ b) ∧ OK B base m' e w (puts (froze f ks) bx)
  | [], m, bx, ok, hf => ⟨m, .refl m, fun b o u h h' => by rw [h] at h'; simp at h', ok⟩
  | k :: ks, m, bx, ok, hf => by
    unfold froze at *
    rw [List.filterMap_cons]
    split
    · exact OK.freezeL f ks ok hf
    · rename_i u hu
      split at hu
      · rename_i row xs fz hk
        simp only [Option.some.injEq] at hu
        subst hu
        obtain ⟨fz', hbk⟩ : ∃ fz', bx k = some (.vec row xs fz') := by
          rcases hf k _ hk with h | h
          · exact ⟨_, h⟩
          · exact ⟨true, h⟩
        obtain ⟨m1, hm1, hn1, ok1⟩ := ok.freeze hbk
        obtain ⟨m2, hm2, hn2, ok2⟩ := OK.freezeL f ks ok1 (fun k' b hb => by
          by_cases h : k' = k
          · subst h; rw [hk] at hb; cases hb; rw [upd_same]; exact .inr rfl
          · rw [upd_other _ _ h]; exact hf k' b hb)
        refine ⟨m2, hm1.trans hm2, fun b o u h h' => ?_, ok2⟩
        cases hq : m1 b o with
        | none => exact hn2 b o u h hq
        | some u' => exact hn1 b o u' hq h'
      · simp at hu

/-- What of boxes is known from fewer of them. -/
def Sub (f g : Nat → Option Bx) : Prop := ∀ k b, f k = some b → g k = some b
theorem Sub.puts {f g : Nat → Option Bx} (h : Sub f g) : ∀ us : List (Nat × Option Bx), Sub (puts us f) (puts us g) := by
  intro us
  induction us generalizing f g with
  | nil => exact h
  | cons u us ih =>
    refine ih fun k b hb => ?_
    by_cases hk : k = u.1
    · subst hk; rw [upd_same] at hb ⊢; exact hb
    · rw [upd_other _ _ hk] at hb ⊢; exact h k b hb

theorem thaw1_rd (ok : OK B base m e w bx) {f : Nat → Option Bx} (hs : Sub f bx) {d : D} {v : Value} (h : Rd1 m e d v) : Rd1 m e (thaw1 f d) v := by
  cases d <;> simp only [thaw1] <;> try exact h
  case vec k =>
    split
    · rename_i row xs hk
      have hb := ok.box k
      rw [hs k _ hk] at hb
      obtain ⟨a, cap, h1, h2, h3, h4⟩ := hb
      obtain ⟨a', len, cap', n, h1', hv⟩ := h
      rw [h1] at h1'
      cases h1'
      refine ⟨_, cap, hv, h3, ?_⟩
      rcases h4 with ⟨ha, hxs, _⟩ | ⟨b, ha, h4, c, h5, h6, h7, h8, h9⟩
      · exact .inl hxs
      · exact .inr ⟨b, 0, by rw [ha]; rfl, h8 rfl⟩
    · trivial
theorem thaw_rd (ok : OK B base m e w bx) {f : Nat → Option Bx} (hs : Sub f bx) {d : D} {v : Value} (h : Rd m e d v) : Rd m e (thaw f d) v := by
  cases d <;> simp only [thaw] <;> first
    | exact .of1 (thaw1_rd ok hs h)
    | (obtain ⟨vs, hv, k⟩ := h
       refine ⟨vs, hv, ?_⟩
       clear hv
       rename_i ds
       induction ds generalizing vs with
       | nil => cases vs <;> first | trivial | exact k.elim
       | cons d ds ih =>
         cases vs with
         | nil => exact k.elim
         | cons v vs => exact ⟨thaw1_rd ok hs k.1, ih vs k.2⟩)
    | exact h
end
end Go.Proofs.YtaldfmbnfnagjaaDoor.E
