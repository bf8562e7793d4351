/- Where ways meet: what lives on is told as data, and laid under new keys. -/
import Derived.Test.YtaldfmbnfnagjaaDoorEvReg
namespace Go.Proofs.YtaldfmbnfnagjaaDoor.E
open Go.RowKit (Below)
set_option linter.unusedVariables false
set_option linter.unusedSimpArgs false

theorem apartL_nodup : ∀ {l : List Nat}, apartL l = true → l.Nodup
  | [], _ => List.nodup_nil
  | k :: r, h => by
    simp only [apartL, Bool.and_eq_true, Bool.not_eq_true'] at h
    exact List.nodup_cons.2 ⟨(any_beq_false _ _).1 h.1, apartL_nodup h.2⟩
theorem look_out {α : Type} {d : α} : ∀ {l : List (Nat × α)} {k : Nat}, k ∉ l.map (·.1) → look d l k = d
  | [], _, _ => rfl
  | p :: r, k, h => by
    simp only [List.map_cons, List.mem_cons, not_or] at h
    have : Nat.beq k p.1 = false := by
      cases hb : Nat.beq k p.1 with
      | false => rfl
      | true => exact absurd (Nat.eq_of_beq_eq_true hb) h.1
    simp only [look, this, cond_false]
    exact look_out h.2
theorem look_in {α : Type} {d : α} : ∀ {l : List (Nat × α)} {k : Nat} {v : α}, (l.map (·.1)).Nodup → (k, v) ∈ l → look d l k = v
  | [], _, _, _, h => by simp at h
  | p :: r, k, v, hn, h => by
    simp only [List.map_cons, List.nodup_cons] at hn
    rcases List.mem_cons.1 h with h | h
    · subst h; simp [look]
    · have hk : k ∈ r.map (·.1) := List.mem_map.2 ⟨(k, v), h, rfl⟩
      have : Nat.beq k p.1 = false := by
        cases hb : Nat.beq k p.1 with
        | false => rfl
        | true => rw [Nat.eq_of_beq_eq_true hb] at hk; exact absurd hk hn.1
      simp only [look, this, cond_false]
      exact look_in hn.2 h
theorem look_mem {α : Type} {d : α} : ∀ {l : List (Nat × α)} {k : Nat}, k ∈ l.map (·.1) → (k, look d l k) ∈ l
  | [], _, h => by simp at h
  | p :: r, k, h => by
    cases hb : Nat.beq k p.1 with
    | true => rw [Nat.eq_of_beq_eq_true hb]; simp [look]
    | false =>
      simp only [look, hb, cond_false]
      simp only [List.map_cons, List.mem_cons] at h
      rcases h with h | h
      · subst h; simp at hb
      · exact List.mem_cons_of_mem _ (look_mem h)
theorem olds_one {l : List (Nat × Src)} (h : apartL (olds l) = true) {k k' x : Nat} (a : (k, Src.old x) ∈ l) (b : (k', Src.old x) ∈ l) : k = k' := by
  have hn := apartL_nodup h
  clear h
  induction l with
  | nil => simp at a
  | cons p l ih =>
    have mem : ∀ {q : Nat}, (q, Src.old x) ∈ l → x ∈ olds l := by
      intro q hq
      clear ih hn a b
      induction l with
      | nil => simp at hq
      | cons p l ih =>
        rcases List.mem_cons.1 hq with rfl | hq'
        · simp [olds]
        · obtain ⟨p1, p2⟩ := p
          cases p2 <;> simp [olds, ih hq']
    obtain ⟨p1, p2⟩ := p
    cases p2 with
    | old z =>
      simp only [olds, List.nodup_cons] at hn
      rcases List.mem_cons.1 a with a' | a' <;> rcases List.mem_cons.1 b with b' | b'
      · cases a'; cases b'; rfl
      · cases a'; exact absurd (mem b') hn.1
      · cases b'; exact absurd (mem a') hn.1
      · exact ih a' b' hn.2
    | nil z =>
      simp only [olds] at hn
      rcases List.mem_cons.1 a with a | a
      · cases a
      · rcases List.mem_cons.1 b with b | b
        · cases b
        · exact ih a b hn

section
variable {C : Ctx} {B m0 : M} {w0 : World} {base : Nat} {m : M} {e e' : Env} {w : World} {bx : Nat → Option Bx}
def place (e : Env) : Src → Option Pl
  | .old k => e k
  | .nil n => some (.vec none 0 0 n)
/-- Each box that is told is laid under its new key. -/
def Laid (e e' : Env) (src : List (Nat × Src)) : Prop := ∀ p ∈ src, e' p.1 = place e p.2
theorem Laid.append {a b : List (Nat × Src)} (h : Laid e e' (a ++ b)) : Laid e e' a ∧ Laid e e' b :=
  ⟨fun p hp => h p (List.mem_append_left _ hp), fun p hp => h p (List.mem_append_right _ hp)⟩

/-- What comes of one cell or slot. -/
structure Told (base : Nat) (m : M) (e' : Env) (w : World) (bx : Nat → Option Bx) (bs : List (Nat × Option Bx)) (src : List (Nat × Src)) : Prop where
  keys : bs.map (·.1) = src.map (·.1)
  box : ∀ p ∈ bs, BxR base m e' w p.1 p.2
  live : ∀ p ∈ src, ∀ k, p.2 = .old k → isLive (bx k) = true
theorem Told.nil : Told base m e' w bx [] [] := ⟨rfl, by simp, by simp⟩
theorem Told.append {a b : List (Nat × Option Bx)} {s t : List (Nat × Src)} (h : Told base m e' w bx a s) (k : Told base m e' w bx b t) : Told base m e' w bx (a ++ b) (s ++ t) :=
  ⟨by simp [h.keys, k.keys], fun p hp => by rcases List.mem_append.1 hp with hp | hp; exact h.box p hp; exact k.box p hp,
   fun p hp => by rcases List.mem_append.1 hp with hp | hp; exact h.live p hp; exact k.live p hp⟩

theorem decCell_told (ok : OK B base m e w bx) {key : Nat} {c : Sum Sh (Sh × Bool)} {d : D} {x : cellT c} {src : List (Nat × Src)} {v : Value} (h : decCell bx key c d = some (x, src)) (hd : Rd1 m e d v) (hl : Laid e e' src) :
    Rd1 m e' (encCell key c x).1 v ∧ Told base m e' w bx (encCell key c x).2 src := by
  cases c with
  | inl s =>
    simp only [decCell, Option.map_eq_some_iff, Prod.mk.injEq] at h
    obtain ⟨y, hy, rfl, rfl⟩ := h
    have hr := decAll_rd hy (show All2 (Rd1 m e) [thaw1 bx d] [v] from ⟨thaw1_rd ok (fun _ _ h => h) hd, trivial⟩)
    refine ⟨?_, Told.nil⟩
    have k := enc_rd (e := e') s y [v] hr
    simp only [encCell]
    match hq : enc s y, k with
    | [d], k => exact k.1
    | [], k => exact k.elim
    | _ :: _ :: _, k => exact k.2.elim
  | inr p =>
    cases d <;> simp only [decCell, reduceCtorEq] at h
    case nil =>
      split at h
      · simp at h
      · rename_i hn
        simp only [Option.some.injEq, Prod.mk.injEq] at h
        obtain ⟨rfl, rfl⟩ := h
        have he := hl (key, .nil p.1.n) (by simp)
        refine ⟨⟨none, 0, 0, p.1.n, he, hd⟩, ⟨rfl, fun q hq => ?_, fun q hq k hk => ?_⟩⟩
        · simp only [encCell, List.mem_singleton] at hq
          subst hq
          exact ⟨none, 0, he, by omega, Nat.le_refl _, .inl ⟨rfl, rfl, rfl⟩⟩
        · simp only [List.mem_singleton] at hq
          subst hq; cases hk
    case vec k =>
      split at h
      · rename_i row xs fz hk
        split at h
        · rename_i hr
          obtain ⟨prow, pfz⟩ := p
          simp only at hr
          subst hr
          split at h
          · rename_i hf
            simp only at hf
            subst hf
            simp only [Option.some.injEq, Prod.mk.injEq] at h
            obtain ⟨hx, rfl⟩ := h
            have hx : xs = x := hx
            subst hx
            have he : e' key = e k := hl (key, .old k) (by simp)
            obtain ⟨a, len, cap, n, hek, hv⟩ := hd
            refine ⟨⟨a, len, cap, n, he.trans hek, hv⟩, ⟨rfl, fun q hq => ?_, fun q hq k' hk' => ?_⟩⟩
            · simp only [encCell, List.mem_singleton] at hq
              subst hq
              have hb := ok.box k
              rw [hk] at hb
              obtain ⟨a', cap', h1, h2⟩ := hb
              exact ⟨a', cap', he.trans h1, h2⟩
            · simp only [List.mem_singleton] at hq
              subst hq; cases hk'
              rw [hk]; rfl
          · simp at h
        · simp at h
      · simp at h
theorem decCells_told (ok : OK B base m e w bx) {t : Nat} : ∀ {l : List (Sum Sh (Sh × Bool))} {j : Nat} {ds : List D} {x : cellsT l} {src : List (Nat × Src)} {vs : List Value}, decCells bx t j l ds = some (x, src) → All2 (Rd1 m e) ds vs → Laid e e' src →
    All2 (Rd1 m e') (encCells t j l x).1 vs ∧ Told base m e' w bx (encCells t j l x).2 src
  | [], j, [], x, src, vs, h, k, hl => by
    simp only [decCells, Option.some.injEq, Prod.mk.injEq] at h
    obtain ⟨_, rfl⟩ := h
    cases vs with
    | nil => exact ⟨trivial, Told.nil⟩
    | cons _ _ => exact k.elim
  | [], j, _ :: _, x, src, vs, h, k, hl => by simp [decCells] at h
  | _ :: _, j, [], x, src, vs, h, k, hl => by simp [decCells] at h
  | c :: r, j, d :: ds, x, src, v :: vs, h, k, hl => by
    simp only [decCells, Option.bind_eq_some_iff] at h
    obtain ⟨⟨y, s1⟩, h1, ⟨z, s2⟩, h2, h3⟩ := h
    simp only [Option.some.injEq, Prod.mk.injEq] at h3
    obtain ⟨rfl, rfl⟩ := h3
    obtain ⟨l1, l2⟩ := hl.append
    obtain ⟨r1, t1⟩ := decCell_told ok h1 k.1 l1
    obtain ⟨r2, t2⟩ := decCells_told ok h2 k.2 l2
    exact ⟨⟨r1, r2⟩, t1.append t2⟩
  | _ :: _, _, _ :: _, _, _, [], _, k, _ => k.elim
theorem decL_told (ok : OK B base m e w bx) {t : Nat} {L : L} {d : D} {x : L.T} {src : List (Nat × Src)} {v : Value} (h : decL bx t L d = some (x, src)) (hd : Rd m e d v) (hl : Laid e e' src) :
    Rd m e' (encL t L x).1 v ∧ Told base m e' w bx (encL t L x).2 src := by
  cases L with
  | sh u =>
    simp only [decL, Option.map_eq_some_iff, Prod.mk.injEq] at h
    obtain ⟨y, hy, rfl, rfl⟩ := h
    exact ⟨.of2 (encV_rd (decV_rd hy (thaw_rd ok (fun _ _ h => h) hd))), Told.nil⟩
  | vec row fz =>
    have hd1 : Rd1 m e d v := by
      cases d <;> first | exact hd | (simp [decL, decCell] at h)
    obtain ⟨a, b⟩ := decCell_told (c := .inr (row, fz)) ok h hd1 hl
    exact ⟨.of1 a, b⟩
  | box l =>
    cases d <;> simp only [decL, reduceCtorEq] at h
    case loc k off =>
      split at h
      · rename_i hc
        simp only [Bool.and_eq_true, decide_eq_true_eq, beq_iff_eq] at hc
        obtain ⟨rfl, rfl⟩ := hc
        split at h
        · rename_i ds hk
          simp only [Option.map_eq_some_iff, Prod.mk.injEq] at h
          obtain ⟨⟨y, s⟩, hy, rfl, rfl⟩ := h
          have he : e' k = e k := hl (k, .old k) List.mem_cons_self
          have hb := ok.box k
          rw [hk] at hb
          obtain ⟨b, c, h1, h2, h3, h4, h5⟩ := hb
          obtain ⟨r1, t1⟩ := decCells_told ok hy h4 (fun p hp => hl p (List.mem_cons_of_mem _ hp))
          obtain ⟨b', hb', hv⟩ := hd
          refine ⟨⟨b', he.trans hb', hv⟩, ⟨by simp [encL, t1.keys], fun p hp => ?_, fun p hp k' hk' => ?_⟩⟩
          · rcases List.mem_cons.1 hp with rfl | hp
            · exact ⟨b, c, he.trans h1, h2, h3, r1, h5⟩
            · exact t1.box p hp
          · rcases List.mem_cons.1 hp with rfl | hp
            · cases hk'; rw [hk]; rfl
            · exact t1.live p hp k' hk'
        · simp at h
      · simp at h
theorem decAllL_told (ok : OK B base m e w bx) {st : St} (hbx : st.bx = bx) {val : Nat → Value} (hd : ∀ t, Rd m e (st.sl t) (val t)) : ∀ {l : Live} {x : LiveT l} {src : List (Nat × Src)}, decAllL st l = some (x, src) → Laid e e' src →
    (∀ p ∈ encSlots l x, Rd m e' p.2 (val p.1)) ∧ Told base m e' w bx (encBoxes l x) src
  | [], x, src, h, hl => by
    simp only [decAllL, Option.some.injEq, Prod.mk.injEq] at h
    obtain ⟨_, rfl⟩ := h
    exact ⟨by simp [encSlots], Told.nil⟩
  | p :: r, x, src, h, hl => by
    simp only [decAllL, Option.bind_eq_some_iff] at h
    obtain ⟨⟨y, s1⟩, h1, ⟨z, s2⟩, h2, h3⟩ := h
    simp only [Option.some.injEq, Prod.mk.injEq] at h3
    obtain ⟨rfl, rfl⟩ := h3
    obtain ⟨l1, l2⟩ := hl.append
    rw [hbx] at h1
    obtain ⟨r1, t1⟩ := decL_told ok h1 (hd p.1) l1
    obtain ⟨r2, t2⟩ := decAllL_told ok hbx hd h2 l2
    refine ⟨fun q hq => ?_, t1.append t2⟩
    rcases List.mem_cons.1 hq with rfl | hq
    · exact r1
    · exact r2 q hq
theorem encSlots_keys : ∀ (l : Live) (x : LiveT l), (encSlots l x).map (·.1) = l.map (·.1)
  | [], _ => rfl
  | p :: r, x => by simp [encSlots, encSlots_keys r]

/-- The state that is laid anew stands as the old one did. -/
theorem live_inv {st : St} {a : Act} {l : Live} {x : LiveT l} (hi : Inv C B m0 w0 st a w) (h : decLive st l = some x) : Inv C B m0 w0 (encLive l x) a w := by
  obtain ⟨m, e, ok, h2, h3, h4, h5, h6, h7⟩ := hi
  obtain ⟨m1, hm1, hn1, ok1⟩ := OK.freezeL st.bx (vecsLive st l) ok (fun k b hk => .inl hk)
  simp only [decLive, Option.bind_eq_some_iff] at h
  obtain ⟨⟨y, src⟩, h8, h9⟩ := h
  obtain ⟨h10, h9⟩ := cond_some h9
  simp only [Option.some.injEq] at h9
  subst h9
  simp only [Bool.and_eq_true] at h10
  obtain ⟨⟨a1, a2⟩, a3⟩ := h10
  have n2 := apartL_nodup a2
  let e' : Env := fun k => (look none (src.map fun p => (p.1, some p.2)) k).bind (place e)
  have hkeys : (src.map fun p => (p.1, some p.2)).map (·.1) = src.map (·.1) := by simp
  have hl : Laid e e' src := fun p hp => by
    show (look none (src.map fun p => (p.1, some p.2)) p.1).bind (place e) = _
    rw [look_in (v := some p.2) (by rw [hkeys]; exact n2) (List.mem_map.2 ⟨p, hp, rfl⟩)]
    rfl
  obtain ⟨r1, t1⟩ := decAllL_told (val := fun t => a.tmps.getD t undef) ok1 (st := ⟨st.sl, puts (froze st.bx (vecsLive st l)) st.bx⟩) rfl (fun t => (h2 t).mono hm1 (.refl e)) h8 hl
  have hout : ∀ k, k ∉ src.map (·.1) → e' k = none := fun k hk => by
    show (look none (src.map fun p => (p.1, some p.2)) k).bind (place e) = _
    rw [look_out (by rw [hkeys]; exact hk)]; rfl
  have hsrc : ∀ k, k ∈ src.map (·.1) → ∃ s, (k, s) ∈ src ∧ e' k = place e s := fun k hk => by
    obtain ⟨p, hp, rfl⟩ := List.mem_map.1 hk
    exact ⟨p.2, hp, hl p hp⟩
  have hin : ∀ k, isLive ((encLive l y).bx k) = true → k ∈ src.map (·.1) := fun k hk => by
    rw [← t1.keys]
    by_cases hq : k ∈ (encBoxes l y).map (·.1)
    · exact hq
    · have : (encLive l y).bx k = none := look_out hq
      rw [this] at hk; simp [isLive] at hk
  refine ⟨m1, e', ⟨ok1.hB, ok1.agree, fun k => ?_, fun k k' p p' b q1 q2 q3 q4 q5 q6 => ?_, ok1.size⟩, fun t => ?_, h3, h4, h5.trans hm1, new_trans h6 hn1 hm1, h7⟩
  · by_cases hk : k ∈ (encBoxes l y).map (·.1)
    · exact t1.box _ (look_mem hk)
    · have : (encLive l y).bx k = none := look_out hk
      rw [this]
      exact hout k (by rw [← t1.keys]; exact hk)
  · obtain ⟨s, hs, es⟩ := hsrc k (hin k q3)
    obtain ⟨s', hs', es'⟩ := hsrc k' (hin k' q4)
    cases s with
    | nil n => rw [es] at q1; cases q1; cases q5
    | old k0 =>
      cases s' with
      | nil n => rw [es'] at q2; cases q2; cases q6
      | old k0' =>
        have := ok1.inj k0 k0' p p' b (es.symm.trans q1) (es'.symm.trans q2) (t1.live _ hs k0 rfl) (t1.live _ hs' k0' rfl) q5 q6
        subst this
        exact olds_one a1 hs hs'
  · by_cases hk : t ∈ (encSlots l y).map (·.1)
    · exact r1 _ (look_mem hk)
    · have : (encLive l y).sl t = .unk := look_out hk
      rw [this]; trivial
end
end Go.Proofs.YtaldfmbnfnagjaaDoor.E
