/- How plain data and the model's memory hang together: the relation, and what keeps it. -/
import Derived.Test.YtaldfmbnfnagjaaDoorEvDef
import Derived.Below
namespace Go.Proofs.YtaldfmbnfnagjaaDoor.E
open Go.RowKit (Below)
set_option linter.unusedVariables false

/-! ### Two lists, one by one -/
def All2 {α β : Type} (R : α → β → Prop) : List α → List β → Prop
  | [], [] => True
  | a :: l, b :: k => R a b ∧ All2 R l k
  | _, _ => False
section
variable {α β : Type} {R : α → β → Prop}
theorem All2.length : ∀ {l : List α} {k : List β}, All2 R l k → l.length = k.length
  | [], [], _ => rfl
  | _ :: _, _ :: _, h => by simp [All2.length h.2]
  | [], _ :: _, h => h.elim
  | _ :: _, [], h => h.elim
theorem All2.mono {S : α → β → Prop} (hs : ∀ a b, R a b → S a b) : ∀ {l : List α} {k : List β}, All2 R l k → All2 S l k
  | [], [], _ => trivial
  | _ :: _, _ :: _, h => ⟨hs _ _ h.1, All2.mono hs h.2⟩
  | [], _ :: _, h => h.elim
  | _ :: _, [], h => h.elim
theorem All2.append : ∀ {l l' : List α} {k k' : List β}, All2 R l k → All2 R l' k' → All2 R (l ++ l') (k ++ k')
  | [], _, [], _, _, h' => h'
  | _ :: _, _, _ :: _, _, h, h' => ⟨h.1, All2.append h.2 h'⟩
  | [], _, _ :: _, _, h, _ => h.elim
  | _ :: _, _, [], _, h, _ => h.elim
theorem All2.get : ∀ {l : List α} {k : List β} (i : Nat) (a : α), All2 R l k → l[i]? = some a → ∃ b, k[i]? = some b ∧ R a b
  | x :: l, y :: k, 0, a, h, e => by simp at e; subst e; exact ⟨y, rfl, h.1⟩
  | x :: l, y :: k, i + 1, a, h, e => by simp at e; obtain ⟨b, hb, r⟩ := All2.get i a h.2 e; exact ⟨b, by simpa using hb, r⟩
  | [], [], i, a, _, e => by simp at e
  | [], _ :: _, _, _, h, _ => h.elim
  | _ :: _, [], _, _, h, _ => h.elim
theorem All2.take : ∀ (n : Nat) {l : List α} {k : List β}, All2 R l k → All2 R (l.take n) (k.take n)
  | 0, _, _, _ => by simp [All2]
  | n + 1, [], [], _ => by simp [All2]
  | n + 1, _ :: _, _ :: _, h => by simp only [List.take_succ_cons]; exact ⟨h.1, All2.take n h.2⟩
  | _ + 1, [], _ :: _, h => h.elim
  | _ + 1, _ :: _, [], h => h.elim
theorem All2.drop : ∀ (n : Nat) {l : List α} {k : List β}, All2 R l k → All2 R (l.drop n) (k.drop n)
  | 0, _, _, h => by simpa using h
  | n + 1, [], [], _ => by simp [All2]
  | n + 1, _ :: _, _ :: _, h => by simp only [List.drop_succ_cons]; exact All2.drop n h.2
  | _ + 1, [], _ :: _, h => h.elim
  | _ + 1, _ :: _, [], h => h.elim
end

/-! ### Data in memory that stays -/
abbrev M := Nat → Nat → Option Value
def M.le (m m' : M) : Prop := ∀ b o v, m b o = some v → m' b o = some v
theorem M.le.refl (m : M) : M.le m m := fun _ _ _ h => h
theorem M.le.trans {a b c : M} (h : M.le a b) (k : M.le b c) : M.le a c := fun _ _ _ x => k _ _ _ (h _ _ _ x)

def At {α : Type} (m : M) (b o n : Nat) (R : α → List Value → Prop) (xs : List α) : Prop :=
  ∀ i x, xs[i]? = some x → ∃ vs : List Value, vs.length = n ∧ R x vs ∧ ∀ j u, vs[j]? = some u → m b (o + i * n + j) = some u
def SlR {α : Type} (m : M) (n : Nat) (R : α → List Value → Prop) (xs : List α) (v : Value) : Prop :=
  ∃ (a : Option Addr) (cap : Nat), v = .slice a xs.length cap ∧ xs.length ≤ cap ∧ (xs = [] ∨ ∃ b o, a = some ⟨b, o, none⟩ ∧ At m b o n R xs)
/-- The cells of a shape's data. -/
def RdT (m : M) : (s : Sh) → s.T → List Value → Prop
  | .bool, b, vs => vs = [.bool b]
  | .int k, n, vs => vs = [.int k n]
  | .str, s, vs => vs = [.string s]
  | .unit, _, vs => vs = []
  | .pair a b, x, vs => ∃ u v, vs = u ++ v ∧ RdT m a x.1 u ∧ RdT m b x.2 v
  | .sl row, xs, vs => ∃ v, vs = [v] ∧ SlR m row.n (RdT m row) xs v

theorem At.mono {α : Type} {m m' : M} {b o n : Nat} {R S : α → List Value → Prop} {xs : List α} (h : M.le m m') (hr : ∀ x vs, R x vs → S x vs) (k : At m b o n R xs) : At m' b o n S xs :=
  fun i x hx => let ⟨vs, h1, h2, h3⟩ := k i x hx; ⟨vs, h1, hr _ _ h2, fun j u hu => h _ _ _ (h3 j u hu)⟩
theorem SlR.mono {α : Type} {m m' : M} {n : Nat} {R S : α → List Value → Prop} {xs : List α} {v : Value} (h : M.le m m') (hr : ∀ x vs, R x vs → S x vs) (k : SlR m n R xs v) : SlR m' n S xs v := by
  obtain ⟨a, cap, hv, hc, k⟩ := k
  refine ⟨a, cap, hv, hc, ?_⟩
  rcases k with k | ⟨b, o, ha, k⟩
  · exact .inl k
  · exact .inr ⟨b, o, ha, k.mono h hr⟩
theorem RdT.mono {m m' : M} (h : M.le m m') : ∀ (s : Sh) (x : s.T) (vs : List Value), RdT m s x vs → RdT m' s x vs
  | .bool, _, _, k => k
  | .int _, _, _, k => k
  | .str, _, _, k => k
  | .unit, _, _, k => k
  | .pair a b, x, _, ⟨u, v, e, ka, kb⟩ => ⟨u, v, e, RdT.mono h a x.1 u ka, RdT.mono h b x.2 v kb⟩
  | .sl row, xs, _, ⟨v, e, k⟩ => ⟨v, e, k.mono h (RdT.mono h row)⟩
theorem RdT.length {m : M} : ∀ (s : Sh) (x : s.T) (vs : List Value), RdT m s x vs → vs.length = s.n
  | .bool, _, _, k => by rw [show _ = _ from k]; rfl
  | .int _, _, _, k => by rw [show _ = _ from k]; rfl
  | .str, _, _, k => by rw [show _ = _ from k]; rfl
  | .unit, _, _, k => by rw [show _ = _ from k]; rfl
  | .pair a b, x, _, ⟨u, v, e, ka, kb⟩ => by rw [e, List.length_append, RdT.length a x.1 u ka, RdT.length b x.2 v kb]; rfl
  | .sl row, xs, _, ⟨v, e, k⟩ => by rw [e]; rfl

/-! ### A frame's own places -/
inductive Pl where | cell (b : Nat) | vec (a : Option Nat) (len cap n : Nat)
abbrev Env := Nat → Option Pl
def Pl.blk : Pl → Option Nat | .cell b => some b | .vec a _ _ _ => a
def Env.le (e e' : Env) : Prop := ∀ k p, e k = some p → e' k = some p
theorem Env.le.refl (e : Env) : Env.le e e := fun _ _ h => h
theorem Env.le.trans {a b c : Env} (h : Env.le a b) (k : Env.le b c) : Env.le a c := fun _ _ x => k _ _ (h _ _ x)
def adr (a : Option Nat) : Option Addr := a.map fun b => ⟨b, 0, none⟩

def Rd1 (m : M) (e : Env) : D → Value → Prop
  | .bool b, v => v = .bool b
  | .int k n, v => v = .int k n
  | .str s, v => v = .string s
  | .nil, v => v = .slice none 0 0
  | .sl row xs, v => SlR m row.n (RdT m row) xs v
  | .ep row x off, v => ∃ b o vs, v = .pointer (some ⟨b, o + off, none⟩) ∧ RdT m row x vs ∧ ∀ j u, vs[j]? = some u → m b (o + j) = some u
  | .loc k off, v => ∃ b, e k = some (.cell b) ∧ v = .pointer (some ⟨b, off, none⟩)
  | .vec k, v => ∃ a len cap n, e k = some (.vec a len cap n) ∧ v = .slice (adr a) len cap
  | .vel k i off, v => ∃ b len cap n, e k = some (.vec (some b) len cap n) ∧ v = .pointer (some ⟨b, i * n + off, none⟩)
  | .glob g, v => v = .pointer (some ⟨g, 0, none⟩)
  | .fn f, v => v = .func (.func f) #[] #[]
  | .val x, v => v = x
  | .unk, _ => True
  | .agg _, _ => False
  | .tup _, _ => False
def Rd2 (m : M) (e : Env) : D → Value → Prop
  | .agg ds, v => ∃ vs : List Value, v = .agg vs.toArray ∧ All2 (Rd1 m e) ds vs
  | d, v => Rd1 m e d v
def Rd (m : M) (e : Env) : D → Value → Prop
  | .tup ds, v => ∃ vs : List Value, v = .tuple vs.toArray ∧ All2 (Rd2 m e) ds vs
  | d, v => Rd2 m e d v

section
variable {m m' : M} {e e' : Env} (hm : M.le m m') (he : Env.le e e')
include hm he
theorem Rd1.mono {d : D} {v : Value} (h : Rd1 m e d v) : Rd1 m' e' d v := by
  cases d <;> simp only [Rd1] at h ⊢ <;> try exact h
  · exact h.mono hm (RdT.mono hm _)
  · obtain ⟨b, o, vs, h1, h2, h3⟩ := h; exact ⟨b, o, vs, h1, h2.mono hm, fun j u hu => hm _ _ _ (h3 j u hu)⟩
  · obtain ⟨b, h1, h2⟩ := h; exact ⟨b, he _ _ h1, h2⟩
  · obtain ⟨a, len, cap, n, h1, h2⟩ := h; exact ⟨a, len, cap, n, he _ _ h1, h2⟩
  · obtain ⟨b, len, cap, n, h1, h2⟩ := h; exact ⟨b, len, cap, n, he _ _ h1, h2⟩
theorem Rd2.mono {d : D} {v : Value} (h : Rd2 m e d v) : Rd2 m' e' d v := by
  cases d <;> simp only [Rd2] at h ⊢ <;> first
    | exact Rd1.mono hm he h
    | (obtain ⟨vs, h1, h2⟩ := h; exact ⟨vs, h1, h2.mono fun _ _ => Rd1.mono hm he⟩)
theorem Rd.mono {d : D} {v : Value} (h : Rd m e d v) : Rd m' e' d v := by
  cases d <;> simp only [Rd] at h ⊢ <;> first
    | exact Rd2.mono hm he h
    | (obtain ⟨vs, h1, h2⟩ := h; exact ⟨vs, h1, h2.mono fun _ _ => Rd2.mono hm he⟩)
end

theorem Rd1.bare {m : M} {e : Env} {d : D} {v : Value} (h : Rd1 m e d v) (hd : d.solid = true) : bare v = true := by
  cases d <;> simp only [Rd1, D.solid] at h hd <;> (try simp at hd) <;> (try subst h) <;> (try rfl) <;> (try exact hd)
  · obtain ⟨_, _, rfl, _⟩ := h; rfl
  · obtain ⟨_, _, _, rfl, _⟩ := h; rfl
  · obtain ⟨_, _, rfl⟩ := h; rfl
  · obtain ⟨_, _, _, _, _, rfl⟩ := h; rfl
  · obtain ⟨_, _, _, _, _, rfl⟩ := h; rfl
theorem cells_bare {v : Value} (h : bare v = true) : v.cells = #[v] := by
  cases v <;> simp_all [bare, Value.cells]
theorem Rd.leaves {m : M} {e : Env} {d : D} {v : Value} (h : Rd m e d v) (hd : d.okv = true) : All2 (Rd1 m e) d.leaves v.cells.toList := by
  have leaf : ∀ d : D, d.solid = true → d.leaves = [d] → Rd1 m e d v → All2 (Rd1 m e) d.leaves v.cells.toList := by
    intro d hs hl hr
    rw [hl, cells_bare (hr.bare hs)]
    exact ⟨hr, trivial⟩
  cases d <;> simp only [Rd, Rd2, D.okv] at h hd <;> first
    | exact leaf _ hd rfl h
    | (obtain ⟨vs, rfl, h2⟩ := h; simpa [D.leaves, Value.cells] using h2)
    | simp [D.solid] at hd

theorem Rd2.of1 {m : M} {e : Env} {d : D} {v : Value} (h : Rd1 m e d v) : Rd2 m e d v := by
  cases d <;> simp only [Rd2] <;> first | exact h | exact h.elim
theorem Rd.of2 {m : M} {e : Env} {d : D} {v : Value} (h : Rd2 m e d v) : Rd m e d v := by
  cases d <;> simp only [Rd] <;> first | exact h | exact h.elim
theorem Rd.of1 {m : M} {e : Env} {d : D} {v : Value} (h : Rd1 m e d v) : Rd m e d v := .of2 (.of1 h)
theorem leafOf_rd (m : M) (e : Env) (v : Value) : Rd1 m e (leafOf v) v := by
  unfold leafOf
  split <;> (try exact rfl) <;> (try trivial)
  split
  · rename_i h
    simp only [Bool.and_eq_true, Array.isEmpty_iff] at h
    obtain ⟨rfl, rfl⟩ := h
    rfl
  · trivial
theorem leafOf_all (m : M) (e : Env) : ∀ l : List Value, All2 (Rd1 m e) (l.map leafOf) l
  | [] => trivial
  | v :: l => ⟨leafOf_rd m e v, leafOf_all m e l⟩
theorem ofVal_rd (m : M) (e : Env) (v : Value) : Rd m e (ofVal v) v := by
  unfold ofVal
  split
  · exact ⟨_, by simp, leafOf_all m e _⟩
  · exact .of1 (leafOf_rd m e _)

/-! ### What the boxes hold -/
def Has (w : World) (b : Nat) (c : Array Value) : Prop := ∃ ty, w.heap[b]? = some (.cells c ty (0, 0))
def RowAt {α : Type} (c : Array Value) (o n : Nat) (R : α → List Value → Prop) (xs : List α) : Prop :=
  ∀ i x, xs[i]? = some x → ∃ vs : List Value, vs.length = n ∧ R x vs ∧ ∀ j u, vs[j]? = some u → c[o + i * n + j]? = some u
def BxR (base : Nat) (m : M) (e : Env) (w : World) (k : Nat) : Option Bx → Prop
  | none => e k = none
  | some .dead => True
  | some (.cells ds) => ∃ b c, e k = some (.cell b) ∧ base ≤ b ∧ Has w b c ∧ All2 (Rd1 m e) ds c.toList ∧ ∀ o, m b o = none
  | some (.vec row xs fz) => ∃ a cap, e k = some (.vec a xs.length cap row.n) ∧ 0 < row.n ∧ xs.length ≤ cap ∧
      ((a = none ∧ xs = [] ∧ cap = 0) ∨ ∃ b, a = some b ∧ base ≤ b ∧ ∃ c, Has w b c ∧ cap * row.n ≤ c.size ∧ RowAt c 0 row.n (RdT m row) xs ∧
        (fz = true → At m b 0 row.n (RdT m row) xs) ∧ ∀ o', (fz = false ∨ xs.length * row.n ≤ o') → m b o' = none)
def isLive : Option Bx → Bool | some .dead => false | none => false | _ => true

structure OK (B : M) (base : Nat) (m : M) (e : Env) (w : World) (bx : Nat → Option Bx) : Prop where
  hB : M.le B m
  agree : ∀ b o v, m b o = some v → w.cell? ⟨b, o, none⟩ = some v
  box : ∀ k, BxR base m e w k (bx k)
  inj : ∀ k k' p p' b, e k = some p → e k' = some p' → isLive (bx k) = true → isLive (bx k') = true → p.blk = some b → p'.blk = some b → k = k'
  size : base ≤ w.heap.size

theorem RowAt.mono {α : Type} {c : Array Value} {o n : Nat} {R S : α → List Value → Prop} {xs : List α} (hr : ∀ x vs, R x vs → S x vs) (k : RowAt c o n R xs) : RowAt c o n S xs :=
  fun i x hx => let ⟨vs, h1, h2, h3⟩ := k i x hx; ⟨vs, h1, hr _ _ h2, h3⟩
theorem Has.lt {w : World} {b : Nat} {c : Array Value} (h : Has w b c) : b < w.heap.size := by
  obtain ⟨ty, h⟩ := h
  exact (Array.getElem?_eq_some_iff.1 h).1
theorem Has.cell {w : World} {b : Nat} {c : Array Value} (h : Has w b c) (o : Nat) : w.cell? ⟨b, o, none⟩ = c[o]? := by
  obtain ⟨ty, h⟩ := h
  simp [World.cell?, h]
theorem Has.frozen {w : World} {b : Nat} {c : Array Value} (h : Has w b c) (o : Nat) (s : Option Nat) : w.frozen? ⟨b, o, s⟩ = false := by
  obtain ⟨ty, h⟩ := h
  simp [World.frozen?, h]
theorem Has.same {w w' : World} {b : Nat} {c : Array Value} (h : Has w b c) (hw : w'.heap[b]? = w.heap[b]?) : Has w' b c := by
  obtain ⟨ty, h⟩ := h; exact ⟨ty, hw.trans h⟩
theorem agree_lt {m : M} {w : World} (h : ∀ b o v, m b o = some v → w.cell? ⟨b, o, none⟩ = some v) {b o : Nat} {v : Value} (hv : m b o = some v) : b < w.heap.size := by
  have := h b o v hv
  unfold World.cell? at this
  split at this
  · rename_i hh; exact (Array.getElem?_eq_some_iff.1 hh).1
  · simp at this

/-- A box whose block is as it was. -/
theorem BxR.mono {base : Nat} {m m' : M} {e e' : Env} {w w' : World} {k : Nat} {x : Option Bx} (h : BxR base m e w k x)
    (hm : M.le m m') (he : Env.le e e') (hn : x = none → e' k = none)
    (hb : ∀ p b, isLive x = true → e k = some p → p.blk = some b → w'.heap[b]? = w.heap[b]? ∧ ∀ o, m b o = none → m' b o = none) : BxR base m' e' w' k x := by
  match x, h with
  | none, h => exact hn rfl
  | some .dead, _ => trivial
  | some (.cells ds), ⟨b, c, h1, h2, h3, h4, h5⟩ =>
    obtain ⟨hw, hmm⟩ := hb _ b rfl h1 rfl
    exact ⟨b, c, he _ _ h1, h2, h3.same hw, h4.mono fun _ _ => Rd1.mono hm he, fun o => hmm o (h5 o)⟩
  | some (.vec row xs fz), ⟨a, cap, h1, h2, h3, h4⟩ =>
    refine ⟨a, cap, he _ _ h1, h2, h3, ?_⟩
    rcases h4 with h4 | ⟨b, ha, h4, c, h5, h6, h7, h8, h9⟩
    · exact .inl h4
    · subst ha
      obtain ⟨hw, hmm⟩ := hb _ b rfl h1 rfl
      exact .inr ⟨b, rfl, h4, c, h5.same hw, h6, h7.mono (RdT.mono hm row), fun hf => (h8 hf).mono hm (RdT.mono hm row), fun o' ho => hmm o' (h9 o' ho)⟩
end Go.Proofs.YtaldfmbnfnagjaaDoor.E
