/- What makes memory: variables, slices, append. -/
import Derived.Test.YtaldfmbnfnagjaaDoorEvMem2
namespace Go.Proofs.YtaldfmbnfnagjaaDoor.E
open Go.RowKit (Below)
set_option linter.unusedVariables false
set_option linter.unusedSimpArgs false

/-- One block more. -/
structure Grows (w w' : World) (o : Obj) : Prop where
  heap : w'.heap = w.heap.push o
  os : w'.os = w.os
  tape : w'.tape = w.tape
  output : w'.output = w.output
theorem Grows.old {w w' : World} {o : Obj} (h : Grows w w' o) : ∀ b, b < w.heap.size → w'.heap[b]? = w.heap[b]? := fun b hb => by
  rw [h.heap, Array.getElem?_push, if_neg (Nat.ne_of_lt hb)]
theorem Grows.new {w w' : World} {o : Obj} (h : Grows w w' o) : w'.heap[w.heap.size]? = some o := by rw [h.heap]; simp
theorem Grows.size {w w' : World} {o : Obj} (h : Grows w w' o) : w'.heap.size = w.heap.size + 1 := by rw [h.heap]; simp
theorem Grows.below {w w' : World} {o : Obj} (h : Grows w w' o) {base : Nat} (hb : base ≤ w.heap.size) : Below base w w' :=
  ⟨h.os, h.tape, h.output, by rw [h.size]; omega, fun k hk => h.old k (by omega)⟩
theorem grows_alloc (w : World) (o : Obj) : Grows w (w.alloc o) o := ⟨rfl, rfl, rfl, rfl⟩
theorem grows_drew (w : World) (o : Obj) : Grows w (w.drew.alloc o) o := ⟨rfl, rfl, rfl, rfl⟩

section
variable {C : Ctx} {B : M} {base : Nat} {m : M} {e : Env} {w w' : World} {bx : Nat → Option Bx} {st : St}
theorem OK.noM (ok : OK B base m e w bx) {b : Nat} (hb : w.heap.size ≤ b) (o : Nat) : m b o = none := by
  cases h : m b o with
  | none => rfl
  | some v => have := agree_lt ok.agree h; omega
theorem OK.new_cells (ok : OK B base m e w bx) {k : Nat} (hk : bx k = none) {ds : List D} {cs : Array Value} {ty : TypeId} (h : All2 (Rd1 m e) ds cs.toList) (hw : Grows w w' (.cells cs ty (0, 0))) :
    OK B base m (upd e k (some (.cell w.heap.size))) w' (upd bx k (some (.cells ds))) ∧ Env.le e (upd e k (some (.cell w.heap.size))) := by
  have hek : e k = none := by have := ok.box k; rw [hk] at this; exact this
  have he : Env.le e (upd e k (some (.cell w.heap.size))) := fun k' p' h => by
    have : k' ≠ k := fun e => by rw [e, hek] at h; simp at h
    rw [upd_other _ _ this]; exact h
  exact ok.alloc hk hw.old (by rw [hw.size]; omega) (fun b hb => by cases hb; exact Nat.le_refl _)
    ⟨_, cs, upd_same _ _ _, ok.size, ⟨ty, hw.new⟩, h.mono fun _ _ => Rd1.mono (.refl m) he, fun o => ok.noM (Nat.le_refl _) o⟩
theorem OK.new_vec (ok : OK B base m e w bx) {k : Nat} (hk : bx k = none) {row : Sh} {xs : List row.T} {cap : Nat} {cs : Array Value} {ty : TypeId} (hn : 0 < row.n) (hc : xs.length ≤ cap) (hs : cap * row.n ≤ cs.size)
    (h : RowAt cs 0 row.n (RdT m row) xs) (hw : Grows w w' (.cells cs ty (0, 0))) :
    OK B base m (upd e k (some (.vec (some w.heap.size) xs.length cap row.n))) w' (upd bx k (some (.vec row xs false))) ∧ Env.le e (upd e k (some (.vec (some w.heap.size) xs.length cap row.n))) := by
  have hek : e k = none := by have := ok.box k; rw [hk] at this; exact this
  exact ok.alloc hk hw.old (by rw [hw.size]; omega) (fun b hb => by cases hb; exact Nat.le_refl _)
    ⟨_, cap, upd_same _ _ _, hn, hc, .inr ⟨_, rfl, ok.size, cs, ⟨ty, hw.new⟩, hs, h, fun hf => by simp at hf, fun o _ => ok.noM (Nat.le_refl _) o⟩⟩
theorem OK.new_none (ok : OK B base m e w bx) {k : Nat} (hk : bx k = none) {row : Sh} (hn : 0 < row.n) {fz : Bool} :
    OK B base m (upd e k (some (.vec none 0 0 row.n))) w (upd bx k (some (.vec row [] fz))) ∧ Env.le e (upd e k (some (.vec none 0 0 row.n))) :=
  ok.alloc hk (fun _ _ => rfl) (Nat.le_refl _) (fun b hb => by cases hb) ⟨none, 0, upd_same _ _ _, hn, Nat.le_refl _, .inl ⟨rfl, rfl, rfl⟩⟩

theorem RdT.bare {m : M} : ∀ (s : Sh) (x : s.T) (vs : List Value), RdT m s x vs → ∀ u ∈ vs, bare u = true
  | .bool, _, _, k, u, hu => by rw [show _ = _ from k] at hu; simp at hu; subst hu; rfl
  | .int _, _, _, k, u, hu => by rw [show _ = _ from k] at hu; simp at hu; subst hu; rfl
  | .str, _, _, k, u, hu => by rw [show _ = _ from k] at hu; simp at hu; subst hu; rfl
  | .unit, _, _, k, u, hu => by rw [show _ = _ from k] at hu; simp at hu
  | .pair a b, x, _, ⟨p, q, e, ka, kb⟩, u, hu => by
    rw [e] at hu
    rcases List.mem_append.1 hu with hu | hu
    · exact RdT.bare a x.1 p ka u hu
    · exact RdT.bare b x.2 q kb u hu
  | .sl row, xs, _, ⟨v, e, a, cap, hv, _⟩, u, hu => by rw [e] at hu; simp at hu; subst hu; subst hv; rfl

/-- Elements, cell by cell. -/
def Flat (m : M) (row : Sh) (ys : List row.T) (news : List Value) : Prop :=
  news.length = ys.length * row.n ∧ (∀ i y, ys[i]? = some y → ∃ vs : List Value, vs.length = row.n ∧ RdT m row y vs ∧ ∀ j u, vs[j]? = some u → news[i * row.n + j]? = some u)
theorem idx_lt {α : Type} {l : List α} {i : Nat} {x : α} (h : l[i]? = some x) : i < l.length := by
  rcases Nat.lt_or_ge i l.length with h' | h'
  · exact h'
  · rw [List.getElem?_eq_none h'] at h; simp at h
theorem Flat.bare {row : Sh} {ys : List row.T} {news : List Value} (h : Flat m row ys news) : ∀ u ∈ news, E.bare u = true := by
  obtain ⟨hl, h⟩ := h
  intro u hu
  obtain ⟨q, hq⟩ := List.getElem?_of_mem hu
  have hlt := idx_lt hq
  by_cases hn : row.n = 0
  · rw [hl, hn] at hlt; omega
  · have hqi : q / row.n < ys.length := by
      rw [hl] at hlt
      exact Nat.div_lt_of_lt_mul (by rwa [Nat.mul_comm])
    obtain ⟨vs, h1, h2, h3⟩ := h (q / row.n) ys[q / row.n] (List.getElem?_eq_getElem hqi)
    have hj : q % row.n < vs.length := by rw [h1]; exact Nat.mod_lt _ (by omega)
    have := h3 (q % row.n) vs[q % row.n] (List.getElem?_eq_getElem hj)
    rw [Nat.mul_comm, Nat.div_add_mod] at this
    rw [hq] at this
    cases this
    exact RdT.bare row _ vs h2 _ (List.getElem_mem hj)
theorem Flat.nil {row : Sh} : Flat m row [] [] := ⟨by simp, fun i y h => by simp at h⟩
theorem Flat.append {row : Sh} {xs ys : List row.T} {as bs : List Value} (h : Flat m row xs as) (k : Flat m row ys bs) : Flat m row (xs ++ ys) (as ++ bs) := by
  obtain ⟨h1, h2⟩ := h
  obtain ⟨k1, k2⟩ := k
  refine ⟨by rw [List.length_append, h1, k1, List.length_append, Nat.add_mul], fun i y hy => ?_⟩
  by_cases hi : i < xs.length
  · rw [List.getElem?_append_left hi] at hy
    obtain ⟨vs, a, b, c⟩ := h2 i y hy
    refine ⟨vs, a, b, fun j u hu => ?_⟩
    have hc := c j u hu
    rw [List.getElem?_append_left (idx_lt hc)]; exact hc
  · rw [List.getElem?_append_right (by omega)] at hy
    obtain ⟨vs, a, b, c⟩ := k2 _ y hy
    refine ⟨vs, a, b, fun j u hu => ?_⟩
    have hc := c j u hu
    have e : i * row.n + j = as.length + ((i - xs.length) * row.n + j) := by
      rw [h1]
      have : i = xs.length + (i - xs.length) := by omega
      conv => lhs; rw [this, Nat.add_mul]
      omega
    rw [e, List.getElem?_append_right (by omega)]
    rw [← hc]; congr 1; omega
theorem Flat.rowAt {row : Sh} {ys : List row.T} {news rest : List Value} (h : Flat m row ys news) : RowAt (news ++ rest).toArray 0 row.n (RdT m row) ys := fun i y hy => by
  obtain ⟨vs, a, b, c⟩ := h.2 i y hy
  refine ⟨vs, a, b, fun j u hu => ?_⟩
  have hc := c j u hu
  rw [List.getElem?_toArray, Nat.zero_add, List.getElem?_append_left (idx_lt hc)]; exact hc
/-- The cells of a row, as a list. -/
theorem flat_of {row : Sh} {xs : List row.T} {f : Nat → Option Value} (hf : ∀ i x, xs[i]? = some x → ∃ vs : List Value, vs.length = row.n ∧ RdT m row x vs ∧ ∀ j u, vs[j]? = some u → f (i * row.n + j) = some u) :
    ∃ news, Flat m row xs news ∧ ∀ q u, news[q]? = some u → f q = some u := by
  refine ⟨(List.range (xs.length * row.n)).map fun q => (f q).getD undef, ⟨by simp, fun i x hx => ?_⟩, fun q u hu => ?_⟩
  · obtain ⟨vs, a, b, c⟩ := hf i x hx
    refine ⟨vs, a, b, fun j u hu => ?_⟩
    have hc := c j u hu
    have hi := idx_lt hx
    have hj := idx_lt hu
    have : i * row.n + j < xs.length * row.n := by
      have : (i + 1) * row.n ≤ xs.length * row.n := Nat.mul_le_mul_right _ hi
      rw [Nat.add_mul] at this; omega
    simp [this, hc]
  · have hlt := idx_lt hu
    simp only [List.length_map, List.length_range] at hlt
    by_cases hn : row.n = 0
    · rw [hn] at hlt; omega
    · have hqi : q / row.n < xs.length := Nat.div_lt_of_lt_mul (by rwa [Nat.mul_comm])
      obtain ⟨vs, h1, h2, h3⟩ := hf (q / row.n) xs[q / row.n] (List.getElem?_eq_getElem hqi)
      have hj : q % row.n < vs.length := by rw [h1]; exact Nat.mod_lt _ (by omega)
      have := h3 (q % row.n) vs[q % row.n] (List.getElem?_eq_getElem hj)
      rw [Nat.mul_comm, Nat.div_add_mod] at this
      rw [List.getElem?_map] at hu
      simp [hlt, this] at hu
      rw [this, hu]
theorem OK.cell_same (hw : ∀ b, b < w.heap.size → w'.heap[b]? = w.heap[b]?) {b o : Nat} {u : Value} (h : w.cell? ⟨b, o, none⟩ = some u) : w'.cell? ⟨b, o, none⟩ = some u := by
  have hb : b < w.heap.size := by
    unfold World.cell? at h
    split at h
    · rename_i hh; exact (Array.getElem?_eq_some_iff.1 hh).1
    · simp at h
  rw [← h]; exact World.cell?_of_block (hw b hb)

/-- One block more, which stays as it is. -/
theorem OK.fixed (ok : OK B base m e w bx) {f : Nat → Option Value} (hw : ∀ b, b < w.heap.size → w'.heap[b]? = w.heap[b]?) (hs : w.heap.size ≤ w'.heap.size) (hf : ∀ o u, f o = some u → w'.cell? ⟨w.heap.size, o, none⟩ = some u) :
    ∃ m', M.le m m' ∧ (∀ b o u, m' b o = some u → m b o = none → base ≤ b) ∧ OK B base m' e w' bx ∧ ∀ o u, f o = some u → m' w.heap.size o = some u := by
  let m' : M := fun b o => if b = w.heap.size then f o else m b o
  have hm : M.le m m' := fun b o v h => by
    show (if b = w.heap.size then f o else m b o) = some v
    rw [if_neg]; exact h
    rintro rfl; rw [ok.noM (Nat.le_refl _)] at h; simp at h
  have hag : ∀ b o v, m' b o = some v → w'.cell? ⟨b, o, none⟩ = some v := fun b o v h => by
    have h : (if b = w.heap.size then f o else m b o) = some v := h
    split at h
    · rename_i hb; rw [hb]; exact hf o v h
    · exact OK.cell_same hw (ok.agree _ _ _ h)
  refine ⟨m', hm, fun b o u h h' => ?_, ⟨ok.hB.trans hm, hag, fun k => (ok.box k).mono hm (.refl e) (fun hn => by have := ok.box k; rw [hn] at this; exact this) fun p b hl hp hb => ?_, ok.inj, Nat.le_trans ok.size hs⟩, fun o u h => ?_⟩
  · have h : (if b = w.heap.size then f o else m b o) = some u := h
    split at h
    · rename_i hb; rw [hb]; exact ok.size
    · rw [h'] at h; simp at h
  · have hlt := ((ok.box k).lt hl hp hb).1
    refine ⟨hw b hlt, fun o ho => ?_⟩
    show (if b = w.heap.size then f o else m b o) = none
    rw [if_neg (by omega)]; exact ho
  · show (if w.heap.size = w.heap.size then f o else m _ o) = some u
    rw [if_pos rfl]; exact h

/-- What a slice (or a text's bytes) that is appended has. -/
theorem more_sound (ok : OK B base m e w bx) {row : Sh} {d : D} {v : Value} {ys : List row.T} (h : moreD row d = some ys) (hd : Rd m e d v) :
    ∃ news, Flat m row ys news ∧ ∀ w' : World, (∀ b, b < w.heap.size → w'.heap[b]? = w.heap[b]?) →
      (Builtin.lenOf v).run C.P w' = .ok ys.length w' ∧ (Builtin.firstCells row.n ys.length v).run C.P w' = .ok news.toArray w' := by
  cases d <;> simp only [moreD, reduceCtorEq] at h
  case nil =>
    simp only [Option.some.injEq] at h; subst h
    rw [show v = _ from hd]
    exact ⟨[], Flat.nil, fun w' _ => ⟨rfl, rfl⟩⟩
  case sl row' xs =>
    split at h
    · rename_i hr
      subst hr
      simp only [castT_rfl, Option.some.injEq] at h; subst h
      obtain ⟨a, cap, rfl, hc, k⟩ := hd
      rcases k with rfl | ⟨b, o, rfl, k⟩
      · refine ⟨[], Flat.nil, fun w' _ => ⟨rfl, ?_⟩⟩
        cases a <;> simp [Builtin.firstCells, loadCells, loadCellsFrom]
      · obtain ⟨news, hfl, hcell⟩ := flat_of (m := m) (xs := xs) (f := fun q => m b (o + q)) (fun i x hx => by
          obtain ⟨vs, h1, h2, h3⟩ := k i x hx
          exact ⟨vs, h1, h2, fun j u hu => by have := h3 j u hu; rwa [Nat.add_assoc] at this⟩)
        refine ⟨news, hfl, fun w' hw => ⟨rfl, ?_⟩⟩
        exact run_firstCells_some w' row'.n xs.length ⟨b, o, none⟩ _ _ news hfl.1 fun j u hj => by
          rw [addr_add]
          exact OK.cell_same hw (ok.agree _ _ _ (hcell j u hj))
    · simp at h
  case str s =>
    split at h
    · rename_i hr
      subst hr
      simp only [castT_rfl, Option.some.injEq] at h; subst h
      rw [show v = _ from hd]
      refine ⟨s.data.toList.map fun c => .int .u8 c.toNat, ⟨by simp [Sh.n], fun i y hy => ?_⟩, fun w' _ => ⟨?_, ?_⟩⟩
      · simp only [List.getElem?_map, Option.map_eq_some_iff] at hy
        obtain ⟨c, hc, rfl⟩ := hy
        refine ⟨[.int .u8 c.toNat], rfl, rfl, fun j u hu => ?_⟩
        cases j with
        | zero => simp at hu; subst hu; simp [Sh.n, hc]
        | succ j => simp at hu
      · simp [Builtin.lenOf]
      · simp only [Builtin.firstCells, Sem.run_pure, List.length_map, Array.length_toList]
        congr 1
        apply Array.ext'
        have : s.extract 0 s.data.size = s := by
          have := ByteArray.extract_zero_size (b := s)
          exact this
        rw [this]; simp
    · simp at h
end
end Go.Proofs.YtaldfmbnfnagjaaDoor.E
