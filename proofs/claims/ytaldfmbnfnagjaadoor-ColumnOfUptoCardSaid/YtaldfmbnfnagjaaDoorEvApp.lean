/- append. -/
import Derived.Test.YtaldfmbnfnagjaaDoorEvMk
namespace Go.Proofs.YtaldfmbnfnagjaaDoor.E
open Go.RowKit (Below)
set_option linter.unusedVariables false
set_option linter.unusedSimpArgs false
section
variable {C : Ctx} {B : M} {base : Nat} {m : M} {e : Env} {w w' : World} {bx : Nat → Option Bx} {st : St}

/-- A type of a slice or a text: no number. -/
def sliceish (C : Ctx) (u : TypeId) : Prop := (∃ e, C.P.underlying u = some (.slice e)) ∨ C.P.underlying u = some .string
theorem run_append_in {t u ty el : TypeId} (ht : C.P.underlying t = some (.slice el)) (hu : sliceish C u) (h0 : 0 < sz C el) {b n cap k : Nat} {x : Value} {news : List Value}
    (hl : (Builtin.lenOf x).run C.P w = .ok k w) (hf : (Builtin.firstCells (sz C el) k x).run C.P w = .ok news.toArray w) (hr : n + k ≤ cap) {c : Array Value} (hc : Has w b c)
    (hfit : n * sz C el + news.length ≤ c.size) (hb : ∀ v ∈ news, bare v = true) :
    (Builtin.append_ #[t, u] ty #[.slice (some ⟨b, 0, none⟩) n cap, x]).run C.P w =
      .ok (.slice (some ⟨b, 0, none⟩) (n + k) cap) (w.setRow b (c.toList.take (n * sz C el) ++ news ++ c.toList.drop (n * sz C el + news.length)).toArray) := by
  obtain ⟨cty, hc⟩ := hc
  have hst := run_storeCells_at C.P b (n * sz C el) cty news 0 c w hc (by simpa using hfit) (fun v hv => by rw [bare_one]; exact hb v hv)
  simp only [Nat.add_zero] at hst
  have hs := run_sz h0
  rcases hu with ⟨e', hu⟩ | hu <;>
    simp [Builtin.append_, run_und ht, run_und hu, hs, hl, hf, hr, addr_add, hst]
theorem run_append_none {t u ty el : TypeId} (ht : C.P.underlying t = some (.slice el)) (hu : sliceish C u) (h0 : 0 < sz C el) {k : Nat} {x : Value} {news : List Value}
    (hl : (Builtin.lenOf x).run C.P w = .ok k w) (hf : (Builtin.firstCells (sz C el) k x).run C.P w = .ok news.toArray w) (hk : k = 0) :
    (Builtin.append_ #[t, u] ty #[.slice none 0 0, x]).run C.P w = .ok (.slice none 0 0) w := by
  subst hk
  have hs := run_sz h0
  rcases hu with ⟨e', hu⟩ | hu <;>
    simp [Builtin.append_, run_und ht, run_und hu, hs, hl, hf]
theorem run_append_out {t u ty el : TypeId} (ht : C.P.underlying t = some (.slice el)) (hu : sliceish C u) (h0 : 0 < sz C el) {a : Option Addr} {n cap k : Nat} {x z : Value} {i : TypeInfo} {olds news : List Value}
    (hi : C.P.info? el = some i) (hz : i.zero = some z)
    (hl : ∀ w' : World, (∀ b, b < w.heap.size → w'.heap[b]? = w.heap[b]?) → (Builtin.lenOf x).run C.P w' = .ok k w' ∧ (Builtin.firstCells (sz C el) k x).run C.P w' = .ok news.toArray w')
    (ho : ∀ w' : World, (∀ b, b < w.heap.size → w'.heap[b]? = w.heap[b]?) → (Builtin.firstCells (sz C el) n (.slice a n cap)).run C.P w' = .ok olds.toArray w')
    (hr : cap < n + k) (h63 : n + k ≤ roomy) (hby : i.bytes ≤ 4096) :
    ∃ cap' rest w', n + k ≤ cap' ∧ rest = Builtin.zeroCells z.cells (cap' - (n + k)) ∧ Grows w w' (.cells (olds ++ (news ++ rest.toList)).toArray el (0, 0)) ∧
      (Builtin.append_ #[t, u] ty #[.slice a n cap, x]).run C.P w = .ok (.slice (some ⟨w.heap.size, 0, none⟩) (n + k) cap') w' := by
  have hs := run_sz h0
  unfold roomy at h63
  have hn : ¬ (n + k ≤ cap) := by omega
  have h63' : ¬ (9223372036854775807 < ((n : Int) + (k : Int))) := by omega
  have hbb : (n + k) * i.bytes ≤ 2 ^ 30 * 4096 := Nat.mul_le_mul h63 hby
  have h48 := growslice_fits (bytes := i.bytes) hr (by omega)
  have h48' : ¬ (281474976710656 < Builtin.nextslicecap (n + k) cap * i.bytes) := by omega
  obtain ⟨l1, f1⟩ := hl w (fun _ _ => rfl)
  obtain ⟨l2, f2⟩ := hl w.drew (fun _ _ => rfl)
  have o2 := ho w.drew (fun _ _ => rfl)
  refine ⟨grownCap w (n + k) cap el, _, w.drew.alloc (.cells (olds ++ (news ++ (Builtin.zeroCells z.cells (grownCap w (n + k) cap el - (n + k))).toList)).toArray el), grownCap_ge _ _ _ _, rfl, grows_drew _ _, ?_⟩
  rcases hu with ⟨e', hu⟩ | hu <;>
  · simp [Builtin.append_, run_und ht, run_und hu, hs, typeInfo, zeroValue, program, Sem.run, hi, hz, l1, hn, h63', h48', Question.forced, f2, o2, newRow, grownCap]
    congr 2
    apply Array.ext'
    simp

theorem rowOf_spec {t : TypeId} {row : Sh} (h : rowOf C t = some row) : ∃ el i z, C.P.underlying t = some (.slice el) ∧ C.P.info? el = some i ∧ i.zero = some z ∧ i.bytes ≤ 4096 ∧ 0 < sz C el ∧ row.n = sz C el ∧ z.cells.size = sz C el := by
  unfold rowOf at h
  split at h
  · rename_i el ht
    split at h
    · rename_i hc
      simp only [Bool.and_eq_true, Nat.ble_eq] at hc
      obtain ⟨⟨h1, h2⟩, h3⟩ := hc
      simp only [Option.bind_eq_some_iff] at h
      obtain ⟨s, hs, h⟩ := h
      split at h
      · rename_i hn
        simp only [Option.some.injEq] at h; subst h
        unfold zeroLen zeroD at h3
        cases hi : C.P.info? el with
        | none => simp [hi] at h3
        | some i =>
          cases hz : i.zero with
          | none => simp [hi, hz] at h3
          | some z => exact ⟨el, i, z, ht, hi, hz, by simpa [Program.bytesOf, hi] using h1, h2, hn, by simpa [hi, hz] using h3⟩
      · simp at h
    · simp at h
  · simp at h

/-- The cells of a growing row, as they lie. -/
theorem vec_flat {k : Nat} {row : Sh} {xs : List row.T} {b : Nat} {c : Array Value} (h : Has w b c) (hr : RowAt c 0 row.n (RdT m row) xs) :
    ∃ olds : List Value, Flat m row xs olds ∧ (∀ (q : Nat) (u : Value), olds[q]? = some u → c[q]? = some u) := by
  refine flat_of fun i x hx => ?_
  obtain ⟨vs, h1, h2, h3⟩ := hr i x hx
  exact ⟨vs, h1, h2, fun j u hu => by have := h3 j u hu; rwa [Nat.zero_add] at this⟩

/-- A row that goes on under another key, in the same block or in none. -/
theorem OK.move (ok : OK B base m e w bx) {k dst : Nat} {row : Sh} {xs : List row.T} {fz : Bool} (hk : bx k = some (.vec row xs fz)) (hd : bx dst = none) {a : Option Nat} {len cap n : Nat} (hp : e k = some (.vec a len cap n))
    {m' : M} {nb : Bx} {len' : Nat} (hm : M.le m m') (hag : ∀ b o v, m' b o = some v → w'.cell? ⟨b, o, none⟩ = some v)
    (hold : ∀ b, a ≠ some b → w'.heap[b]? = w.heap[b]? ∧ ∀ o, m b o = none → m' b o = none) (hs : base ≤ w'.heap.size)
    (hnew : BxR base m' (upd e dst (some (.vec a len' cap n))) w' dst (some nb)) :
    OK B base m' (upd e dst (some (.vec a len' cap n))) w' (upd (upd bx k (some .dead)) dst (some nb)) ∧ Env.le e (upd e dst (some (.vec a len' cap n))) := by
  have hek : e dst = none := by have := ok.box dst; rw [hd] at this; exact this
  have hne : dst ≠ k := fun h => by rw [h, hk] at hd; simp at hd
  have he : Env.le e (upd e dst (some (.vec a len' cap n))) := fun k' p' h => by
    have : k' ≠ dst := fun e => by rw [e, hek] at h; simp at h
    rw [upd_other _ _ this]; exact h
  have other : ∀ k' p' b, isLive (upd bx k (some .dead) k') = true → e k' = some p' → p'.blk = some b → a ≠ some b := by
    intro k' p' b hl hp' hb hab
    have hkk : k' ≠ k := fun h => by rw [h, upd_same] at hl; simp [isLive] at hl
    rw [upd_other _ _ hkk] at hl
    exact hkk (ok.inj k' k p' _ b hp' hp hl (by rw [hk]; rfl) hb hab)
  refine ⟨(ok.kill k).upd_box dst _ hm he hag (fun k' h => upd_other _ _ h) (fun k' h p b hl hp' hb => hold b (other k' p b hl hp' hb)) hnew (fun p b hl hp' hb k' hne p2 l2 h2 hb2 => ?_) hs, he⟩
  rw [upd_same] at hp'; cases hp'
  exact other k' p2 b l2 h2 hb2 hb
theorem upd_upd {α : Type} (f : Nat → α) (k : Nat) (v v' : α) : upd (upd f k v) k v' = upd f k v' := by
  funext i
  by_cases h : i = k
  · subst h; simp [upd_same]
  · simp [upd_other _ _ h]
theorem froze_other (f g : Nat → Option Bx) : ∀ (ks : List Nat) {k : Nat}, (k ∉ ks ∨ f k = none) → puts (froze f ks) g k = g k := by
  intro ks
  induction ks generalizing g with
  | nil => intro k _; rfl
  | cons x ks ih =>
    intro k hk
    unfold froze at *
    rw [List.filterMap_cons]
    have hk' : k ∉ ks ∨ f k = none := by
      rcases hk with h | h
      · exact .inl fun h' => h (List.mem_cons_of_mem _ h')
      · exact .inr h
    split
    · exact ih g hk'
    · rename_i u hu
      split at hu
      · rename_i row xs fz hx
        simp only [Option.some.injEq] at hu; subst hu
        simp only [puts]
        rw [ih _ hk']
        refine upd_other _ _ fun h => ?_
        subst h
        rcases hk with h | h
        · exact h List.mem_cons_self
        · rw [hx] at h; simp at h
      · simp at hu
/-- The new box, frozen if the old one was. -/
theorem OK.maybe (ok : OK B base m e w bx) {dst : Nat} {row : Sh} {xs : List row.T} (h : bx dst = some (.vec row xs false)) (fz : Bool) :
    ∃ m', M.le m m' ∧ (∀ b o u, m' b o = some u → m b o = none → base ≤ b) ∧ OK B base m' e w (upd bx dst (some (.vec row xs fz))) := by
  cases fz
  · refine ⟨m, .refl m, fun b o u h h' => by rw [h] at h'; simp at h', ?_⟩
    rw [← h, upd_self]; exact ok
  · exact ok.freeze h
theorem new_trans {m1 m2 m3 : M} (h : ∀ b o u, m2 b o = some u → m1 b o = none → base ≤ b) (k : ∀ b o u, m3 b o = some u → m2 b o = none → base ≤ b) (hl : M.le m2 m3) :
    ∀ b o u, m3 b o = some u → m1 b o = none → base ≤ b := fun b o u h3 h1 => by
  cases hq : m2 b o with
  | none => exact k b o u h3 hq
  | some u' => exact h b o u' hq h1

/-- A row that grows into a new block. -/
theorem grow_out (ok : OK B base m e w bx) {dst : Nat} (hd : bx dst = none) {row : Sh} {zs : List row.T} {cs rest : List Value} {cap : Nat} {el : TypeId} (hn : 0 < row.n) (hf : Flat m row zs cs)
    (hc : zs.length ≤ cap) (hl : cs.length + rest.length = cap * row.n) (hw : Grows w w' (.cells (cs ++ rest).toArray el (0, 0))) (fz : Bool) :
    Res B base m e w (upd bx dst (some (.vec row zs fz))) (.vec dst) (.slice (some ⟨w.heap.size, 0, none⟩) zs.length cap) w' := by
  obtain ⟨ok1, he⟩ := ok.new_vec hd hn hc (by simp [hl]) hf.rowAt hw
  obtain ⟨m', hm, hnw, ok2⟩ := ok1.maybe (upd_same _ _ _) fz
  rw [upd_upd] at ok2
  exact ⟨m', _, hm, hnw, he, ⟨_, _, _, _, upd_same _ _ _, rfl⟩, ok2, hw.below ok.size⟩
theorem res_trans {m1 : M} {d : D} {v : Value} {bx' : Nat → Option Bx} (hm : M.le m m1) (hn : ∀ b o u, m1 b o = some u → m b o = none → base ≤ b) (h : Res B base m1 e w bx' d v w') : Res B base m e w bx' d v w' := by
  obtain ⟨m', e', h1, h2, h3, h4, h5, h6⟩ := h
  exact ⟨m', e', hm.trans h1, new_trans hn h2 h1, h3, h4, h5, h6⟩

theorem append_vec (ok : OK B base m e w bx) {k dst : Nat} {row : Sh} {xs ys : List row.T} {fz : Bool} (hk : bx k = some (.vec row xs fz)) (hd : bx dst = none) {t u ty el : TypeId} {i : TypeInfo} {z va vb : Value} {news : List Value}
    (ht : C.P.underlying t = some (.slice el)) (hu : sliceish C u) (hi : C.P.info? el = some i) (hz : i.zero = some z) (hby : i.bytes ≤ 4096) (h0 : 0 < sz C el) (hn : row.n = sz C el) (hzs : z.cells.size = sz C el)
    (ha : Rd m e (.vec k) va) (hf : Flat m row ys news)
    (hmore : ∀ w' : World, (∀ b, b < w.heap.size → w'.heap[b]? = w.heap[b]?) → (Builtin.lenOf vb).run C.P w' = .ok ys.length w' ∧ (Builtin.firstCells row.n ys.length vb).run C.P w' = .ok news.toArray w')
    (hroom : xs.length + ys.length ≤ roomy) :
    ∃ v w', (Builtin.append_ #[t, u] ty #[va, vb]).run C.P w = .ok v w' ∧ Res B base m e w (upd (upd bx k (some .dead)) dst (some (.vec row (xs ++ ys) fz))) (.vec dst) v w' := by
  have hbx := ok.box k
  rw [hk] at hbx
  obtain ⟨a, cap, h1, h2, h3, h4⟩ := hbx
  obtain ⟨a', len', cap', n', h1', rfl⟩ := ha
  rw [h1] at h1'; cases h1'
  have hne : dst ≠ k := fun h => by rw [h, hk] at hd; simp at hd
  have hd' : upd bx k (some .dead) dst = none := by rw [upd_other _ _ hne]; exact hd
  obtain ⟨l0, f0⟩ := hmore w (fun _ _ => rfl)
  rw [hn] at hmore f0
  have zsize : ∀ cap' n, n ≤ cap' → (Builtin.zeroCells z.cells (cap' - n)).toList.length + n * row.n = cap' * row.n := by
    intro cap' n h
    rw [Array.length_toList, size_zeroCells, hzs, ← hn, ← Nat.add_mul]
    congr 1; omega
  rcases h4 with ⟨rfl, rfl, rfl⟩ | ⟨b, rfl, hbase, c, h5, h6, h7, h8, h9⟩
  · by_cases hy : ys.length = 0
    · have : ys = [] := List.eq_nil_of_length_eq_zero hy
      subst this
      obtain ⟨ok1, he⟩ := (ok.kill k).new_none (fz := fz) hd' h2
      exact ⟨_, w, run_append_none ht hu h0 l0 f0 rfl, m, _, .refl m, fun b o u h h' => by rw [h] at h'; simp at h', he, ⟨_, _, _, _, upd_same _ _ _, rfl⟩, ok1, .refl _ _⟩
    · obtain ⟨cap', rest, w', hc, hrest, hg, hrun⟩ := run_append_out (ty := ty) (x := vb) (a := none) (n := 0) (cap := 0) (olds := []) ht hu h0 hi hz hmore (fun w' _ => rfl) (by omega) (by simpa using hroom) hby
      refine ⟨_, w', hrun, ?_⟩
      have := grow_out (ok.kill k) hd' h2 hf (cap := cap') (rest := rest.toList) (by omega) (by rw [hf.1, hrest]; have := zsize cap' (0 + ys.length) hc; simp only [Nat.zero_add] at this ⊢; omega) (by simpa using hg) fz
      simpa using this
  · by_cases hr : xs.length + ys.length ≤ cap
    · have hfit : xs.length * sz C el + news.length ≤ c.size := by
        rw [hf.1, hn]
        have : (xs.length + ys.length) * row.n ≤ cap * row.n := Nat.mul_le_mul_right _ hr
        rw [Nat.add_mul] at this
        rw [hn] at this h6
        omega
      have hrun := run_append_in (ty := ty) ht hu h0 l0 f0 hr h5 hfit hf.bare
      refine ⟨_, _, hrun, ?_⟩
      have hfit' : xs.length * sz C el + news.length ≤ c.toList.length := by simpa using hfit
      have hother : ∀ b', some b ≠ some b' → (w.setRow b (c.toList.take (xs.length * sz C el) ++ news ++ c.toList.drop (xs.length * sz C el + news.length)).toArray).heap[b']? = w.heap[b']? :=
        fun b' h => setRow_other w b b' _ fun hh => h (by rw [hh])
      obtain ⟨cty, h5'⟩ := h5
      have hnew := setRow_heap w b c (c.toList.take (xs.length * sz C el) ++ news ++ c.toList.drop (xs.length * sz C el + news.length)).toArray cty (0, 0) h5'
      let m' : M := fun b' o' => if fz = true ∧ b' = b ∧ xs.length * row.n ≤ o' ∧ o' < (xs.length + ys.length) * row.n then news[o' - xs.length * row.n]? else m b' o'
      have hm : M.le m m' := fun b' o' v h => by
        show (if fz = true ∧ b' = b ∧ xs.length * row.n ≤ o' ∧ o' < (xs.length + ys.length) * row.n then news[o' - xs.length * row.n]? else m b' o') = some v
        rw [if_neg]; exact h
        rintro ⟨_, rfl, hlt, _⟩
        rw [h9 o' (.inr hlt)] at h; simp at h
      have hrow : RowAt (c.toList.take (xs.length * sz C el) ++ news ++ c.toList.drop (xs.length * sz C el + news.length)).toArray 0 row.n (RdT m row) (xs ++ ys) := by
        intro i' x hx
        by_cases hi' : i' < xs.length
        · rw [List.getElem?_append_left hi'] at hx
          obtain ⟨vs, q1, q2, q3⟩ := h7 i' x hx
          refine ⟨vs, q1, q2, fun j u hj => ?_⟩
          have hjl := idx_lt hj
          have : (i' + 1) * row.n ≤ xs.length * row.n := Nat.mul_le_mul_right _ hi'
          rw [Nat.add_mul] at this
          rw [List.getElem?_toArray, splice_get _ _ _ _ hfit', if_neg (by rw [← hn]; omega)]
          have := q3 j u hj
          rwa [← Array.getElem?_toList] at this
        · rw [List.getElem?_append_right (by omega)] at hx
          obtain ⟨vs, q1, q2, q3⟩ := hf.2 _ x hx
          refine ⟨vs, q1, q2, fun j u hj => ?_⟩
          have hjl := idx_lt hj
          have hq := q3 j u hj
          have hql := idx_lt hq
          have e1 : i' * row.n = xs.length * row.n + (i' - xs.length) * row.n := by rw [← Nat.add_mul]; congr 1; omega
          rw [List.getElem?_toArray, splice_get _ _ _ _ hfit', if_pos (by rw [← hn]; omega), ← hq]
          congr 1
          rw [← hn]; omega
      have hmv : OK B base m' (upd e dst (some (.vec (some b) (xs ++ ys).length cap row.n))) (w.setRow b (c.toList.take (xs.length * sz C el) ++ news ++ c.toList.drop (xs.length * sz C el + news.length)).toArray) (upd (upd bx k (some .dead)) dst (some (.vec row (xs ++ ys) fz))) ∧ Env.le e (upd e dst (some (.vec (some b) (xs ++ ys).length cap row.n))) := by
        refine ok.move hk hd h1 hm (fun b' o v h => ?_) (fun b' hb' => ⟨hother b' hb', fun o ho => ?_⟩) (by simpa using ok.size)
          ⟨some b, cap, upd_same _ _ _, h2, by simpa using hr, .inr ⟨b, rfl, hbase, _, ⟨cty, hnew⟩, ?_, hrow.mono (RdT.mono hm row), fun hfz => ?_, fun o' ho' => ?_⟩⟩
        · have h : (if fz = true ∧ b' = b ∧ xs.length * row.n ≤ o ∧ o < (xs.length + ys.length) * row.n then news[o - xs.length * row.n]? else m b' o) = some v := h
          split at h
          · rename_i hc
            rw [hc.2.1, (show Has _ b _ from ⟨cty, hnew⟩).cell, List.getElem?_toArray, splice_get _ _ _ _ hfit', if_pos, ← hn]
            · exact h
            · rw [← hn, hf.1]; rw [Nat.add_mul] at hc; omega
          · have hq : m b' o = some v := h
            by_cases hbb : b' = b
            · rw [hbb] at hq ⊢
              have hfz : fz = true := by
                cases hff : fz
                · rw [h9 o (.inl hff)] at hq; simp at hq
                · rfl
              have hlt : o < xs.length * row.n := by
                rcases Nat.lt_or_ge o (xs.length * row.n) with h' | h'
                · exact h'
                · rw [h9 o (.inr h')] at hq; simp at hq
              rw [(show Has _ b _ from ⟨cty, hnew⟩).cell, List.getElem?_toArray, splice_get _ _ _ _ hfit', if_neg (by rw [← hn]; omega)]
              have := ok.agree _ _ _ hq
              rw [(show Has w b c from ⟨cty, h5'⟩).cell] at this
              rwa [← Array.getElem?_toList] at this
            · rw [← ok.agree _ _ _ hq]
              exact World.cell?_of_block (hother b' fun hh => by cases hh; exact hbb rfl)
        · show (if fz = true ∧ b' = b ∧ xs.length * row.n ≤ o ∧ o < (xs.length + ys.length) * row.n then news[o - xs.length * row.n]? else m b' o) = none
          rw [if_neg]; exact ho
          rintro ⟨_, rfl, _⟩; exact hb' rfl
        · simp; simp at hfit'; omega
        · subst hfz
          intro i' x hx
          by_cases hi' : i' < xs.length
          · rw [List.getElem?_append_left hi'] at hx
            obtain ⟨vs, q1, q2, q3⟩ := h8 rfl i' x hx
            exact ⟨vs, q1, q2.mono hm, fun j u hj => hm _ _ _ (q3 j u hj)⟩
          · rw [List.getElem?_append_right (by omega)] at hx
            obtain ⟨vs, q1, q2, q3⟩ := hf.2 _ x hx
            refine ⟨vs, q1, q2.mono hm, fun j u hj => ?_⟩
            have hjl := idx_lt hj
            have hq := q3 j u hj
            have hql := idx_lt hq
            have hil := idx_lt hx
            have e1 : i' * row.n = xs.length * row.n + (i' - xs.length) * row.n := by rw [← Nat.add_mul]; congr 1; omega
            show (if true = true ∧ b = b ∧ xs.length * row.n ≤ 0 + i' * row.n + j ∧ 0 + i' * row.n + j < (xs.length + ys.length) * row.n then news[0 + i' * row.n + j - xs.length * row.n]? else m b (0 + i' * row.n + j)) = some u
            rw [if_pos, ← hq]
            · congr 1; omega
            · rw [hf.1] at hql
              refine ⟨rfl, rfl, by omega, by rw [Nat.add_mul]; omega⟩
        · show (if fz = true ∧ b = b ∧ xs.length * row.n ≤ o' ∧ o' < (xs.length + ys.length) * row.n then news[o' - xs.length * row.n]? else m b o') = none
          rcases ho' with h | h
          · rw [if_neg (by simp [h])]; exact h9 o' (.inl h)
          · rw [List.length_append] at h
            rw [if_neg (by omega)]
            refine h9 o' (.inr ?_)
            have : xs.length * row.n ≤ (xs.length + ys.length) * row.n := Nat.mul_le_mul_right _ (by omega)
            omega
      obtain ⟨ok1, he⟩ := hmv
      refine ⟨m', _, hm, fun b' o u h h' => ?_, he, ⟨some b, (xs ++ ys).length, cap, row.n, upd_same _ _ _, by simp [adr]⟩, ok1, ⟨rfl, rfl, rfl, by simp, fun b' hb' => hother b' fun hh => by cases hh; omega⟩⟩
      have h : (if fz = true ∧ b' = b ∧ xs.length * row.n ≤ o ∧ o < (xs.length + ys.length) * row.n then news[o - xs.length * row.n]? else m b' o) = some u := h
      split at h
      · rename_i hc; rw [hc.2.1]; exact hbase
      · rw [h'] at h; simp at h
    · obtain ⟨olds, hfo, holds⟩ := vec_flat (m := m) (k := k) h5 h7
      obtain ⟨cap', rest, w', hc, hrest, hg, hrun⟩ := run_append_out (ty := ty) (x := vb) (a := some ⟨b, 0, none⟩) (n := xs.length) (cap := cap) (olds := olds) ht hu h0 hi hz hmore
        (fun w' hw' => by
          rw [← hn]
          exact run_firstCells_some w' row.n xs.length ⟨b, 0, none⟩ _ _ olds hfo.1 fun j u hj => by
            rw [addr_add, Nat.zero_add]
            exact OK.cell_same hw' (by rw [h5.cell]; exact holds j u hj)) (by omega) hroom hby
      refine ⟨_, w', hrun, ?_⟩
      have := grow_out (ok.kill k) hd' h2 (hfo.append hf) (cap := cap') (rest := rest.toList) (by simpa using hc) (by rw [List.length_append, hfo.1, hf.1, hrest]; have := zsize cap' (xs.length + ys.length) hc; rw [Nat.add_mul] at this; omega) (by simpa using hg) fz
      simpa using this
end
end Go.Proofs.YtaldfmbnfnagjaaDoor.E
