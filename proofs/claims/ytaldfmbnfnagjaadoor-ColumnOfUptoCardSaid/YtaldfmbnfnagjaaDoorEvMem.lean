/- Loads and stores. -/
import Derived.Test.YtaldfmbnfnagjaaDoorEvEq
namespace Go.Proofs.YtaldfmbnfnagjaaDoor.E
open Go.RowKit (Below)
set_option linter.unusedVariables false
set_option linter.unusedSimpArgs false
theorem bare_one (v : Value) : v.oneCell' = bare v := by cases v <;> rfl
theorem addr_add (b o n : Nat) : (⟨b, o, none⟩ : Addr).add n = ⟨b, o + n, none⟩ := by
  unfold Addr.add; split
  · rename_i h; subst h; rfl
  · rfl
section
variable {C : Ctx} {B : M} {base : Nat} {m : M} {e : Env} {w : World} {bx : Nat → Option Bx} {st : St}

/-- What is known of the globals. -/
def Globs (C : Ctx) (B : M) : Prop := ∀ g row xs, C.gl g = some ⟨row, xs⟩ → At B g 0 row.n (RdT B row) xs

theorem run_loadVar_cells {t : TypeId} (h : 0 < sz C t) {b off : Nat} {cs : List Value} (hl : cs.length = sz C t) (hc : ∀ j u, cs[j]? = some u → w.cell? ⟨b, off + j, none⟩ = some u) :
    (loadVar t ⟨b, off, none⟩).run C.P w = .ok (mkV C t cs) w := by
  obtain ⟨d, hd, _, _⟩ := sz_pos h
  simp only [loadVar, Sem.run_bind, run_isAgg w hd, Result.andThen_ok, mkV]
  cases ha : aggs C t
  · simp only [Bool.false_eq_true, if_false]
    match cs, hl with
    | [], hl => simp at hl; omega
    | v :: cs, _ =>
      have := hc 0 v (by simp)
      rw [run_load]
      simp only [Nat.add_zero] at this
      simp [this]
  · simp only [if_true, Sem.run_bind, run_sz h, Result.andThen_ok]
    rw [← hl, run_loadCells_list w ⟨b, off, none⟩ cs (fun j v hj => by rw [addr_add]; exact hc j v hj)]
    rfl
theorem run_loadAt_cells {t : TypeId} (h : 0 < sz C t) {b off : Nat} {cs : List Value} (hl : cs.length = sz C t) (hc : ∀ j u, cs[j]? = some u → w.cell? ⟨b, off + j, none⟩ = some u) :
    (Instr.loadAt t (.pointer (some ⟨b, off, none⟩))).run C.P w = .ok (mkV C t cs) w := by
  simp only [Instr.loadAt, Instr.sureAddr, Sem.run_bind, Sem.run_pure, Result.andThen_ok]
  exact run_loadVar_cells h hl hc
theorem mk_rd {t : TypeId} {ds : List D} {cs : List Value} (h : All2 (Rd1 m e) ds cs) : Rd m e (mk C t ds) (mkV C t cs) := by
  unfold mk mkV
  cases aggs C t
  · simp only [Bool.false_eq_true, if_false]
    match ds, cs, h with
    | [], [], _ => trivial
    | [d], [v], h => exact .of1 h.1
    | _ :: _ :: _, _ :: _ :: _, _ => trivial
    | [], _ :: _, h => exact h.elim
    | _ :: _, [], h => exact h.elim
    | [_], _ :: _ :: _, h => exact h.2.elim
    | _ :: _ :: _, [_], h => exact h.2.elim
  · exact ⟨cs, rfl, h⟩
theorem cut_rd {off n : Nat} {ds c : List D} {vs : List Value} (h : cut off n ds = some c) (k : All2 (Rd1 m e) ds vs) :
    All2 (Rd1 m e) c ((vs.drop off).take n) ∧ ((vs.drop off).take n).length = n ∧ off + n ≤ vs.length := by
  unfold cut at h
  split at h
  · rename_i hle
    simp only [Option.some.injEq] at h
    subst h
    have := k.length
    refine ⟨(k.drop off).take n, ?_, by omega⟩
    simp; omega
  · simp at h
theorem get_cut {α : Type} (l : List α) (off n j : Nat) (u : α) (h : ((l.drop off).take n)[j]? = some u) : l[off + j]? = some u := by
  rw [List.getElem?_take] at h
  split at h
  · rwa [List.getElem?_drop] at h
  · simp at h

theorem loadK_sound (ok : OK B base m e w bx) (hg : Globs C B) (hs : Sub st.bx bx) {a d : D} {va : Value} {t : TypeId} (h : loadK C st a t some = some d) (ha : Rd m e a va) :
    ∃ v, (Instr.loadAt t va).run C.P w = .ok v w ∧ Rd m e d v := by
  unfold loadK at h
  split at h
  · simp at h
  · rename_i h0
    have h0 : 0 < sz C t := by omega
    cases a <;> simp only [reduceCtorEq] at h
    case loc k off =>
      split at h
      · rename_i ds hk
        split at h
        · rename_i c hc
          simp only [Option.some.injEq] at h; subst h
          obtain ⟨b, hb, rfl⟩ := ha
          have hx := ok.box k
          rw [hs k _ hk] at hx
          obtain ⟨b', cc, h1, h2, h3, h4, h5⟩ := hx
          rw [hb] at h1; cases h1
          obtain ⟨k1, k2, k3⟩ := cut_rd hc h4
          exact ⟨_, run_loadAt_cells h0 k2 (fun j u hj => by rw [h3.cell, ← Array.getElem?_toList]; exact get_cut _ _ _ _ _ hj), mk_rd k1⟩
        · simp at h
      · simp at h
    case ep row x off =>
      split at h
      · rename_i c hc
        simp only [Option.some.injEq] at h; subst h
        obtain ⟨b, o, vs, rfl, hr, hm⟩ := ha
        obtain ⟨k1, k2, k3⟩ := cut_rd hc (enc_rd (e := e) row x vs hr)
        refine ⟨_, run_loadAt_cells h0 k2 (fun j u hj => ?_), mk_rd k1⟩
        have := ok.agree _ _ _ (hm (off + j) u (get_cut _ _ _ _ _ hj))
        rwa [← Nat.add_assoc] at this
      · simp at h
    case vel k i off =>
      split at h
      · rename_i row xs fz hk
        simp only [Option.bind_eq_some_iff] at h
        obtain ⟨x, hx, h⟩ := h
        split at h
        · rename_i c hc
          simp only [Option.some.injEq] at h; subst h
          obtain ⟨b, len, cap, n, hb, rfl⟩ := ha
          have hbx := ok.box k
          rw [hs k _ hk] at hbx
          obtain ⟨a, cap', h1, h2, h3, h4⟩ := hbx
          rw [hb] at h1; cases h1
          rcases h4 with ⟨h4, _⟩ | ⟨b', h4, h5, cc, h6, h7, h8, _⟩
          · cases h4
          · cases h4
            obtain ⟨vs, hl, hr, hv⟩ := h8 i x hx
            obtain ⟨k1, k2, k3⟩ := cut_rd hc (enc_rd (e := e) row x vs hr)
            refine ⟨_, run_loadAt_cells h0 k2 (fun j u hj => ?_), mk_rd k1⟩
            have := hv (off + j) u (get_cut _ _ _ _ _ hj)
            rw [h6.cell, ← this]
            congr 1; omega
        · simp at h
      · simp at h
    case glob g =>
      split at h
      · rename_i row x hgl
        split at h
        · rename_i c hc
          simp only [Option.some.injEq] at h; subst h
          rw [show va = _ from ha]
          obtain ⟨vs, hl, hr, hv⟩ := hg g row [x] hgl 0 x rfl
          obtain ⟨k1, k2, k3⟩ := cut_rd hc (enc_rd (e := e) row x vs (hr.mono ok.hB))
          refine ⟨_, run_loadAt_cells h0 k2 (fun j u hj => ?_), mk_rd k1⟩
          have := ok.agree _ _ _ (ok.hB _ _ _ (hv (0 + j) u (get_cut _ _ _ _ _ hj)))
          simpa using this
        · simp at h
      · simp at h

/-- A store into a block of which nothing stays. -/
theorem OK.write (ok : OK B base m e w bx) {k b : Nat} {p : Pl} {c c' : Array Value} {nb : Bx} (hl : isLive (bx k) = true) (hp : e k = some p) (hb : p.blk = some b) (hbase : base ≤ b)
    (hm : ∀ o, m b o = none) (hc : Has w b c) (hnew : BxR base m e (w.setRow b c') k (some nb)) : OK B base m e (w.setRow b c') (upd bx k (some nb)) ∧ Below base w (w.setRow b c') := by
  have hoth : ∀ b', b' ≠ b → (w.setRow b c').heap[b']? = w.heap[b']? := fun b' h => setRow_other w b b' c' h
  refine ⟨ok.upd_box k _ (.refl m) (.refl e) (fun b' o v h => ?_) (fun _ _ => rfl) (fun k' hne p' b' hl' hp' hb' => ⟨hoth b' fun hbb => ?_, fun _ h => h⟩) hnew (fun p' b' _ hp' hb' k' hne p2 l2 h2 hb2 => ?_) (by simpa using ok.size),
    ⟨rfl, rfl, rfl, by simp, fun k' hk' => hoth k' (by omega)⟩⟩
  · have : b' ≠ b := fun hbb => by rw [hbb, hm] at h; simp at h
    rw [← ok.agree b' o v h]
    exact World.cell?_of_block (hoth b' this)
  · subst hbb
    exact hne (ok.inj k' k p' p b' hp' hp hl' hl hb' hb)
  · rw [hp] at hp'; cases hp'
    rw [hb] at hb'; cases hb'
    exact hne (ok.inj k' k p2 p b h2 hp l2 hl hb2 hb)

theorem run_storeAt_cells {t : TypeId} (h : 0 < sz C t) {b off : Nat} {v : Value} (hv : v.cells.size = sz C t) (h1 : ∀ u ∈ v.cells.toList, bare u = true) {c : Array Value} (hc : Has w b c) (hl : off + sz C t ≤ c.size) :
    (Instr.storeAt t (.pointer (some ⟨b, off, none⟩)) v).run C.P w = .ok () (w.setRow b (c.toList.take off ++ v.cells.toList ++ c.toList.drop (off + v.cells.toList.length)).toArray) := by
  obtain ⟨ty, hc⟩ := hc
  have hst := run_storeCells_at C.P b off ty v.cells.toList 0 c w hc (by simp [hv]; omega) (fun u hu => by rw [bare_one]; exact h1 u hu)
  simp only [Instr.storeAt, Instr.sureAddr, storeVar, Sem.run_bind, Sem.run_pure, Result.andThen_ok, run_sz h, hv, ne_eq, not_true_eq_false, if_false, hst]
  simp
end
end Go.Proofs.YtaldfmbnfnagjaaDoor.E
