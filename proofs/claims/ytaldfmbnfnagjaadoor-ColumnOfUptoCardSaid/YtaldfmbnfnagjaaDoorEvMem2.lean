/- Stores; new boxes. -/
import Derived.Test.YtaldfmbnfnagjaaDoorEvMem
namespace Go.Proofs.YtaldfmbnfnagjaaDoor.E
open Go.RowKit (Below)
set_option linter.unusedVariables false
set_option linter.unusedSimpArgs false
theorem splice_get {α : Type} (l vs : List α) (p q : Nat) (h : p + vs.length ≤ l.length) :
    (l.take p ++ vs ++ l.drop (p + vs.length))[q]? = if p ≤ q ∧ q < p + vs.length then vs[q - p]? else l[q]? := by
  have ht : (l.take p).length = p := by simp; omega
  by_cases h1 : q < p
  · rw [if_neg (by omega), List.append_assoc, List.getElem?_append_left (by omega), List.getElem?_take_of_lt h1]
  · by_cases h2 : q < p + vs.length
    · rw [if_pos ⟨by omega, h2⟩, List.append_assoc, List.getElem?_append_right (by omega), ht, List.getElem?_append_left (by omega)]
    · rw [if_neg (by omega), List.getElem?_append_right (by simp; omega), List.getElem?_drop]
      congr 1
      simp; omega
section
variable {C : Ctx} {B : M} {base : Nat} {m : M} {e : Env} {w : World} {bx : Nat → Option Bx} {st : St}
theorem splice_rd {off : Nat} {new ds c : List D} {vs us : List Value} (h : splice off new ds = some c) (k : All2 (Rd1 m e) ds vs) (k' : All2 (Rd1 m e) new us) :
    All2 (Rd1 m e) c (vs.take off ++ us ++ vs.drop (off + us.length)) ∧ off + us.length ≤ vs.length := by
  unfold splice at h
  split at h
  · simp only [Option.some.injEq] at h
    subst h
    have h1 := k.length
    have h2 := k'.length
    refine ⟨?_, by omega⟩
    rw [← h2]
    exact ((k.take off).append k').append (k.drop _)
  · simp at h
theorem okv_of_solid {v : D} (h : v.leaves.all D.solid = true) : v.okv = true := by
  cases v <;> simp_all [D.okv, D.leaves]
theorem all_bare : ∀ {ds : List D} {vs : List Value}, ds.all D.solid = true → All2 (Rd1 m e) ds vs → ∀ u ∈ vs, bare u = true
  | [], [], _, _, u, hu => by simp at hu
  | d :: ds, v :: vs, h, k, u, hu => by
    simp only [List.all_cons, Bool.and_eq_true] at h
    rcases List.mem_cons.1 hu with rfl | hu
    · exact k.1.bare h.1
    · exact all_bare h.2 k.2 u hu
  | [], _ :: _, _, k, _, _ => k.elim
  | _ :: _, [], _, k, _, _ => k.elim
theorem storeK_sound (ok : OK B base m e w bx) (hs : Sub st.bx bx) {a v : D} {va vv : Value} {t : TypeId} {us : List (Nat × Option Bx)} (h : storeK C st a v t some = some us) (ha : Rd m e a va) (hv : Rd m e v vv) :
    ∃ w', (Instr.storeAt t va vv).run C.P w = .ok () w' ∧ OK B base m e w' (puts us bx) ∧ Below base w w' := by
  unfold storeK at h
  split at h
  · rename_i hc
    simp only [Bool.and_eq_true, decide_eq_true_eq, Nat.ble_eq] at hc
    obtain ⟨⟨hlen, hsol⟩, h0⟩ := hc
    have kv := hv.leaves (okv_of_solid hsol)
    have kb := all_bare hsol kv
    have klen : vv.cells.size = sz C t := by rw [← Array.length_toList, ← kv.length, hlen]
    cases a <;> simp only [reduceCtorEq] at h
    case loc k off =>
      split at h
      · rename_i ds hk
        split at h
        · rename_i c hc
          simp only [Option.some.injEq] at h; subst h
          obtain ⟨b, hb, rfl⟩ := ha
          have hbk := hs k _ hk
          have hx := ok.box k
          rw [hbk] at hx
          obtain ⟨b', cc, h1, h2, h3, h4, h5⟩ := hx
          rw [hb] at h1; cases h1
          obtain ⟨k1, k2⟩ := splice_rd hc h4 kv
          have hst := run_storeAt_cells h0 klen kb h3 (off := off) (by simp only [Array.length_toList] at k2; omega)
          refine ⟨_, hst, ?_⟩
          obtain ⟨ty, h3'⟩ := h3
          exact ok.write (by rw [hbk]; rfl) hb rfl h2 h5 ⟨ty, h3'⟩ ⟨b, _, hb, h2, ⟨ty, setRow_heap w b cc _ ty (0, 0) h3'⟩, by simpa using k1, h5⟩
        · simp at h
      · simp at h
    case vel k i off =>
      split at h
      · rename_i row xs hk
        simp only [Option.bind_eq_some_iff] at h
        obtain ⟨x, hx, h⟩ := h
        split at h
        · rename_i c hc
          split at h
          · rename_i y hy
            simp only [Option.some.injEq] at h; subst h
            obtain ⟨b, len, cap, n, hb, rfl⟩ := ha
            have hbk := hs k _ hk
            have hbx := ok.box k
            rw [hbk] at hbx
            obtain ⟨a, cap', h1, h2, h3, h4⟩ := hbx
            rw [hb] at h1; cases h1
            rcases h4 with ⟨h4, _⟩ | ⟨b', h4, h5, cc, h6, h7, h8, h9, h10⟩
            · cases h4
            · cases h4
              have hm : ∀ o, m b o = none := fun o => h10 o (.inl rfl)
              obtain ⟨vs, hl, hr, hvs⟩ := h8 i x hx
              obtain ⟨k1, k2⟩ := splice_rd hc (enc_rd (e := e) row x vs hr) kv
              have hy' := decAll_rd hy k1
              have hi : i < xs.length := by
                rcases Nat.lt_or_ge i xs.length with h | h
                · exact h
                · rw [List.getElem?_eq_none h] at hx; simp at hx
              have hin : (i + 1) * row.n ≤ xs.length * row.n := Nat.mul_le_mul_right _ hi
              have hcap : xs.length * row.n ≤ cap * row.n := Nat.mul_le_mul_right _ h3
              rw [Nat.add_mul] at hin
              have hlv : vv.cells.toList.length = sz C t := by simpa using klen
              have hfit : i * row.n + off + sz C t ≤ cc.size := by omega
              have hst := run_storeAt_cells h0 klen kb h6 (off := i * row.n + off) hfit
              refine ⟨_, hst, ?_⟩
              have hfit' : i * row.n + off + vv.cells.toList.length ≤ cc.toList.length := by simpa [hlv] using hfit
              obtain ⟨ty, h6'⟩ := h6
              refine ok.write (by rw [hbk]; rfl) hb rfl h5 hm ⟨ty, h6'⟩ ⟨some b, cap, by simpa using hb, h2, by simpa using h3, .inr ⟨b, rfl, h5, _, ⟨ty, setRow_heap w b cc _ ty (0, 0) h6'⟩, ?_, ?_, fun hf => by simp at hf, fun o _ => hm o⟩⟩
              · simp at hfit' ⊢; omega
              · intro i' x' hx'
                simp only [List.getElem?_toArray]
                by_cases hii : i' = i
                · subst hii
                  rw [List.getElem?_set_self hi] at hx'
                  simp only [Option.some.injEq] at hx'
                  subst hx'
                  refine ⟨_, ?_, hy', fun j u hu => ?_⟩
                  · rw [RdT.length row _ _ hy']
                  · rw [splice_get _ _ _ _ hfit']
                    rw [splice_get _ _ _ _ (by omega)] at hu
                    by_cases hjj : off ≤ j ∧ j < off + vv.cells.toList.length
                    · rw [if_pos hjj] at hu
                      rw [if_pos (by omega), ← hu]
                      congr 1; omega
                    · rw [if_neg hjj] at hu
                      rw [if_neg (by omega)]
                      have := hvs j u hu
                      rw [← Array.getElem?_toList] at this
                      simpa using this
                · rw [List.getElem?_set_ne (Ne.symm hii)] at hx'
                  obtain ⟨vs', hl', hr', hvs'⟩ := h8 i' x' hx'
                  refine ⟨vs', hl', hr', fun j u hu => ?_⟩
                  have hj : j < vs'.length := by
                    rcases Nat.lt_or_ge j vs'.length with h | h
                    · exact h
                    · rw [List.getElem?_eq_none h] at hu; simp at hu
                  rw [splice_get _ _ _ _ hfit', if_neg]
                  · have := hvs' j u hu
                    rwa [← Array.getElem?_toList] at this
                  · intro ⟨q1, q2⟩
                    rcases Nat.lt_or_gt_of_ne hii with hlt | hgt
                    · have : (i' + 1) * row.n ≤ i * row.n := Nat.mul_le_mul_right _ hlt
                      rw [Nat.add_mul] at this; omega
                    · have : (i + 1) * row.n ≤ i' * row.n := Nat.mul_le_mul_right _ hgt
                      rw [Nat.add_mul] at this; omega
          · simp at h
        · simp at h
      · simp at h
  · simp at h
end
end Go.Proofs.YtaldfmbnfnagjaaDoor.E
