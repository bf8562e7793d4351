/- All operations. -/
import Derived.Test.YtaldfmbnfnagjaaDoorEvOps
import Derived.Lib.ConvBytes
namespace Go.Proofs.YtaldfmbnfnagjaaDoor.E
open Go.RowKit (Below)
set_option linter.unusedVariables false
set_option linter.unusedSimpArgs false
section
variable {C : Ctx} {B : M} {base : Nat} {m : M} {e : Env} {w w' : World} {bx : Nat → Option Bx} {st : St} {ρ : Operand → Value} {o : Oper}

theorem All2.map2 {α γ δ : Type} {R : γ → δ → Prop} {f : α → γ} {g : α → δ} : ∀ (l : List α), (∀ x ∈ l, R (f x) (g x)) → All2 R (l.map f) (l.map g)
  | [], _ => trivial
  | x :: l, h => ⟨h x List.mem_cons_self, All2.map2 l fun y hy => h y (List.mem_cons_of_mem _ hy)⟩
theorem sidx_get (s : ByteArray) (i : Nat) : s[i]? = s.data.toList[i]? := by
  by_cases h : i < s.size
  · rw [getElem?_pos s i h, List.getElem?_eq_getElem (by simpa using h)]
    rfl
  · rw [getElem?_neg s i h, List.getElem?_eq_none (by simpa using h)]

theorem core_sound (ok : OK B base m e w bx) (hg : Globs C B) (hfn : ∀ f E, C.fn f = some E → Spec C.P B f E) (hs : Sub st.bx bx) (hρ : ∀ x, Rd m e (st.ev x) (ρ x)) {dst : Nat} (hdst : st.bx dst = none → bx dst = none)
    {d : D} {us : List (Nat × Option Bx)} (h : coreK C o.op st dst pr = some (d, us)) : Goes C.P ρ o w (Res B base m e w (puts us bx) d) := by
  have same : ∀ {v : Value} {d : D} {us : List (Nat × Option Bx)}, us = [] → Rd m e d v → Res B base m e w (puts us bx) d v w := by
    intro v d us hu hr; subst hu; exact res_same ok hr
  cases hop : o.op <;> rw [hop] at h <;> simp only [coreK, reduceCtorEq] at h
  case move x =>
    obtain ⟨rfl, rfl⟩ := pr_some h
    exact goes_val (by simp [execOp, hop]) (same rfl (hρ x))
  case assign x =>
    obtain ⟨rfl, rfl⟩ := pr_some h
    exact goes_val (by simp [execOp, hop]) (same rfl (hρ x))
  case pick c a b =>
    split at h
    · rename_i t ht
      have hc := hρ c
      rw [ht] at hc
      have hc : ρ c = .bool t := hc
      cases t
      · obtain ⟨rfl, rfl⟩ := pr_some h
        exact goes_val (by simp [execOp, hop, hc, asBool]) (same rfl (hρ b))
      · obtain ⟨rfl, rfl⟩ := pr_some h
        exact goes_val (by simp [execOp, hop, hc, asBool]) (same rfl (hρ a))
    · simp at h
  case alloc t =>
    obtain ⟨hd0, h⟩ := fresh_some h
    split at h
    · rename_i ds hz
      split at h
      · rename_i hsz
        obtain ⟨rfl, rfl⟩ := pr_some h
        unfold zeroD at hz
        cases hi : C.P.info? t with
        | none => simp [hi] at hz
        | some i =>
          cases hzz : i.zero with
          | none => simp [hi, hzz] at hz
          | some z =>
            simp only [hi, hzz, Option.bind_some, Option.map_some, Option.some.injEq] at hz
            subst hz
            obtain ⟨ok1, he⟩ := ok.new_cells (hdst hd0) (ds := z.cells.toList.map leafOf) (cs := z.cells) (leafOf_all m e _) (grows_alloc w (.cells z.cells t))
            refine (show Goes C.P ρ o w _ from ?_)
            unfold Goes Comes1
            have hrun : (execOp ρ o).run C.P w = .ok (.value (.pointer (some ⟨w.heap.size, 0, none⟩))) (w.alloc (.cells z.cells t)) := by
              simp [execOp, hop, Instr.alloc, zeroValue, typeInfo, program, Sem.run, hi, hzz, newVar, newRow]
            rw [hrun]
            exact ⟨m, _, .refl m, fun b o u h h' => by rw [h] at h'; simp at h', he, ⟨_, upd_same _ _ _, rfl⟩, ok1, (grows_alloc _ _).below ok.size⟩
      · simp at h
    · simp at h
  case box t x =>
    obtain ⟨hd0, h⟩ := fresh_some h
    split at h
    · rename_i hc
      simp only [Bool.and_eq_true, beq_iff_eq, Nat.ble_eq] at hc
      obtain ⟨rfl, rfl⟩ := pr_some h
      have kv := (hρ x).leaves hc.1.2
      obtain ⟨ok1, he⟩ := ok.new_cells (hdst hd0) kv (grows_alloc w (.cells (ρ x).cells t))
      unfold Goes Comes1
      have hrun : (execOp ρ o).run C.P w = .ok (.value (.pointer (some ⟨w.heap.size, 0, none⟩))) (w.alloc (.cells (ρ x).cells t)) := by
        simp [execOp, hop, Instr.box, newVar, newRow]
      rw [hrun]
      exact ⟨m, _, .refl m, fun b o u h h' => by rw [h] at h'; simp at h', he, ⟨_, upd_same _ _ _, rfl⟩, ok1, (grows_alloc _ _).below ok.size⟩
    · simp at h
  case build t parts =>
    split at h
    · rename_i fs z hu hz
      split at h
      · simp at h
      · rename_i hall
        split at h
        · rename_i ds hf
          obtain ⟨rfl, rfl⟩ := pr_some h
          unfold zeroD at hz
          cases hi : C.P.info? t with
          | none => simp [hi] at hz
          | some i =>
            cases hzz : i.zero with
            | none => simp [hi, hzz] at hz
            | some zv =>
              simp only [hi, hzz, Option.bind_some, Option.map_some, Option.some.injEq] at hz
              subst hz
              obtain ⟨cells', f1, f2⟩ := fill_rd (m := m) (e := e) (place := fun i => ((fs.toList.map fun f => (f.offset, sz C f.type)).toArray)[i]?) (fun i => by simp) _ (parts.toList.map fun p => (p.1, ρ p.2)) _ _ zv.cells hf (leafOf_all m e _)
                (All2.map2 parts.toList fun p _ => ⟨rfl, hρ p.2⟩)
              have hplaces : fs.toList.mapM (fun f => (C.P.info? f.type).map fun i => (f.offset, i.size)) = some (fs.toList.map fun f => (f.offset, sz C f.type)) := by
                have h2 : (fs.toList.all fun f => Nat.ble 1 (sz C f.type)) = true := by revert hall; cases (fs.toList.all fun f => Nat.ble 1 (sz C f.type)) <;> simp
                have hall : ∀ f ∈ fs.toList, 0 < sz C f.type := fun f hf => Nat.le_of_ble_eq_true (List.all_eq_true.1 h2 f hf)
                clear h2
                generalize fs.toList = l at hall
                clear hu hf f1
                induction l with
                | nil => rfl
                | cons f l ih =>
                  obtain ⟨dd, hd1, hd2, hd3⟩ := sz_pos (hall f List.mem_cons_self)
                  obtain ⟨ii, hi1, hi2⟩ := info_of_cells hd3
                  rw [List.mapM_cons, ih fun x hx => hall x (List.mem_cons_of_mem _ hx)]
                  simp [hi1, hi2, hd2]
              have hbuilt : C.P.built t (parts.toList.map fun p => (p.1, ρ p.2)) = some cells' := by
                unfold Program.built
                simp only [hi, hu, hzz, hplaces]
                exact f1
              refine goes_val (v := .agg cells') ?_ (same rfl ⟨cells'.toList, by simp, f2⟩)
              have hr := run_build w t (parts.map fun x => (x.1, ρ x.2)) cells' (by simpa using hbuilt)
              simp only [execOp, hop, Sem.run_bind]
              rw [show (parts.map fun x => match x with | (i, x) => (i, ρ x)) = parts.map fun x => (x.1, ρ x.2) from rfl, hr]
              rfl
        · simp at h
    · simp at h
  case buildSlice t n parts =>
    obtain ⟨hd0, h⟩ := fresh_some h
    split at h
    · rename_i row hrow
      split at h
      · rename_i hc
        simp only [Bool.and_eq_true, decide_eq_true_eq, Nat.ble_eq] at hc
        split at h
        · rename_i xs hxs
          obtain ⟨rfl, rfl⟩ := pr_some h
          obtain ⟨el, i, z, ht, hi, hz, hby, h0, hn, hzs⟩ := rowOf_spec hrow
          generalize hks : (parts.toList.flatMap fun p => (st.ev p.2).vecs) = ks at hxs
          obtain ⟨m1, hm1, hn1, ok1⟩ := OK.freezeL st.bx ks ok (fun k b hk => .inl (hs k b hk))
          have hs1 := hs.puts (froze st.bx ks)
          have hd1 : puts (froze st.bx ks) bx dst = none := by rw [froze_other _ _ _ (.inr hd0)]; exact hdst hd0
          have hall : All2 (Rd m1 e) (parts.toList.map fun p => thaw (puts (froze st.bx ks) st.bx) (st.ev p.2)) (parts.toList.map fun p => ρ p.2) :=
            All2.map2 parts.toList fun p _ => thaw_rd ok1 hs1 ((hρ p.2).mono hm1 (.refl e))
          obtain ⟨hl, cs, c1, c2, c3⟩ := buildRows_rd hxs hall
          have hlen : parts.toList.length = n := by have := congrArg List.length hc.1; simpa using this
          have hxl : xs.length = n := by rw [hl]; simpa using hlen
          have hparts : (parts.toList.map fun p => (p.1, ρ p.2)) = ((parts.toList.map fun p => ρ p.2).zipIdx 0).map fun x => (x.2, x.1) := by
            apply List.ext_getElem?
            intro i
            simp only [List.getElem?_map, List.getElem?_zipIdx, Nat.zero_add]
            cases hp : parts.toList[i]? with
            | none => simp
            | some p =>
              have : (parts.toList.map (·.1))[i]? = (List.range n)[i]? := by rw [hc.1]
              simp only [List.getElem?_map, hp, Option.map_some] at this
              have hi := idx_lt hp
              rw [hlen] at hi
              simp [hi] at this
              simp [this]
          have hvs : ∀ v ∈ (parts.toList.map fun p => ρ p.2), v.cells.size = sz C el := by
            intro v hv
            obtain ⟨i, hi⟩ := List.getElem?_of_mem hv
            have hil := idx_lt hi
            rw [← c1] at hil
            obtain ⟨q1, v', q2, q3⟩ := c2 i cs[i] (List.getElem?_eq_getElem hil)
            rw [hi] at q2; cases q2
            rw [← Array.length_toList, q3, q1, hn]
          have hsz : ((Array.range (n * sz C el)).map fun q => z.cells[q % z.cells.size]!).size = n * sz C el := by simp
          obtain ⟨cells', f1, f2, _, f4⟩ := fill_dense (sz C el) (parts.toList.map fun p => ρ p.2) 0 ((Array.range (n * sz C el)).map fun q => z.cells[q % z.cells.size]!) hvs (by rw [hsz]; simp [← hlen])
          have hrowAt : RowAt cells' 0 row.n (RdT m1 row) xs := by
            intro i x hx
            obtain ⟨c, q1, q2⟩ := c3 i x hx
            obtain ⟨q3, v, q4, q5⟩ := c2 i c q1
            refine ⟨c, q3, q2, fun j u hu => ?_⟩
            have := f4 i v q4 j u (by rw [q5]; exact hu)
            rw [hn]; simpa using this
          have hsi : i.size = sz C el := by
            obtain ⟨dd, e1, e2, e3⟩ := sz_pos h0
            obtain ⟨ii, e4, e5⟩ := info_of_cells e3
            rw [hi] at e4; cases e4; rw [e5, e2]
          have hfill : Instr.fill (fun i_1 => some (i_1 * i.size, i.size)) ((Array.range (n * i.size)).map (z.cells[· % z.cells.size]!)) (parts.map fun x => (x.1, ρ x.2)).toList = some cells' := by
            rw [hsi, Array.toList_map, hparts]; exact f1
          have hrun : (Instr.buildSlice t n (parts.map fun x => (x.1, ρ x.2))).run C.P w = .ok (.slice (some ⟨w.heap.size, 0, none⟩) n n) (w.alloc (.cells cells' el)) := by
            by_cases hn0 : n * i.size = 0
            · have : n = 0 := by rcases Nat.mul_eq_zero.1 hn0 with h | h; exact h; omega
              subst this
              have hpe : parts = #[] := by
                have : parts.toList = [] := List.eq_nil_of_length_eq_zero hlen
                exact Array.toList_eq_nil_iff.1 this
              subst hpe
              simp [Instr.fill] at f1
              subst f1
              have hr0 : ∀ f : Nat → Value, Array.map f (Array.range 0) = #[] := fun f => by apply Array.ext'; simp
              simp [Instr.buildSlice, run_und ht, run_sz h0 w, Instr.fill, newRow, hr0]
            · refine run_buildSlice w t el n _ cells' i z ht hi hz ?_ hn0 hfill
              have hc2 := hc.2
              rw [hn, ← hsi] at hc2
              omega
          obtain ⟨ok2, he⟩ := ok1.new_vec hd1 (row := row) (xs := xs) (cap := n) (by omega) (by omega) (by rw [f2, hsz, hn]; exact Nat.le_refl _) hrowAt (grows_alloc w (.cells cells' el))
          unfold Goes Comes1
          have hrun' : (execOp ρ o).run C.P w = .ok (.value (.slice (some ⟨w.heap.size, 0, none⟩) n n)) (w.alloc (.cells cells' el)) := by
            simp only [execOp, hop, Sem.run_bind]
            rw [show (parts.map fun x => match x with | (i, x) => (i, ρ x)) = parts.map fun x => (x.1, ρ x.2) from rfl, hrun]
            rfl
          rw [hrun', puts_append]
          exact ⟨m1, _, hm1, hn1, he, ⟨some w.heap.size, xs.length, n, row.n, upd_same _ _ _, by rw [hxl]; rfl⟩, ok2, (grows_alloc _ _).below ok.size⟩
        · simp at h
      · simp at h
    · simp at h
  case load t a =>
    rw [loadK_nat] at h
    simp only [Option.bind_eq_some_iff] at h
    obtain ⟨d', h1, h2⟩ := h
    obtain ⟨rfl, rfl⟩ := pr_some h2
    obtain ⟨v, hv, hr⟩ := loadK_sound ok hg hs h1 (hρ a)
    exact goes_val (by simp [execOp, hop, hv]) (same rfl hr)
  case store t a v =>
    rw [storeK_nat] at h
    simp only [Option.bind_eq_some_iff] at h
    obtain ⟨us', h1, h2⟩ := h
    obtain ⟨rfl, rfl⟩ := pr_some h2
    obtain ⟨w1, hv, ok1, hb⟩ := storeK_sound ok hs h1 (hρ a) (hρ v)
    unfold Goes Comes1
    have hrun : (execOp ρ o).run C.P w = .ok .skip w1 := by simp [execOp, hop, hv]
    rw [hrun]
    exact ⟨m, e, .refl m, fun b o u h h' => by rw [h] at h'; simp at h', .refl e, trivial, ok1, hb⟩
  case nilCheck x =>
    have hx := hρ x
    split at h
    · rename_i k off hex
      obtain ⟨rfl, rfl⟩ := pr_some h
      rw [hex] at hx
      obtain ⟨b, hb, hv⟩ := hx
      exact goes_val (v := ρ x) (by simp [execOp, hop, hv]) (same rfl ⟨b, hb, hv⟩)
    · rename_i r y off hex
      obtain ⟨rfl, rfl⟩ := pr_some h
      rw [hex] at hx
      obtain ⟨b, o', vs, hv, hr⟩ := hx
      exact goes_val (v := ρ x) (by simp [execOp, hop, hv]) (same rfl ⟨b, o', vs, hv, hr⟩)
    · rename_i k i off hex
      obtain ⟨rfl, rfl⟩ := pr_some h
      rw [hex] at hx
      obtain ⟨b, len, cap, n, hb, hv⟩ := hx
      exact goes_val (v := ρ x) (by simp [execOp, hop, hv]) (same rfl ⟨b, len, cap, n, hb, hv⟩)
    · simp at h
  case binOp op t x y yt =>
    rw [binD_nat] at h
    simp only [Option.bind_eq_some_iff] at h
    obtain ⟨d', h1, h2⟩ := h
    obtain ⟨rfl, rfl⟩ := pr_some h2
    have hx := hρ x
    have hy := hρ y
    have fin : ∀ v, (eqGuard op t x y (ρ x) (ρ y)).run C.P w = .ok () w → (binOp op t (ρ x) (ρ y)).run C.P w = .ok v w → Rd m e d v → Goes C.P ρ o w (Res B base m e w (puts [] bx) d) :=
      fun v g1 g2 g3 => goes_val (by simp [execOp, hop, g1, g2]) (same rfl g3)
    unfold binD at h1
    split at h1
    · rename_i k a k' b hex hey
      rw [hex] at hx; rw [hey] at hy
      rw [show ρ x = _ from hx, show ρ y = _ from hy] at fin
      split at h1
      · obtain ⟨c1, h1⟩ := cond_none h1
        simp only [Option.some.injEq] at h1; subst h1
        simp only [decide_eq_false_iff_not] at c1
        exact fin _ (run_eqGuard_int _ _ _ _ _ _ _ _ _) (by simp only [binOp, Op.shift]; rw [if_neg c1]; rfl) rfl
      · obtain ⟨c1, h1⟩ := cond_none h1
        simp only [Option.some.injEq] at h1; subst h1
        simp only [decide_eq_false_iff_not] at c1
        exact fin _ (run_eqGuard_int _ _ _ _ _ _ _ _ _) (by simp only [binOp, Op.shift]; rw [if_neg c1]; rfl) rfl
      · split at h1
        · rename_i hk
          subst hk
          obtain ⟨v, g1, g2⟩ := intBin_sound (C := C) (m := m) (e := e) h1 t w
          exact fin v (run_eqGuard_int _ _ _ _ _ _ _ _ _) g1 g2
        · simp at h1
    · rename_i a b hex hey
      rw [hex] at hx; rw [hey] at hy
      rw [show ρ x = _ from hx, show ρ y = _ from hy] at fin
      obtain ⟨v, g1, g2⟩ := strBin_sound (C := C) (m := m) (e := e) h1 t w
      exact fin v (run_eqGuard_str _ _ _ _ _ _ _) g1 g2
    · rename_i a b hex hey
      rw [hex] at hx; rw [hey] at hy
      rw [show ρ x = _ from hx, show ρ y = _ from hy] at fin
      split at h1
      · rename_i ht
        simp only [Option.some.injEq] at h1; subst h1
        exact fin _ (run_eqGuard_bool _ _ _ _ _ _ _) (by simp [binOp, Op.equal, Op.maxDepth, run_equalIn_bool' w _ t a b ht]) rfl
      · rename_i ht
        simp only [Option.some.injEq] at h1; subst h1
        exact fin _ (run_eqGuard_bool _ _ _ _ _ _ _) (by simp [binOp, Op.equal, Op.maxDepth, run_equalIn_bool' w _ t a b ht]) rfl
      · simp at h1
    · rename_i xs ys hex hey
      rw [hex] at hx; rw [hey] at hy
      obtain ⟨vx, hvx, kx⟩ := hx
      obtain ⟨vy, hvy, ky⟩ := hy
      rw [hvx, hvy] at fin
      split at h1
      · rename_i hc
        simp only [Bool.and_eq_true, Bool.not_eq_true', beq_iff_eq] at hc
        have heq : ∀ r, eqD C 50 t xs ys = some r → (Op.equalIn 10000 t (.agg vx.toArray) (.agg vy.toArray)).run C.P w = .ok r w := by
          intro r hr
          have := (equalIn_sound w 50 10000 (by omega) t xs ys vx vy r hr kx ky hc.2).2.2
          simpa only [mkV, hc.1.1, if_true] using this
        split at h1
        · split at h1
          · rename_i r hr
            simp only [Option.some.injEq] at h1; subst h1
            exact fin _ (Go.Proofs.YtaldfmbnfnagjaaDoor.E.run_eqGuard_agg _ _ _ _ _ _ _ hc.1.2) (by rw [run_eql_struct, heq r hr]; rfl) rfl
          · simp at h1
        · split at h1
          · rename_i r hr
            simp only [Option.some.injEq] at h1; subst h1
            exact fin _ (Go.Proofs.YtaldfmbnfnagjaaDoor.E.run_eqGuard_agg _ _ _ _ _ _ _ hc.1.2) (by rw [run_neq_struct, heq r hr]; rfl) rfl
          · simp at h1
        · simp at h1
      · simp at h1
    · simp at h1
  case unOp op t x =>
    rw [unD_nat] at h
    simp only [Option.bind_eq_some_iff] at h
    obtain ⟨d', h1, h2⟩ := h
    obtain ⟨rfl, rfl⟩ := pr_some h2
    have hx := hρ x
    unfold unD at h1
    split at h1
    · rename_i k n hex
      simp only [Option.some.injEq] at h1; subst h1
      rw [hex] at hx
      exact goes_val (by simp [execOp, hop, show ρ x = _ from hx, Op.unary, Op.intArith]) (same rfl rfl)
    · rename_i k n hex
      simp only [Option.some.injEq] at h1; subst h1
      rw [hex] at hx
      refine goes_val (v := .int k (k.wrap (BitVec.ofInt k.bits (if k.signed then -1 else k.max) ^^^ BitVec.ofInt k.bits n).toNat)) ?_ (same rfl rfl)
      simp only [execOp, hop, show ρ x = _ from hx, Op.unary]
      rfl
    · rename_i b hex
      simp only [Option.some.injEq] at h1; subst h1
      rw [hex] at hx
      exact goes_val (by simp [execOp, hop, show ρ x = _ from hx, Op.unary]) (same rfl rfl)
    · simp at h1
  case convert s t x =>
    have hx := hρ x
    split at h
    · rename_i k' k kk n h1 h2 hex
      obtain ⟨rfl, rfl⟩ := pr_some h
      rw [hex] at hx
      exact goes_val (by simp [execOp, hop, show ρ x = _ from hx, convert, run_und h1, run_und h2, Conv.intToInt]) (same rfl rfl)
    · rename_i b h1 h2 hex
      obtain ⟨rfl, rfl⟩ := pr_some h
      rw [hex] at hx
      exact goes_val (by simp [execOp, hop, show ρ x = _ from hx, convert, run_und h1, run_und h2]) (same rfl rfl)
    · rename_i el s h1 h2 hex
      split at h
      · rename_i h3
        obtain ⟨rfl, rfl⟩ := pr_some h
        rw [hex] at hx
        obtain ⟨m', hm, hn, ok', hf⟩ := ok.fixed (w' := Lib.bytesWorld w el s) (f := fun o => if o < s.size then some (.int .u8 (s.data.toList.getD o 0).toNat) else none)
          (fun b hb => Lib.bytesWorld_at_old w el s b hb) (by rw [Lib.bytesWorld_size]; omega) (fun o u h => by
            by_cases ho : o < s.size
            · simp only [ho, if_true, Option.some.injEq] at h; subst h; exact Lib.bytesWorld_cell w el s o ho
            · simp [ho] at h)
        have hrun := Lib.run_convert_string_bytes (P := C.P) w _ _ _ s h1 h2 h3
        have hgo : (execOp ρ o).run C.P w = .ok (.value (.slice (some ⟨w.heap.size, 0, none⟩) s.size (grownCap w s.size 0 el))) (Lib.bytesWorld w el s) := by simp [execOp, hop, show ρ x = _ from hx, hrun]
        unfold Goes Comes1
        rw [hgo]
        refine ⟨m', e, hm, hn, .refl e, ?_, ok', ⟨rfl, rfl, rfl, by rw [Lib.bytesWorld_size]; omega, fun k hk => Lib.bytesWorld_at_old w el s k (by have := ok.size; omega)⟩⟩
        have hl : s.data.toList.length = s.size := by rw [Array.length_toList]; rfl
        have hl2 : (bytesL s).length = s.size := by unfold bytesL; rw [List.length_map, hl]
        refine ⟨some ⟨w.heap.size, 0, none⟩, grownCap w s.size 0 el, by rw [hl2], by rw [hl2]; exact grownCap_ge _ _ _ _, .inr ⟨_, _, rfl, fun i x hx => ?_⟩⟩
        unfold bytesL at hx
        rw [List.getElem?_map, Option.map_eq_some_iff] at hx
        obtain ⟨c, hc, rfl⟩ := hx
        have hi := idx_lt hc
        refine ⟨[.int .u8 c.toNat], rfl, rfl, fun j u hu => ?_⟩
        have hj := idx_lt hu
        simp only [List.length_cons, List.length_nil] at hj
        obtain rfl : j = 0 := by omega
        simp only [List.getElem?_cons_zero, Option.some.injEq] at hu
        subst hu
        refine hf _ _ ?_
        rw [show 0 + i * (Sh.int .u8).n + 0 = i by show 0 + i * 1 + 0 = i; omega, if_pos (by omega), List.getD_eq_getElem?_getD, hc]; rfl
      · simp at h
    · simp at h
  case fieldAddr t x f =>
    have hx := hρ x
    split at h
    · rename_i off ft hf
      unfold fieldOff at hf
      split at hf
      · rename_i fs hu
        simp only [Option.map_eq_some_iff, Prod.mk.injEq] at hf
        obtain ⟨fd, hfd, rfl, rfl⟩ := hf
        split at h
        · rename_i h0
          have hrun : ∀ b o', ρ x = .pointer (some ⟨b, o', none⟩) → (execOp ρ o).run C.P w = .ok (.value (.pointer (some ⟨b, o' + fd.offset, none⟩))) w := by
            intro b o' hv
            have h0' : ¬ (sz C fd.type = 0) := by omega
            simp [execOp, hop, hv, Instr.fieldAt, run_und hu, hfd, Instr.sureAddr, fieldPlace, run_sz h0 w, h0', addr_add]
          split at h
          · rename_i k off hex
            obtain ⟨rfl, rfl⟩ := pr_some h
            rw [hex] at hx
            obtain ⟨b, hb, hv⟩ := hx
            exact goes_val (hrun _ _ hv) (same rfl ⟨b, hb, rfl⟩)
          · rename_i r y off hex
            obtain ⟨rfl, rfl⟩ := pr_some h
            rw [hex] at hx
            obtain ⟨b, o', vs, hv, hr⟩ := hx
            exact goes_val (hrun _ _ hv) (same rfl ⟨b, o', vs, by rw [Nat.add_assoc], hr⟩)
          · rename_i k i off hex
            obtain ⟨rfl, rfl⟩ := pr_some h
            rw [hex] at hx
            obtain ⟨b, len, cap, n, hb, hv⟩ := hx
            exact goes_val (hrun _ _ hv) (same rfl ⟨b, len, cap, n, hb, by rw [Nat.add_assoc]⟩)
          · simp at h
        · simp at h
      · simp at hf
    · simp at h
  case field t x f =>
    have hx := hρ x
    split at h
    · rename_i off ft ds hf hex
      split at h
      · simp at h
      · rename_i h0
        split at h
        · rename_i c hc
          obtain ⟨rfl, rfl⟩ := pr_some h
          unfold fieldOff at hf
          split at hf
          · rename_i fs hu
            simp only [Option.map_eq_some_iff, Prod.mk.injEq] at hf
            obtain ⟨fd, hfd, rfl, rfl⟩ := hf
            rw [hex] at hx
            obtain ⟨vs, hv, k⟩ := hx
            obtain ⟨k1, k2, k3⟩ := cut_rd hc k
            have h0 : 0 < sz C fd.type := by omega
            obtain ⟨dd, hd, _, _⟩ := sz_pos h0
            have hp := run_part (C := C) w hd h0 (cs := vs.toArray) (off := fd.offset) (by simpa using k3)
            exact goes_val (v := mkV C fd.type ((vs.drop fd.offset).take (sz C fd.type))) (by simp [execOp, hop, Instr.field, run_und hu, hfd, hv, asAgg, hp]) (same rfl (mk_rd k1))
          · simp at hf
        · simp at h
    · simp at h
  case indexAddr t x i =>
    have hx := hρ x
    have hi := hρ i
    split at h
    · rename_i el row xs k n hu hex hei
      rw [hex] at hx; rw [hei] at hi
      have hi : ρ i = .int k n := hi
      split at h
      · rename_i hc
        simp only [Bool.and_eq_true, decide_eq_true_eq, Nat.ble_eq] at hc
        simp only [Option.bind_eq_some_iff] at h
        obtain ⟨y, hy, h⟩ := h
        obtain ⟨rfl, rfl⟩ := pr_some h
        unfold idx at hy
        obtain ⟨q1, hy⟩ := cond_some hy
        simp only [decide_eq_true_eq] at q1
        obtain ⟨a, cap, hv, hcap, hk⟩ := hx
        have hlt := idx_lt hy
        rcases hk with rfl | ⟨b, o', rfl, hk⟩
        · simp at hlt
        · obtain ⟨vs, r1, r2, r3⟩ := hk _ y hy
          refine goes_val (v := .pointer (some ⟨b, o' + n.toNat * sz C el, none⟩)) ?_ (same rfl ⟨b, o' + n.toNat * sz C el, vs, rfl, r2, fun j u hu => by have := r3 j u hu; rwa [hc.1] at this⟩)
          have hnl : n < (xs.length : Int) := by omega
          simp [execOp, hop, hv, hi, Instr.indexAt, asIntOf, run_und hu, run_sz hc.2 w, q1, hnl, addr_add]
      · simp at h
    · rename_i el k kk n hu hex hei
      rw [hex] at hx; rw [hei] at hi
      have hi : ρ i = .int kk n := hi
      split at h
      · rename_i row xs fz hk
        split at h
        · rename_i hc
          simp only [Bool.and_eq_true, decide_eq_true_eq, Nat.ble_eq] at hc
          obtain ⟨q1, h⟩ := cond_some h
          obtain ⟨q2, h⟩ := cond_some h
          obtain ⟨rfl, rfl⟩ := pr_some h
          simp only [decide_eq_true_eq] at q1 q2
          obtain ⟨a, len, cap, n', hek, hv⟩ := hx
          have hbx := ok.box k
          rw [hs k _ hk] at hbx
          obtain ⟨a', cap', h1, h2, h3, h4⟩ := hbx
          rw [hek] at h1; cases h1
          rcases h4 with ⟨_, hxs, _⟩ | ⟨b, ha, _⟩
          · rw [hxs] at q2; simp at q2; omega
          · subst ha
            refine goes_val (v := .pointer (some ⟨b, n.toNat * row.n + 0, none⟩)) ?_ (same rfl ⟨b, _, _, _, hek, rfl⟩)
            simp [execOp, hop, hv, hi, Instr.indexAt, asIntOf, run_und hu, run_sz hc.2 w, q1, q2, addr_add, adr, hc.1]
        · simp at h
      · simp at h
    · rename_i len el g k n hu hex hei
      rw [hex] at hx; rw [hei] at hi
      have hi : ρ i = .int k n := hi
      split at h
      · rename_i row xs hgl
        split at h
        · rename_i hc
          simp only [Bool.and_eq_true, decide_eq_true_eq, Nat.ble_eq, beq_iff_eq] at hc
          simp only [Option.bind_eq_some_iff] at h
          obtain ⟨y, hy, h⟩ := h
          obtain ⟨rfl, rfl⟩ := pr_some h
          unfold idx at hy
          obtain ⟨q1, hy⟩ := cond_some hy
          simp only [decide_eq_true_eq] at q1
          have hlt := idx_lt hy
          obtain ⟨vs, r1, r2, r3⟩ := hg g row xs hgl _ y hy
          refine goes_val (v := .pointer (some ⟨g, n.toNat * sz C el, none⟩)) ?_ (same rfl ⟨g, n.toNat * sz C el, vs, rfl, r2.mono ok.hB, fun j u hu => by have := ok.hB _ _ _ (r3 j u hu); rwa [hc.1.1.1, Nat.zero_add] at this⟩)
          have hnl : n < (len : Int) := by rw [← hc.1.2]; omega
          simp [execOp, hop, show ρ x = _ from hx, hi, Instr.indexAt, Instr.sureAddr, asIntOf, run_und hu, run_sz hc.1.1.2 w, q1, hnl, addr_add]
        · simp at h
      · simp at h
    · rename_i len el k off kk n hu hex hei
      rw [hex] at hx; rw [hei] at hi
      have hi : ρ i = .int kk n := hi
      split at h
      · rename_i hc
        have hc : 0 < sz C el := Nat.le_of_ble_eq_true hc
        obtain ⟨q1, h⟩ := cond_some h
        obtain ⟨q2, h⟩ := cond_some h
        obtain ⟨rfl, rfl⟩ := pr_some h
        simp only [decide_eq_true_eq] at q1 q2
        obtain ⟨b, hb, hv⟩ := hx
        refine goes_val (v := .pointer (some ⟨b, off + n.toNat * sz C el, none⟩)) ?_ (same rfl ⟨b, hb, rfl⟩)
        simp [execOp, hop, hv, hi, Instr.indexAt, Instr.sureAddr, asIntOf, run_und hu, run_sz hc w, q1, q2, addr_add]
      · simp at h
    · simp at h
  case index t x i =>
    have hx := hρ x
    have hi := hρ i
    split at h
    · rename_i s k n hu hex hei
      rw [hex] at hx; rw [hei] at hi
      have hi : ρ i = .int k n := hi
      simp only [Option.bind_eq_some_iff] at h
      obtain ⟨c, hc, h⟩ := h
      obtain ⟨rfl, rfl⟩ := pr_some h
      unfold sidx at hc
      obtain ⟨q1, hc⟩ := cond_some hc
      simp only [decide_eq_true_eq] at q1
      simp only [Option.map_eq_some_iff] at hc
      obtain ⟨u, hu', rfl⟩ := hc
      refine goes_val (v := .int .u8 u.toNat) ?_ (same rfl rfl)
      have hu2 := hu'
      rw [Array.getElem?_toList] at hu2
      simp [execOp, hop, show ρ x = _ from hx, hi, Instr.index, asIntOf, run_und hu, q1, sidx_get, hu2]
    · rename_i len el ds k n hu hex hei
      rw [hex] at hx; rw [hei] at hi
      have hi : ρ i = .int k n := hi
      split at h
      · rename_i hc
        simp only [Bool.and_eq_true, decide_eq_true_eq, Nat.ble_eq] at hc
        split at h
        · rename_i c hcut
          obtain ⟨rfl, rfl⟩ := pr_some h
          obtain ⟨vs, hv, kk⟩ := hx
          obtain ⟨k1, k2, k3⟩ := cut_rd hcut kk
          obtain ⟨dd, hd, _, _⟩ := sz_pos hc.2
          have hp := run_part (C := C) w hd hc.2 (cs := vs.toArray) (off := n.toNat * sz C el) (by simpa using k3)
          exact goes_val (v := mkV C el ((vs.drop (n.toNat * sz C el)).take (sz C el))) (by simp [execOp, hop, hv, hi, Instr.index, asIntOf, run_und hu, hc.1.1, hc.1.2, run_sz hc.2 w, hp]) (same rfl (mk_rd k1))
        · simp at h
      · simp at h
    · simp at h
  case extract x i =>
    have hx := hρ x
    split at h
    · rename_i ds hex
      split at h
      · rename_i d' hd
        rw [hex] at hx
        obtain ⟨vs, hv, k⟩ := hx
        obtain ⟨v, hvi, hr⟩ := k.get i d' hd
        obtain ⟨rfl, rfl⟩ := pr_some h
        exact goes_val (v := v) (by simp [execOp, hop, hv, Instr.extract, hvi]) (same rfl (.of2 hr))
      · simp at h
    · simp at h
  case makeSlice t l c =>
    obtain ⟨hd0, h⟩ := fresh_some h
    split at h
    · rename_i row n mm hrow hl hcc
      split at h
      · rename_i z0 hz0
        obtain ⟨q1, h⟩ := cond_some h
        obtain ⟨q2, h⟩ := cond_some h
        obtain ⟨q3, h⟩ := cond_some h
        obtain ⟨rfl, rfl⟩ := pr_some h
        simp only [decide_eq_true_eq, beq_iff_eq] at q1 q2 q3
        subst q3
        have hlv := hρ l; rw [hl] at hlv
        have hcv := hρ c; rw [hcc] at hcv
        obtain ⟨el, i, z, ht, hi, hz, hby, h0, hn, hzs⟩ := rowOf_spec hrow
        unfold roomy at q2
        have hrun := run_make (P := C.P) w t el i z ht hi hz .i64 .i64 n n q1 (Int.le_refl _) (by
          have : (i.bytes : Int) * n ≤ 4096 * n := Int.mul_le_mul_of_nonneg_right (by omega) q1
          omega) (by omega)
        have hsi : i.size = sz C el := by
          obtain ⟨dd, e1, e2, e3⟩ := sz_pos h0
          obtain ⟨ii, e4, e5⟩ := info_of_cells e3
          rw [hi] at e4; cases e4; rw [e5, e2]
        unfold zeroT at hz0
        rw [ht] at hz0
        simp only [zeroD, hi, hz, Option.bind_some, Option.map_some] at hz0
        have hzr : RdT m row z0 z.cells.toList := decAll_rd hz0 (leafOf_all m e _)
        have hrow : RowAt (madeCells z.cells (n.toNat * i.size)) 0 row.n (RdT m row) (List.replicate n.toNat z0) := by
          intro q x hx
          have hq := idx_lt hx
          simp only [List.length_replicate] at hq
          simp only [List.getElem?_replicate, hq, if_true, Option.some.injEq] at hx
          subst hx
          refine ⟨z.cells.toList, by rw [Array.length_toList, hzs, hn], hzr, fun j u hj => ?_⟩
          have hjl := idx_lt hj
          rw [Array.length_toList, hzs] at hjl
          have hlt : q * sz C el + j < n.toNat * sz C el := by
            have : (q + 1) * sz C el ≤ n.toNat * sz C el := Nat.mul_le_mul_right _ hq
            rw [Nat.add_mul] at this; omega
          rw [hn, hsi, Nat.zero_add]
          unfold madeCells
          rw [Array.getElem?_map, Array.getElem?_range]
          rw [if_pos hlt]
          have hmod : (q * sz C el + j) % z.cells.size = j := by rw [hzs, Nat.mul_comm, Nat.mul_add_mod, Nat.mod_eq_of_lt hjl]
          rw [Array.getElem?_toList] at hj
          simp only [Option.map_some, hmod, Option.some.injEq]
          rw [getElem!_def, hj]
        obtain ⟨ok1, he⟩ := ok.new_vec (hdst hd0) (row := row) (xs := List.replicate n.toNat z0) (cap := n.toNat) (by omega) (by simp) (by rw [size_madeCells, hsi, hn]; exact Nat.le_refl _) hrow (grows_alloc w _)
        unfold Goes Comes1
        have hrun' : (execOp ρ o).run C.P w = .ok (.value (.slice (some ⟨w.heap.size, 0, none⟩) n.toNat n.toNat)) (w.alloc (.cells (madeCells z.cells (n.toNat * i.size)) el)) := by
          simp [execOp, hop, show ρ l = _ from hlv, show ρ c = _ from hcv, hrun]
        rw [hrun']
        exact ⟨m, _, .refl m, fun b o u h h' => by rw [h] at h'; simp at h', he, ⟨some w.heap.size, (List.replicate n.toNat z0).length, n.toNat, row.n, upd_same _ _ _, by simp [adr]⟩, ok1, (grows_alloc _ _).below ok.size⟩
      · simp at h
    · simp at h
  case slice t x lo hi mx =>
    cases mx <;> simp only [coreK, reduceCtorEq] at h
    have hx := hρ x
    split at h
    · rename_i hu
      split at h
      · rename_i s hex
        rw [hex] at hx
        obtain ⟨l, h', q1, q2, q3, q4⟩ := boundK_some (C := C) (w := w) hρ h
        obtain ⟨rfl, rfl⟩ := pr_some q3
        refine goes_val (v := .string (s.extract l h')) ?_ (same rfl rfl)
        simp [execOp, hop, show ρ x = _ from hx, Instr.sliceAt, Instr.slice, run_und hu, q4 false s.size (Nat.le_refl _)]
      · simp at h
    · rename_i el hu
      split at h
      · rename_i h0
        obtain ⟨v, hrun, hr⟩ := sliceK_sound ok hs hρ hdst hu (Nat.le_of_ble_eq_true h0) h
        exact goes_val (v := v) (by simp [execOp, hop, hrun]) hr
      · simp at h
    · rename_i n el hu
      split at h
      · rename_i g hex
        rw [hex] at hx
        split at h
        · rename_i row xs hgl
          split at h
          · rename_i hc
            simp only [Bool.and_eq_true, decide_eq_true_eq, beq_iff_eq, Nat.ble_eq] at hc
            obtain ⟨l, h', q1, q2, q3, q4⟩ := boundK_some (C := C) (w := w) hρ h
            obtain ⟨rfl, rfl⟩ := pr_some q3
            have hq := q4 false n (by omega)
            rw [hc.1.2] at hq
            have hpc := SlR.piece (m := m) (n := row.n) (R := RdT m row) (a := some ⟨g, 0, none⟩) (cap := n) q1 q2 (by omega) (.inr ⟨g, 0, rfl, (hg g row xs hgl).mono ok.hB (RdT.mono ok.hB row)⟩)
            refine goes_val ?_ (same (v := .slice (if n = l then some ⟨g, 0, none⟩ else (some (⟨g, 0, none⟩ : Addr)).map (·.add (l * row.n))) (h' - l) (n - l)) rfl hpc)
            simp only [execOp, hop, Option.map_none, show ρ x = _ from hx, Instr.sliceAt, Sem.run_bind, run_und hu, Result.andThen_ok, Instr.sureAddr, Sem.run_pure, hq, run_sz hc.2 w, hc.1.1]
            split <;> rfl
          · simp at h
        · simp at h
      · simp at h
    · simp at h
  case call c =>
    have hargs : ∀ l, c.args.toList = l → c.args.map ρ = (l.map ρ).toArray := fun l hl => by
      apply Array.ext'; rw [Array.toList_map, hl]
    split at h
    · rename_i x hcal hl
      have hx := hρ x
      split at h
      · rename_i t hat
        split at h
        · rename_i s hu hex
          obtain ⟨rfl, rfl⟩ := pr_some h
          rw [hex] at hx
          exact goes_val (v := .int .i64 s.size) (by simp [execOp, hop, resolve, hcal, hargs _ hl, invoke, builtin, Builtin.len_, hat, show ρ x = _ from hx, run_und hu, goInt]) (same rfl rfl)
        · simp at h
        · rename_i el d' hu hns
          rw [lenK_nat] at h
          simp only [Option.bind_eq_some_iff] at h
          obtain ⟨d'', h1, h2⟩ := h
          obtain ⟨rfl, rfl⟩ := pr_some h2
          have run : ∀ a n cap, ρ x = .slice a n cap → (execOp ρ o).run C.P w = .ok (.value (.int .i64 n)) w := fun a n cap hv => by
            simp [execOp, hop, resolve, hcal, hargs _ hl, invoke, builtin, Builtin.len_, hat, hv, run_und hu, goInt]
          unfold lenK at h1
          split at h1
          · rename_i hex; exact absurd hex (by intro hq; exact hns _ hq)
          · rename_i row xs hex
            simp only [Option.some.injEq] at h1; subst h1
            rw [hex] at hx
            obtain ⟨a, cap, hv, _⟩ := hx
            exact goes_val (run _ _ _ hv) (same rfl rfl)
          · rename_i hex
            simp only [Option.some.injEq] at h1; subst h1
            rw [hex] at hx
            exact goes_val (run _ _ _ hx) (same rfl rfl)
          · rename_i k hex
            rw [hex] at hx
            split at h1
            · rename_i row xs fz hk
              simp only [Option.some.injEq] at h1; subst h1
              obtain ⟨a, len, cap, n, hek, hv⟩ := hx
              have hbx := ok.box k
              rw [hs k _ hk] at hbx
              obtain ⟨a', cap', e1, _⟩ := hbx
              rw [hek] at e1; cases e1
              exact goes_val (run _ _ _ hv) (same rfl rfl)
            · simp at h1
          · simp at h1
        · simp at h
      · simp at h
    · rename_i x y hcal hl
      have app : ∀ t u, c.argTypes[0]? = some t → c.argTypes[1]? = some u → sliceish C u → appendK C st dst t (st.ev x) (st.ev y) pr = some (d, us) → Goes C.P ρ o w (Res B base m e w (puts us bx) d) := by
        intro t u ht0 hu0 hsl h
        unfold appendK at h
        obtain ⟨hd0, h⟩ := fresh_some h
        have hd := hdst hd0
        have hx := hρ x
        have hy := hρ y
        split at h
        · simp at h
        · rename_i row hrow
          obtain ⟨el, i, z, ht, hi, hz, hby, h0, hn, hzs⟩ := rowOf_spec hrow
          split at h
          · simp at h
          · rename_i ys hys
            obtain ⟨m1, hm1, hn1, ok1⟩ := OK.freezeL st.bx (st.ev y).vecs ok (fun k b hk => .inl (hs k b hk))
            have hs1 := hs.puts (froze st.bx (st.ev y).vecs)
            have hd1 : puts (froze st.bx (st.ev y).vecs) bx dst = none := by rw [froze_other _ _ _ (.inr hd0)]; exact hd
            obtain ⟨news, hf, hmore⟩ := more_sound (C := C) ok1 hys (thaw_rd ok1 hs1 (hy.mono hm1 (.refl e)))
            have fin : ∀ v w', (Builtin.append_ c.argTypes o.type #[ρ x, ρ y]).run C.P w = .ok v w' → Res B base m1 e w (puts us bx) d v w' → Goes C.P ρ o w (Res B base m e w (puts us bx) d) := by
              intro v w' g1 g2
              unfold Goes Comes1
              have : (execOp ρ o).run C.P w = .ok (.value v) w' := by
                simp [execOp, hop, resolve, hcal, hargs _ hl, invoke, builtin, g1]
              rw [this]
              exact res_trans hm1 hn1 g2
            have types : ∀ (va vb : Value) ty, Builtin.append_ c.argTypes ty #[va, vb] = Builtin.append_ #[t, u] ty #[va, vb] := by
              intro va vb ty
              simp [Builtin.append_, ht0, hu0]
            split at h
            · rename_i hex
              rw [hex] at hx
              obtain ⟨q1, h⟩ := cond_some h
              obtain ⟨rfl, rfl⟩ := pr_some h
              simp only [decide_eq_true_eq] at q1
              rw [types, show ρ x = _ from hx] at fin
              rw [puts_append] at fin ⊢
              by_cases hy0 : ys.length = 0
              · have : ys = [] := List.eq_nil_of_length_eq_zero hy0
                subst this
                obtain ⟨l0, f0⟩ := hmore w (fun _ _ => rfl)
                rw [hn] at f0
                obtain ⟨ok2, he⟩ := ok1.new_none (row := row) (fz := false) hd1 (by omega)
                exact fin _ _ (run_append_none ht hsl h0 l0 f0 rfl) ⟨m1, _, .refl m1, fun b o u h h' => by rw [h] at h'; simp at h', he, ⟨none, 0, 0, row.n, upd_same _ _ _, rfl⟩, ok2, .refl _ _⟩
              · rw [hn] at hmore
                obtain ⟨cap', rest, w', hc, hrest, hgr, hrun⟩ := run_append_out (ty := o.type) (x := ρ y) (a := none) (n := 0) (cap := 0) (olds := []) ht hsl h0 hi hz hmore (fun w' _ => rfl) (by omega) (by simpa using q1) hby
                refine fin _ _ hrun ?_
                have zs : rest.toList.length + (0 + ys.length) * row.n = cap' * row.n := by
                  rw [hrest, Array.length_toList, size_zeroCells, hzs, ← hn, ← Nat.add_mul]
                  congr 1; omega
                have := grow_out ok1 hd1 (by omega) hf (cap := cap') (rest := rest.toList) (by omega) (by rw [hf.1]; simp only [Nat.zero_add] at zs; omega) (by simpa using hgr) false
                simpa [puts] using this
            · rename_i k hex
              rw [hex] at hx
              split at h
              · rename_i row' xs fz hk
                split at h
                · rename_i hr
                  subst hr
                  split at h
                  · simp at h
                  · rename_i hnk
                    obtain ⟨q1, h⟩ := cond_some h
                    obtain ⟨rfl, rfl⟩ := pr_some h
                    simp only [decide_eq_true_eq] at q1
                    have hk1 : puts (froze st.bx (st.ev y).vecs) bx k = some (.vec row' xs fz) := by
                      rw [froze_other _ _ _ (.inl fun hin => hnk (by simpa using hin))]
                      exact hs k _ hk
                    rw [types] at fin
                    rw [puts_append] at fin ⊢
                    obtain ⟨v, w', g1, g2⟩ := append_vec ok1 hk1 hd1 (ty := o.type) ht hsl hi hz hby h0 hn hzs (hx.mono hm1 (.refl e)) hf hmore q1
                    exact fin v w' g1 g2
                · simp at h
              · simp at h
            · simp at h
      split at h
      · rename_i t u ht0 hu0
        split at h
        · rename_i el hu
          split at h
          · exact app t u ht0 hu0 (.inl ⟨_, hu⟩) h
          · simp at h
        · rename_i hu
          exact app t u ht0 hu0 (.inr hu) h
        · simp at h
      · simp at h
    · rename_i x y hcal hl
      have hx := hρ x
      have hy := hρ y
      split at h
      · rename_i k a k' b hex hey
        rw [hex] at hx; rw [hey] at hy
        split at h
        · rename_i hk
          subst hk
          obtain ⟨rfl, rfl⟩ := pr_some h
          exact goes_val (v := .int k (if b < a then b else a)) (by simp [execOp, hop, resolve, hcal, hargs _ hl, invoke, builtin, Builtin.min_, show ρ x = _ from hx, show ρ y = _ from hy, Builtin.min2]) (same rfl rfl)
        · simp at h
      · simp at h
    · rename_i x y hcal hl
      have hx := hρ x
      have hy := hρ y
      split at h
      · rename_i k a k' b hex hey
        rw [hex] at hx; rw [hey] at hy
        split at h
        · rename_i hk
          subst hk
          obtain ⟨rfl, rfl⟩ := pr_some h
          exact goes_val (v := .int k (if b > a then b else a)) (by simp [execOp, hop, resolve, hcal, hargs _ hl, invoke, builtin, Builtin.max_, show ρ x = _ from hx, show ρ y = _ from hy, Builtin.max2]) (same rfl rfl)
        · simp at h
      · simp at h
    · rename_i fo hcal
      have hf := hρ fo
      generalize hl : c.args.toList = l at h
      split at h
      · rename_i f hex
        rw [hex] at hf
        have hc := callK_sound ok hfn hs (vals := l.map ρ) (All2.map2 l fun y _ => hρ y) h
        unfold Goes
        have : (execOp ρ o).run C.P w = (callFunc f (l.map ρ).toArray).run C.P w := by
          simp [execOp, hop, resolve, hcal, hargs _ hl, Deferred.ofValue, show ρ fo = _ from hf, invoke]
        rw [this]; exact hc
      · simp at h
    · simp at h
end
end Go.Proofs.YtaldfmbnfnagjaaDoor.E
