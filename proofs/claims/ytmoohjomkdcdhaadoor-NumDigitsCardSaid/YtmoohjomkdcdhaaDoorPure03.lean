/- The plain statements of chapter 03, but for NumParses: what the laws of num compute is true, at every input. -/
import Derived.Test.YtmoohjomkdcdhaaDoorNumF
namespace Go.Proofs.YtmoohjomkdcdhaaDoor.Y
open Go.RowKit Go.Proofs.YtmoohjomkdcdhaaDoor.X Go.Proofs.YtmoohjomkdcdhaaDoorW.PrintWords Go.Proofs.YtmoohjomkdcdhaaDoorW.PrintLast Go.Proofs.YtmoohjomkdcdhaaDoorW.PrintMore
set_option linter.unusedVariables false
set_option linter.unusedSimpArgs false

theorem wf64 {a : Int} (h : (Lit.int .i64 a).wf = true) : -9223372036854775808 ≤ a ∧ a ≤ 9223372036854775807 := by
  simp [Lit.wf, IntKind.min, IntKind.max, IntKind.bits, IntKind.signed] at h; omega
theorem wf8 {a : Int} (h : (Lit.int .u8 a).wf = true) : 0 ≤ a ∧ a ≤ 255 := by
  simp [Lit.wf, IntKind.min, IntKind.max, IntKind.bits, IntKind.signed] at h; omega

theorem digits_pure (a : Int) (h : (Lit.int .i64 a).wf = true) : ∃ k, cadastrelaw03_NumDigits.f k a = some true := by
  obtain ⟨h1, h2⟩ := wf64 h
  obtain ⟨K, hK⟩ := lives_ev
  refine ⟨max K 21, ?_⟩
  have hl : cadastrelaw03_lives.f (max K 21) = some true := hK _ (by omega)
  unfold cadastrelaw03_NumDigits.f
  rw [digits_eq a h1 h2, refdigits_ev a h1 h2 _ (by omega), hl]
  simp

theorem prints_pure (a : Int) (h : (Lit.int .i64 a).wf = true) : ∃ k, cadastrelaw03_NumPrints.f k a = some true := by
  obtain ⟨h1, h2⟩ := wf64 h
  obtain ⟨K, hK⟩ := lives_ev
  obtain ⟨K2, hK2⟩ := print_ev a h1 h2
  refine ⟨max (max K 21) K2, ?_⟩
  generalize hk : max (max K 21) K2 = k
  have hl : cadastrelaw03_lives.f k = some true := hK _ (by omega)
  have hp : num_Print.f k a = some (mk (printL a)) := hK2 _ (by omega)
  have hlen := printL_len a h1 h2
  unfold cadastrelaw03_NumPrints.f cadastreref01_Can.f
  rw [hp, refprint_ev a h1 h2 _ (by omega), hl]
  simp only [Option.bind_some]
  rw [if_pos trivial, parseF_eq (by omega), parse_print a h1 h2]
  simp only [Option.bind_some]
  by_cases hm : a = -9223372036854775808
  · rw [if_neg (by simp [hm]), if_pos hm]; rfl
  · rw [if_pos (by simp [hm]), if_neg hm]; simp
end Go.Proofs.YtmoohjomkdcdhaaDoor.Y
namespace Go.Proofs.YtmoohjomkdcdhaaDoor.Pure
theorem NumDigits : ∀ (a0 : Int), (Lit.int .i64 a0).wf = true → ∃ k, Y.cadastrelaw03_NumDigits.f k a0 = some true := Y.digits_pure
theorem NumPrints : ∀ (a0 : Int), (Lit.int .i64 a0).wf = true → ∃ k, Y.cadastrelaw03_NumPrints.f k a0 = some true := Y.prints_pure
end Go.Proofs.YtmoohjomkdcdhaaDoor.Pure
