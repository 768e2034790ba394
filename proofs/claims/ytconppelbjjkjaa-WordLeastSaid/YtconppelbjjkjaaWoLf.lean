/- Floats made short and long, whatever they are. -/
import Derived.Test.YtconppelbjjkjaaWoLe
namespace Go.Proofs.Ytconppelbjjkjaa
open Go.RowKit Ieee
set_option maxHeartbeats 4000000
set_option linter.unusedVariables false
set_option linter.unusedSimpArgs false

theorem conv_none {s k : FloatKind} {src dst : TypeId} {b : Nat} (hs : (Try.prog.underlying src).isSome = true) (hd : Try.prog.underlying dst = some (.float k)) (h : floatToFloatBits s b k = none) (w : World) :
    ∃ q : Question, (q = .nanConv k b ∨ (q = .floatToFloat b ∧ (s.decode b).isNaN = false)) ∧ (convert src dst (.float s b)).run Try.prog w = .ok (.float k (q.cut (w.tape w.drawn q))) w.drew := by
  obtain ⟨u, hs'⟩ := Option.isSome_iff_exists.1 hs
  unfold floatToFloatBits at h
  split at h
  · cases h
  · rename_i hne
    split at h
    · rename_i n f hd'
      refine ⟨.nanConv k b, .inl rfl, ?_⟩
      cases u <;> simp [convert, run_underlying hs', run_underlying hd, Conv.floatToFloat, hne, hd', Question.forced]
    · cases h
    · rename_i n m e hd'
      split at h
      · rename_i hinf
        refine ⟨.floatToFloat b, .inr ⟨rfl, by rw [hd']; rfl⟩, ?_⟩
        cases u <;> simp [convert, run_underlying hs', run_underlying hd, Conv.floatToFloat, hne, hd', hinf, Question.forced]
      · cases h
/-- a long float made short: some short float -/
theorem narrow_run (b : Nat) (w : World) : ∃ p w', p < 4294967296 ∧ (w' = w ∨ w' = w.drew) ∧ (convert 23 50 (.float .f64 b)).run Try.prog w = .ok (.float .f32 p) w' := by
  cases h : floatToFloatBits .f64 b .f32 with
  | some r =>
    refine ⟨r, w, ?_, .inl rfl, run_convert_float_float (P := Try.prog) w _ _ _ _ _ _ (by kernel_rfl) (by kernel_rfl) h⟩
    have hr : ∀ d : Datum, single.write d < 4294967296 ∨ True := fun _ => .inr trivial
    unfold floatToFloatBits at h
    rw [if_neg (by decide)] at h
    split at h
    · cases h
    · cases h
      rename_i s _
      cases s <;> decide
    · split at h
      · cases h
      · cases h
        rename_i s m e _ _
        have := encode_wf .f32 (.number s m e)
        simpa [Lit.wf, FloatKind.format, single, Ieee.Format.width] using this
  | none =>
    obtain ⟨q, hq, hr⟩ := conv_none (by kernel_rfl) (by kernel_rfl) h w
    refine ⟨_, _, ?_, .inr rfl, hr⟩
    rcases hq with rfl | ⟨rfl, _⟩
    · simp only [Question.cut]; omega
    · simp only [Question.cut]; omega
/-- a short float made long -/
def Wd (p p' : Nat) : Prop := Wide p p' ∧ (nan32 p = false → p' = double.write (single.read p))
theorem wd_alike {p a b : Nat} (ha : Wd p a) (hb : Wd p b) : alike a b = true := by
  have na := like_nan ha.1.2.2
  have nb := like_nan hb.1.2.2
  cases hn : nan32 p with
  | false =>
    rw [ha.2 hn, hb.2 hn]
    simp [alike]
  | true =>
    rw [hn] at na nb
    simp [alike, ← na, ← nb]
theorem wd0 : Wd 0 0 := ⟨wide0, fun _ => by decide +kernel⟩
theorem wide_run (p : Nat) (hp : p < 4294967296) (w : World) : ∃ p' w', Wd p p' ∧ (w' = w ∨ w' = w.drew) ∧ (convert 50 23 (.float .f32 p)).run Try.prog w = .ok (.float .f64 p') w' := by
  have t1 : p % 2147483648 < 2139095040 ∨ p % 2147483648 = 2139095040 ∨ 2139095040 < p % 2147483648 := by omega
  rcases t1 with h1 | h1 | h1
  · obtain ⟨q, e1, e2, e3, e4⟩ := wide_num p h1
    have h : floatToFloatBits .f32 p .f64 = some q := by
      unfold floatToFloatBits
      rw [if_neg (by decide)]
      show (match single.read p with | .nan _ _ => none | .infinity s => some (FloatKind.f64.encode (.infinity s)) | .number s m e => if (FloatKind.f64.decode (FloatKind.f64.encode (.number s m e))).isInfinity then none else some (FloatKind.f64.encode (.number s m e))) = some q
      rw [read32_num p h1] at e1 ⊢
      show (if (double.read (double.write _)).isInfinity then none else some (double.write _)) = _
      rw [e1, e4]
      rfl
    exact ⟨q, w, ⟨⟨hp, e2, e3⟩, fun _ => e1.symm⟩, .inl rfl, run_convert_float_float (P := Try.prog) w _ _ _ _ _ _ (by kernel_rfl) (by kernel_rfl) h⟩
  · obtain ⟨e1, e2⟩ := wide_inf p h1
    have h : floatToFloatBits .f32 p .f64 = some (double.write (single.read p)) := by
      unfold floatToFloatBits
      rw [if_neg (by decide)]
      show (match single.read p with | .nan _ _ => none | .infinity s => some (FloatKind.f64.encode (.infinity s)) | .number s m e => if (FloatKind.f64.decode (FloatKind.f64.encode (.number s m e))).isInfinity then none else some (FloatKind.f64.encode (.number s m e))) = _
      rw [read32_inf p h1]
      rfl
    exact ⟨_, w, ⟨⟨hp, e2, e1⟩, fun _ => rfl⟩, .inl rfl, run_convert_float_float (P := Try.prog) w _ _ _ _ _ _ (by kernel_rfl) (by kernel_rfl) h⟩
  · have h : floatToFloatBits .f32 p .f64 = none := by
      unfold floatToFloatBits
      rw [if_neg (by decide)]
      show (match single.read p with | .nan _ _ => none | .infinity s => some (FloatKind.f64.encode (.infinity s)) | .number s m e => if (FloatKind.f64.decode (FloatKind.f64.encode (.number s m e))).isInfinity then none else some (FloatKind.f64.encode (.number s m e))) = _
      rw [read32_nan p h1]
    obtain ⟨q, hq, hr⟩ := conv_none (by kernel_rfl) (by kernel_rfl) h w
    rcases hq with rfl | ⟨rfl, hf⟩
    · refine ⟨_, _, ⟨⟨hp, ?_, wide_nan p _ h1 ?_⟩, fun hn => ?_⟩, .inr rfl, hr⟩
      · simp only [Question.cut]; omega
      · refine decide_eq_true ?_
        generalize w.tape w.drawn _ = t
        show 9218868437227405312 < (t % 2 * 9223372036854775808 + 9218868437227405312 + 1 + t / 2 % 4503599627370495) % 9223372036854775808
        rcases Nat.mod_two_eq_zero_or_one t with e | e <;> rw [e] <;> omega
      · have : nan32 p = true := decide_eq_true h1
        rw [this] at hn
        cases hn
    · exfalso
      have : (single.read p).isNaN = false := hf
      rw [read32_nan p h1] at this
      cases this
end Go.Proofs.Ytconppelbjjkjaa
