/- SkipMeans: two rooms, and the logs forgotten. -/
import Derived.Test.YtgbgodhkehnbdaaSkM5
import Derived.Test.YtgbgodhkehnbdaaSkM7
namespace Go.Proofs.Ytgbgodhkehnbdaa
open Go.RowKit
set_option linter.unusedVariables false

structure Duo (B : Nat → Prop) (w0 w : World) (t u : Nat) (F G : Nat → Prop) (s r : St) : Prop where
  tx : Txw w t F s
  ux : Txw w u G r
  fs : Fits s
  fr : Fits r
  fg : ∀ k, F k → ¬ G k
  zf : Fr B w0 F w
  zg : Fr B w0 G w
section
variable {t u c : Nat} {B : Nat → Prop} {w0 w w' : World} {v : Value} {F G F' G' : Nat → Prop} {s r s' r' : St} {l lt lr : List Int}
theorem Duo.left (h : Duo B w0 w t u F G s r) (hx : Txw w' t F' s') (hf : Fits s') (hm : Fr F w F' w') : Duo B w0 w' t u F' G s' r :=
  ⟨hx, h.ux.fr hm fun k hk hf => h.fg k hf hk, hf, h.fr, fun k hk hg => (hm.apart (G := G) (fun k hk => ⟨h.ux.lt k hk, fun hf => h.fg k hf hk⟩) k hg).2 hk, h.zf.trans hm, (h.zf.trans hm).into fun k hk => .inr (h.zg.new k hk)⟩
theorem Duo.right (h : Duo B w0 w t u F G s r) (hx : Txw w' u G' r') (hf : Fits r') (hm : Fr G w G' w') : Duo B w0 w' t u F G' s r' :=
  ⟨h.tx.fr hm h.fg, hx, h.fs, hf, fun k hk hg => (hm.apart (G := F) (fun k hk => ⟨h.tx.lt k hk, h.fg k hk⟩) k hk).2 hg, (h.zg.trans hm).into fun k hk => .inr (h.zf.new k hk), h.zg.trans hm⟩
theorem Duo.two (h : Duo B w0 w t u F G s r) (hs : SetOk s [] c) (hr : SetOk r [] c) : Two B w0 w t u (.slice none 0 0) F G s r [] [] [] c :=
  ⟨h.tx, h.ux, h.fs, h.fr, hs, hr, Wl.nil _, h.fg, (fun k hk => nomatch hk), h.zf, h.zg⟩

/-- Both logs are forgotten. -/
theorem Two.forget (h : Two B w0 w t u v F G s r l lt lr c) : ∃ F' G', Two B w0 ((w.setCell ⟨t, 1, none⟩ (.slice none 0 0)).setCell ⟨u, 1, none⟩ (.slice none 0 0)) t u v F' G' { s with log := [] } { r with log := [] } l lt lr c := by
  obtain ⟨F', h1, m1⟩ := h.tx.forget
  have hs : SetOk { s with log := [] } lt c := ⟨h.st.nodes, h.st.top, h.st.err, h.st.srt⟩
  have hr : SetOk { r with log := [] } lr c := ⟨h.sr.nodes, h.sr.top, h.sr.err, h.sr.srt⟩
  have k1 := h.left (s' := { s with log := [] }) h1 ⟨h.fs.words, h.fs.len, h.fs.code⟩ hs m1 (Nat.le_refl _)
  obtain ⟨G', h2, m2⟩ := k1.ux.forget
  exact ⟨F', G', k1.right (r' := { r with log := [] }) h2 ⟨h.fr.words, h.fr.len, h.fr.code⟩ hr m2 (Nat.le_refl _)⟩
end
theorem Txw.logfree {w : World} {t : Nat} {F : Nat → Prop} {s : St} (h : Txw w t F s) : w.frozen? ⟨t, 1, none⟩ = false ∧ ∃ v, w.cell? ⟨t, 1, none⟩ = some v := by
  obtain ⟨g, cap, vl, h1, _⟩ := h
  exact ⟨h1.frozen 1, vl, by rw [h1.cell]; rfl⟩
theorem Two.free {t u c : Nat} {B : Nat → Prop} {w0 w : World} {v : Value} {F G : Nat → Prop} {s r : St} {l lt lr : List Int} (h : Two B w0 w t u v F G s r l lt lr c) : w.frozen? ⟨t, 1, none⟩ = false ∧ w.frozen? ⟨u, 1, none⟩ = false ∧ t ≠ u ∧ (∃ v, w.cell? ⟨t, 1, none⟩ = some v) ∧ (∃ v, w.cell? ⟨u, 1, none⟩ = some v) ∧
    (∃ v, (w.setCell ⟨t, 1, none⟩ (.slice none 0 0)).cell? ⟨u, 1, none⟩ = some v) ∧ (w.setCell ⟨t, 1, none⟩ (.slice none 0 0)).frozen? ⟨u, 1, none⟩ = false := by
  obtain ⟨F', h1, m1⟩ := h.tx.forget
  have hux := h.ux.fr m1 fun k hk hf => h.fg k hf hk
  exact ⟨h.tx.logfree.1, h.ux.logfree.1, fun e => h.fg t h.tx.own (by rw [e]; exact h.ux.own), h.tx.logfree.2, h.ux.logfree.2, hux.logfree.2, hux.logfree.1⟩
end Go.Proofs.Ytgbgodhkehnbdaa
