/- A part's words turned, by contract. -/
import Derived.Test.YtcgdpclhlepofaaPaE2
import Derived.Test.YtcgdpclhlepofaaPaN
import Derived.Deep.RegionWith
namespace Go.Proofs.Ytcgdpclhlepofaa
open Go.RowKit
set_option maxHeartbeats 4000000
set_option linter.unusedVariables false
set_option linter.unusedSimpArgs false

/-- The captured put and the captured function. -/
def JTu (t c1 c2 : Nat) (w : World) (F G : Nat → Prop) (l : List Int) : Prop :=
  Blk w c1 66 #[.func (.func 11) #[.pointer (some ⟨t, 0, none⟩)] #[]] ∧ Blk w c2 37 #[.func (.func 40) #[] #[]] ∧ ¬ F c1 ∧ ¬ F c2 ∧ l = [] ∧ ∀ k, ¬ G k
theorem JTu.keep {t c1 c2 : Nat} {w w' : World} {F F' G : Nat → Prop} {l : List Int} (h : JTu t c1 c2 w F G l) (hf : Fr F w F' w') : JTu t c1 c2 w' F' G l := by
  obtain ⟨h1, h2, h3, h4, h5, h6⟩ := h
  exact ⟨hf.blk h1 h3, hf.blk h2 h4, fun h => (hf.new c1 h).elim h3 fun h => by have := h1.lt; omega, fun h => (hf.new c2 h).elim h4 fun h => by have := h2.lt; omega, h5, h6⟩

theorem dbl_b (x : Int) (w : World) : Calls Try.prog 40 #[.int .u64 x] w fun e w' => e = .returned (.int .u64 (IntKind.u64.wrap (2 * x))) ∧ w' = w := by
  go_enter Try.func40, Try.ntmps40
  go_wp2
  go_ret
  exact ⟨rfl, rfl⟩
def dbl (x : Int) : Int := IntKind.u64.wrap (2 * x)

set_option maxRecDepth 100000 in
theorem turnc_call {t c1 c2 n : Nat} {F G : Nat → Prop} {s : St} {l : List Int} {nd wd : Int} {w : World} (hw : Txw w t F s) (hf : Fits s) (hb : Bud s (n + 1)) (h1 : 0 ≤ nd) (hj : JTu t c1 c2 w F G l) :
    Calls Try.prog 35 #[.int .u64 nd, .int .u64 wd, .pointer (some ⟨c1, 0, none⟩), .pointer (some ⟨c2, 0, none⟩)] w fun e w' => ∃ er l' s', Hid (stTurn dbl nd wd l s = (er, l', s')) ∧ e = .returned (.int .i64 er) ∧ l'.length ≤ l.length + 1 ∧ Fits s' ∧ Bud s' n ∧ ∃ F' G', Txw w' t F' s' ∧ JTu t c1 c2 w' F' G' l' ∧ Fr (fun k => F k ∨ G k) w (fun k => F' k ∨ G' k) w' := by
  have hj' := hj
  obtain ⟨hB1, hB2, hF1, hF2, rfl, hG⟩ := hj'
  have d1 := hB1.cell 0
  have d2 := hB2.cell 0
  simp only [List.getElem?_toArray, List.getElem?_cons_zero] at d1 d2
  have hTd := hw.drew
  have hMd := (Fr.refl F w).drew
  have e1 : w.drew.cell? ⟨c1, 0, none⟩ = some (.func (.func 11) #[.pointer (some ⟨t, 0, none⟩)] #[]) := d1
  have e2 : w.drew.cell? ⟨c2, 0, none⟩ = some (.func (.func 40) #[] #[]) := d2
  obtain ⟨u1, u2⟩ := uw_bd (2 * wd)
  have HJ := Lib.hid hj
  have HW := Lib.hid hw
  have hb : Bud s (n + 1) := hb
  clear hj hB1 hB2 hG hw
  go_enter Try.func35, Try.ntmps35
  go_wp2_with fail
  go_region_with (first | (go_at_call 40; refine (dbl_b wd _).mono ?_; rintro _ _ ⟨rfl, rfl⟩) | (go_at_call 11; refine (tput_b hTd hf hb h1 u1 u2 hMd).mono ?_; rintro _ w3 ⟨er, s3, q, rfl, f3, b3, F3, hT3, hM3⟩))
  all_goals
    have hK := HJ.out.keep (hM3)
    have hq2 : Hid (stTurn dbl nd wd [] s = (er, [], s3)) := Lib.hid (by unfold stTurn dbl; rw [q.out])
    have hfin : Hid (Fr (fun k => F k ∨ G k) w (fun k => F3 k ∨ G k) w3) := Lib.hid (hM3.side G)
    clear q hTd hMd
    go_wp2
    go_ret
    exact ⟨er, [], s3, hq2, rfl, by simp, f3, b3, F3, G, hT3, hK, hfin.out⟩
theorem turnc_law (t c1 c2 : Nat) : JLaw t (stTurn dbl) (JTu t c1 c2) 35 (fun nd wd => #[.int .u64 nd, .int .u64 wd, .pointer (some ⟨c1, 0, none⟩), .pointer (some ⟨c2, 0, none⟩)]) :=
  ⟨fun _ _ => rfl, fun _ h2 h3 => h3.keep h2, fun h1 h2 h3 _ h5 _ _ _ h9 => turnc_call h1 h2 h3 h5 h9⟩
end Go.Proofs.Ytcgdpclhlepofaa
