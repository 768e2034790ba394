/- The list's looks, by contract. -/
import Derived.Test.YtcohopobjppmaaaLiG
namespace Go.Proofs.Ytcohopobjppmaaa
open Go.RowKit
set_option maxHeartbeats 4000000
set_option linter.unusedVariables false
set_option linter.unusedSimpArgs false

theorem LftG.drop {t n : Nat} {F0 : Nat → Prop} {w0 w' : World} {J : World → (Nat → Prop) → (Nat → Prop) → List Int → Prop} {s' : St} {ks : List Int} (k : LftG t n F0 w0 J s' ks w') : Lft t n F0 w0 s' w' :=
  let ⟨a, b, F', G', c, d, m⟩ := k; ⟨a, b, F', c, m.into fun k hk => .inl (.inl hk)⟩
theorem LftH.drop {t h n : Nat} {F0 F : Nat → Prop} {w0 w w' : World} {s' : St} {e' : Int} (k : LftH t h n (fun k => F k ∨ k = h) w s' e' w') (hm : Fr F0 w0 F w) (hh : w0.heap.size ≤ h) : Lft t n F0 w0 s' w' :=
  let ⟨a, b, F', c, _, _, m⟩ := k
  ⟨a, b, F', c, by
    have h1 : Fr F0 w0 (fun k => F k ∨ k = h) w := hm.into fun k hk => hk.elim .inl fun c => .inr (.inr (by rw [c]; exact hh))
    exact (h1.trans m).into fun k hk => .inl (.inl hk)⟩

set_option maxRecDepth 100000 in
theorem above_b {t n N : Nat} {F F0 : Nat → Prop} {s s' : St} {e' l key : Int} {w w0 : World} {p' : Pl} {ks' : List Int}
    (hw : Txw w t F s) (hf : Fits s) (hb : Bud s (n + 2 * N + 1)) (hN : N ≤ 60000) (hl : 0 ≤ l) (hl' : l ≤ 18446744073709551615) (hR : hfind (fun x => decide (x ≤ key)) N s 0 l = some (p', ks', e', s')) (hm : Fr F0 w0 F w) :
    Calls Try.prog 25 #[.iface 31 (.pointer (some ⟨t, 0, none⟩)), .int .u64 l, .int .u64 key] w fun en w' =>
      en = .returned (.tuple #[.int .u64 (firstOf p' e').1, .bool (firstOf p' e').2.1, .int .i64 (firstOf p' e').2.2]) ∧ p'.Bd ∧ Lft t n F0 w0 s' w' := by
  have hB := Blk.new w 23 #[.int .u64 key]
  have hT := hw.alloc (.cells #[.int .u64 key] 23)
  have hn : ¬ F w.heap.size := fun c => by have := hw.lt _ c; omega
  have hJ : JKey w.heap.size key (w.alloc (.cells #[.int .u64 key] 23)) F (fun k => k = w.heap.size) [] := ⟨hB, hn, fun k => Iff.rfl⟩
  have hM : Fr F0 w0 (fun k => F k ∨ k = w.heap.size) (w.alloc (.cells #[.int .u64 key] 23)) := (hm.alloc _).into fun k hk => hk.elim .inl fun c => .inr (.inr (by rw [c]; exact hm.size))
  clear hw hm hB
  go_enter Try.func25, Try.ntmps25
  go_wp2_with fail
  refine (first_b (n := n) (abovec_law _ key) hT hJ hf hb hN hl hl' hR hM).mono ?_
  rintro _ w6 ⟨rfl, hBd, -, hL⟩
  have hL := Lib.hid hL.drop
  have hBd := Lib.hid hBd
  clear hT hJ hM hf hb hR
  go_wp2_with fail
  go_ret3
  exact ⟨rfl, hBd.out, hL.out⟩
set_option maxRecDepth 100000 in
theorem firstk_b {t n N : Nat} {F F0 : Nat → Prop} {s s' : St} {e' l : Int} {w w0 : World} {p' : Pl} {ks' : List Int}
    (hw : Txw w t F s) (hf : Fits s) (hb : Bud s (n + 2 * N + 1)) (hN : N ≤ 60000) (hl : 0 ≤ l) (hl' : l ≤ 18446744073709551615) (hR : hfind (fun _ => false) N s 0 l = some (p', ks', e', s')) (hm : Fr F0 w0 F w) :
    Calls Try.prog 26 #[.iface 31 (.pointer (some ⟨t, 0, none⟩)), .int .u64 l] w fun en w' =>
      en = .returned (.tuple #[.int .u64 (firstOf p' e').1, .bool (firstOf p' e').2.1, .int .i64 (firstOf p' e').2.2]) ∧ p'.Bd ∧ Lft t n F0 w0 s' w' := by
  have hJ : JNo w F (fun _ => False) [] := fun k hk => hk
  have hM : Fr F0 w0 (fun k => F k ∨ False) w := hm.into fun k hk => .inl (hk.elim id False.elim)
  go_enter Try.func26, Try.ntmps26
  go_wp2_with fail
  refine (first_b (n := n) firstc_law hw hJ hf hb hN hl hl' hR hM).mono ?_
  rintro _ w6 ⟨rfl, hBd, -, hL⟩
  have hL := Lib.hid hL.drop
  have hBd := Lib.hid hBd
  clear hw hJ hM hf hb hR hm
  go_wp2_with fail
  go_ret3
  exact ⟨rfl, hBd.out, hL.out⟩
/-- What is left behind beside a list of words of the call's own. -/
def LftK (t n : Nat) (F0 : Nat → Prop) (w0 : World) (s' : St) (v : Value) (l : List Int) (w' : World) : Prop :=
  Fits s' ∧ Bud s' n ∧ Wl w' v l ∧ ∃ F', Txw w' t F' s' ∧ Fr F0 w0 (fun k => F' k ∨ own v k) w' ∧ ∀ k, own v k → ¬ F' k
def keysOf (ks : List Int) (p : Pl) (e : Int) : List Int × Int := if (firstOf p e).2.2 = 0 then (ks, 0) else ([], (firstOf p e).2.2)
set_option maxRecDepth 100000 in
theorem keys_b {t n N : Nat} {F F0 : Nat → Prop} {s s' : St} {e' l : Int} {w w0 : World} {p' : Pl} {ks' : List Int}
    (hw : Txw w t F s) (hf : Fits s) (hb : Bud s (n + 2 * N + 1)) (hN : N ≤ 60000) (hl : 0 ≤ l) (hl' : l ≤ 18446744073709551615) (hR : hfind (fun _ => true) N s 0 l = some (p', ks', e', s')) (hm : Fr F0 w0 F w) :
    Calls Try.prog 9 #[.iface 31 (.pointer (some ⟨t, 0, none⟩)), .int .u64 l] w fun en w' =>
      ∃ v, en = .returned (.tuple #[v, .int .i64 (keysOf ks' p' e').2]) ∧ LftK t n F0 w0 s' v (keysOf ks' p' e').1 w' := by
  have hB := Blk.new w 22 #[.slice none 0 0]
  have hT := hw.alloc (.cells #[.slice none 0 0] 22)
  have hn : ¬ F w.heap.size := fun c => by have := hw.lt _ c; omega
  have hJ : JSl w.heap.size (w.alloc (.cells #[.slice none 0 0] 22)) F (fun k => k = w.heap.size) [] := ⟨none, 0, hB, Wl.nil _, hn, fun k => ⟨.inl, fun c => c.elim id (fun c => nomatch c)⟩, fun k hk => nomatch hk⟩
  have hM : Fr F0 w0 (fun k => F k ∨ k = w.heap.size) (w.alloc (.cells #[.slice none 0 0] 22)) := (hm.alloc _).into fun k hk => hk.elim .inl fun c => .inr (.inr (by rw [c]; exact hm.size))
  clear hw hm hB
  go_enter Try.func9, Try.ntmps9
  go_wp2_with fail
  refine (first_b (n := n) (keysc_law _) hT hJ hf hb hN hl hl' hR hM).mono ?_
  rintro _ w6 ⟨rfl, hBd, -, hL⟩
  obtain ⟨f6, b6, F6, G6, T6, J6, m6⟩ := hL
  obtain ⟨A6, c6, hB6, hW6, hF6, hG6, ho6⟩ := J6
  generalize hx : (firstOf p' e').2.2 = x at *
  generalize (firstOf p' e').2.1 = y at *
  generalize (firstOf p' e').1 = z at *
  have d0 := hB6.cell 0
  simp only [List.getElem?_toArray, List.getElem?_cons_zero] at d0
  by_cases hz : x = 0
  · subst hz
    have hk : keysOf ks' p' e' = (ks', 0) := if_pos hx
    have hL : Hid (LftK t n F0 w0 s' (.slice A6 ks'.length c6) ks' w6) := Lib.hid ⟨f6, b6, hW6, F6, T6, m6.into fun k hk => hk.elim (fun c => .inl (.inl c)) (fun c => .inl (.inr ((hG6 k).2 (.inr c)))), fun k hk => (ho6 k hk).1⟩
    have hk := Lib.hid hk
    clear hT hJ hM hf hb hR hx T6 hB6 hW6 m6 hG6 ho6
    go_wp2_with fail
    go_ret2
    exact ⟨.slice A6 ks'.length c6, by rw [hk.out]; rfl, by rw [hk.out]; exact hL.out⟩
  · have hz' : (x != 0) = true := by simpa using hz
    have hk : keysOf ks' p' e' = ([], x) := by unfold keysOf; rw [hx]; exact if_neg hz
    have hL : Hid (LftK t n F0 w0 s' (.slice none 0 0) [] w6) := Lib.hid ⟨f6, b6, Wl.nil _, F6, T6, m6.into fun k hk => hk.elim (fun c => .inl (.inl c)) (fun c => nomatch c), fun k hk => nomatch hk⟩
    have hk := Lib.hid hk
    clear hT hJ hM hf hb hR hx T6 hB6 hW6 m6 hG6 ho6
    go_wp2_with fail
    go_ret2
    exact ⟨.slice none 0 0, by rw [hk.out]; rfl, by rw [hk.out]; exact hL.out⟩
set_option maxRecDepth 100000 in
theorem has_b {t n N : Nat} {F F0 : Nat → Prop} {s s' : St} {e' l key : Int} {w w0 : World} {p' : Pl} {ks' : List Int}
    (hw : Txw w t F s) (hf : Fits s) (hb : Bud s (n + 2 * N + 1)) (hN : N ≤ 60000) (hl : 0 ≤ l) (hl' : l ≤ 18446744073709551615) (hR : hfind (fun x => decide (x < key)) N s 0 l = some (p', ks', e', s')) (hm : Fr F0 w0 F w) :
    Calls Try.prog 23 #[.iface 31 (.pointer (some ⟨t, 0, none⟩)), .int .u64 l, .int .u64 key] w fun en w' =>
      en = .returned (.tuple #[.bool (there p' key e'), .int .i64 e']) ∧ Lft t n F0 w0 s' w' := by
  have hT := hw.alloc (.cells #[.iface 31 (.pointer (some ⟨t, 0, none⟩)), .int .i64 0] 73)
  have hH : Hnd (w.alloc (.cells #[.iface 31 (.pointer (some ⟨t, 0, none⟩)), .int .i64 0] 73)) w.heap.size t 0 := Blk.new w _ _
  have hn : ¬ F w.heap.size := fun c => by have := hw.lt _ c; omega
  have hM := hm.alloc (.cells #[.iface 31 (.pointer (some ⟨t, 0, none⟩)), .int .i64 0] 73)
  have hs := hm.size
  clear hw hm
  go_enter Try.func23, Try.ntmps23
  go_wp2_with fail
  refine (at_b (n := n) hT hH hn hf hb hN hl hl' hR (Fr.refl _ _)).mono ?_
  rintro _ w6 ⟨rfl, hBd, hL⟩
  have hL7 := hL.alloc (.cells (plc p') 81)
  obtain ⟨a, b, F6, T6, H6, n6, m6⟩ := hL7
  obtain ⟨-, d1, -⟩ := H6.cells
  have hL8 := Lib.hid (LftH.drop (LftH.alloc hL (.cells (plc p') 81)) hM hs)
  clear hT hH hM hf hb hR a b T6 H6 n6 m6 hL
  simp only [plc] at d1 hL8 ⊢
  go_wp2_with fail
  go_quiet (fail)
  go_wp2
  go_ret2
  exact ⟨rfl, hL8.out.drewN _⟩
set_option maxRecDepth 100000 in
theorem len_b {t n : Nat} {F F0 : Nat → Prop} {s s' : St} {e' l x : Int} {w w0 : World}
    (hw : Txw w t F s) (hf : Fits s) (hb : Bud s (n + 1)) (hl : 0 ≤ l) (hR : hget s 0 l = (x, e', s')) (hm : Fr F0 w0 F w) :
    Calls Try.prog 24 #[.iface 31 (.pointer (some ⟨t, 0, none⟩)), .int .u64 l] w fun en w' =>
      en = .returned (.tuple #[.int .u64 x, .int .i64 e']) ∧ Lft t n F0 w0 s' w' := by
  have hT := hw.alloc (.cells #[.iface 31 (.pointer (some ⟨t, 0, none⟩)), .int .i64 0] 73)
  have hH : Hnd (w.alloc (.cells #[.iface 31 (.pointer (some ⟨t, 0, none⟩)), .int .i64 0] 73)) w.heap.size t 0 := Blk.new w _ _
  have hn : ¬ F w.heap.size := fun c => by have := hw.lt _ c; omega
  have hM := hm.alloc (.cells #[.iface 31 (.pointer (some ⟨t, 0, none⟩)), .int .i64 0] 73)
  have hs := hm.size
  clear hw hm
  go_enter Try.func24, Try.ntmps24
  go_wp2_with fail
  refine (hget_b (n := n) hT hH hn hf hb hl (Fr.refl _ _)).mono ?_
  rintro _ w6 ⟨x6, e6, s6, q6, dx, dx', rfl, hL⟩
  obtain ⟨rfl, rfl, rfl⟩ : x6 = x ∧ e6 = e' ∧ s6 = s' := by simpa using q6.out.symm.trans hR
  obtain ⟨a, b, F6, T6, H6, n6, m6⟩ := id hL
  obtain ⟨-, d1, -⟩ := H6.cells
  have hL8 := Lib.hid (LftH.drop hL hM hs)
  clear hT hH hM hf hb hR a b T6 H6 n6 m6 hL
  go_wp2_with fail
  go_quiet (fail)
  go_wp2
  go_ret2
  exact ⟨rfl, hL8.out.drewN _⟩
end Go.Proofs.Ytcohopobjppmaaa
