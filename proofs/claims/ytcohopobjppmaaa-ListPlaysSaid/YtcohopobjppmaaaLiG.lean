/- The first key that is not passed over, by contract. -/
import Derived.Test.YtcohopobjppmaaaLiE
namespace Go.Proofs.Ytcohopobjppmaaa
open Go.RowKit
set_option maxHeartbeats 4000000
set_option linter.unusedVariables false
set_option linter.unusedSimpArgs false

/-- What is left behind, with what was asked. -/
def LftG (t n : Nat) (F0 : Nat → Prop) (w0 : World) (J : World → (Nat → Prop) → (Nat → Prop) → List Int → Prop) (s' : St) (ks : List Int) (w' : World) : Prop :=
  Fits s' ∧ Bud s' n ∧ ∃ F' G', Txw w' t F' s' ∧ J w' F' G' ks ∧ Fr F0 w0 (fun k => F' k ∨ G' k) w'
def firstOf (p : Pl) (e : Int) : Int × Bool × Int := if e ≠ 0 ∨ p.next = 0 then (0, false, e) else (p.key, true, 0)
theorem hfind_len {q : Int → Bool} {N : Nat} {s s' : St} {e e' l : Int} {p : Pl} {ks : List Int} (h : hfind q N s e l = some (p, ks, e', s')) : ks.length ≤ N := by
  have key : ∀ (k : Nat) (count last : Int) (p0 : Pl) (ks0 : List Int) (e0 : Int) (s0 : St), fGo q count k last p0 ks0 e0 s0 = some (p, ks, e', s') → ks.length ≤ ks0.length + k := by
    intro k
    induction k with
    | zero => intro _ _ _ _ _ _ h; simp [fGo] at h
    | succ k ih =>
      intro count last p0 ks0 e0 s0 h
      rw [fGo] at h
      split at h
      split at h
      · simp only [Option.some.injEq, Prod.mk.injEq] at h; rw [← h.2.1]; omega
      · split at h
        · simp only [Option.some.injEq, Prod.mk.injEq] at h; rw [← h.2.1]; omega
        · split at h
          split at h
          · simp only [Option.some.injEq, Prod.mk.injEq] at h; rw [← h.2.1]; omega
          · split at h
            · simp only [Option.some.injEq, Prod.mk.injEq] at h; rw [← h.2.1]; omega
            · split at h
              · simp only [Option.some.injEq, Prod.mk.injEq] at h; rw [← h.2.1]; simp
              · have := ih _ _ _ _ _ _ h; simp at this; omega
  unfold hfind at h
  split at h
  have := key _ _ _ _ _ _ _ h
  simpa using this

set_option maxRecDepth 100000 in
theorem first_b {t n N gf : Nat} {F F0 G : Nat → Prop} {s s' : St} {e' l : Int} {w w0 : World} {J : World → (Nat → Prop) → (Nat → Prop) → List Int → Prop} {q : Int → Bool} {cap : Array Value} {p' : Pl} {ks' : List Int}
    (HJ : PLaw q J gf fun key => #[.int .u64 key] ++ cap)
    (hw : Txw w t F s) (hj : J w F G []) (hf : Fits s) (hb : Bud s (n + 2 * N + 1)) (hN : N ≤ 60000) (hl : 0 ≤ l) (hl' : l ≤ 18446744073709551615) (hR : hfind q N s 0 l = some (p', ks', e', s'))
    (hm : Fr F0 w0 (fun k => F k ∨ G k) w) :
    Calls Try.prog 28 #[.iface 31 (.pointer (some ⟨t, 0, none⟩)), .int .u64 l, .func (.func gf) #[] cap] w fun en w' =>
      en = .returned (.tuple #[.int .u64 (firstOf p' e').1, .bool (firstOf p' e').2.1, .int .i64 (firstOf p' e').2.2]) ∧ p'.Bd ∧ ks'.length ≤ N ∧ LftG t n F0 w0 J s' ks' w' := by
  have hlt := HJ.lt hj
  have hT := hw.alloc (.cells #[.iface 31 (.pointer (some ⟨t, 0, none⟩)), .int .i64 0] 73)
  have hH : Hnd (w.alloc (.cells #[.iface 31 (.pointer (some ⟨t, 0, none⟩)), .int .i64 0] 73)) w.heap.size t 0 := Blk.new w _ _
  have hn : ¬ F w.heap.size := fun c => by have := hw.lt _ c; omega
  have hJ : J (w.alloc (.cells #[.iface 31 (.pointer (some ⟨t, 0, none⟩)), .int .i64 0] 73)) (fun k => F k ∨ k = w.heap.size) G [] := HJ.keep hj (fun k hk => Below.heap_alloc w _ k (hlt k hk).1) fun k hk c => c.elim (hlt k hk).2 fun c => by have := (hlt k hk).1; omega
  have hM : Fr F0 w0 (fun k => (F k ∨ k = w.heap.size) ∨ G k) (w.alloc (.cells #[.iface 31 (.pointer (some ⟨t, 0, none⟩)), .int .i64 0] 73)) :=
    (hm.alloc _).into fun k hk => hk.elim (fun c => c.elim (fun c => .inl (.inl c)) fun c => .inr (.inr (by rw [c]; exact hm.size))) fun c => .inl (.inr c)
  have HJ := Lib.hid HJ
  have hR := Lib.hid hR
  clear hw hj hm hlt
  go_enter Try.func28, Try.ntmps28
  go_wp2_with fail
  generalize w.alloc (.cells #[.iface 31 (.pointer (some ⟨t, 0, none⟩)), .int .i64 0] 73) = w1 at *
  generalize w.heap.size = h at *
  refine (find_b (n := n) HJ.out hT hH hn hJ hf hb hN hl hl' hR.out hM).mono ?_
  rintro _ w6 ⟨rfl, hBd, hks, hL⟩
  have hP := Blk.new w6 81 (plc p')
  have hL7 : Hid (LftG t n F0 w0 J s' ks' (w6.alloc (.cells (plc p') 81))) ∧ Hnd (w6.alloc (.cells (plc p') 81)) h t e' := by
    obtain ⟨a, b, F', G', c, d, f, g, m⟩ := hL
    have hlt := HJ.out.lt g
    exact ⟨Lib.hid ⟨a, b, F', G', c.alloc _, HJ.out.keep g (fun k hk => Below.heap_alloc w6 _ k (hlt k hk).1) (fun k hk c => (hlt k hk).2 (.inl c)), (m.alloc _).into fun k hk => hk.elim (fun c => .inl (.inl (.inl c))) fun c => .inl (.inr c)⟩, Blk.alloc d _⟩
  obtain ⟨hL7, hH7⟩ := hL7
  have hBd := Lib.hid hBd
  clear hL hT hH hn hJ hM hb hf hR
  simp only [plc] at hP hL7 hH7 ⊢
  obtain ⟨-, d1, -⟩ := hH7.cells
  have p0 := hP.cell 0
  have p1 := hP.cell 1
  have p2 := hP.cell 2
  have p3 := hP.cell 3
  simp only [List.getElem?_toArray, List.getElem?_cons_zero, List.getElem?_cons_succ] at p0 p1 p2 p3
  clear hP hH7
  by_cases he : e' = 0
  case neg =>
    have z : (e' != 0) = true := by simpa using he
    have ho : firstOf p' e' = (0, false, e') := if_pos (.inl he)
    have ho := Lib.hid ho
    clear he
    go_wp2_with fail
    go_quiet (fail)
    go_wp2
    refine bodyPost_ret (v := .tuple #[.int .u64 (0), .bool false, .int .i64 (e')]) (by simp [results, Try.func28, go_sem]) rfl ?_
    refine ⟨by rw [ho.out], hBd.out, hks, let ⟨a, b, F', G', c, d, m⟩ := hL7.out; ⟨a, b, F', G', c.drewN _, HJ.out.keep d (fun _ _ => rfl) (fun k hk => (HJ.out.lt d k hk).2), m.drewN _⟩⟩
  subst he
  by_cases hx : p'.next = 0
  · have z : (p'.next == 0) = true := by simpa using hx
    have ho : firstOf p' 0 = (0, false, 0) := if_pos (.inr hx)
    have ho := Lib.hid ho
    clear hx
    go_wp2_with fail
    go_quiet (fail)
    go_wp2
    refine bodyPost_ret (v := .tuple #[.int .u64 (0), .bool false, .int .i64 (0)]) (by simp [results, Try.func28, go_sem]) rfl ?_
    refine ⟨by rw [ho.out], hBd.out, hks, let ⟨a, b, F', G', c, d, m⟩ := hL7.out; ⟨a, b, F', G', c.drewN _, HJ.out.keep d (fun _ _ => rfl) (fun k hk => (HJ.out.lt d k hk).2), m.drewN _⟩⟩
  · have z : (p'.next == 0) = false := by simpa using hx
    have ho : firstOf p' 0 = (p'.key, true, 0) := if_neg (by simpa using hx)
    have ho := Lib.hid ho
    clear hx
    go_wp2_with fail
    refine bodyPost_ret (v := .tuple #[.int .u64 (p'.key), .bool true, .int .i64 (0)]) (by simp [results, Try.func28, go_sem]) rfl ?_
    refine ⟨by rw [ho.out], hBd.out, hks, hL7.out⟩
theorem first_nil {l : Int} {f : Value} {w : World} : Calls Try.prog 28 #[.nilIface, .int .u64 l, f] w fun en w' => en = .returned (.tuple #[.int .u64 0, .bool false, .int .i64 1]) ∧ w' = w := by
  go_enter Try.func28, Try.ntmps28
  go_wp2
  refine bodyPost_ret (v := .tuple #[.int .u64 0, .bool false, .int .i64 1]) (by simp [results, Try.func28, go_sem]) rfl ?_
  exact ⟨rfl, rfl⟩
end Go.Proofs.Ytcohopobjppmaaa
