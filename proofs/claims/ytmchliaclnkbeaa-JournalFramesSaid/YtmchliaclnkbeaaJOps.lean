/- The disk's Append. Conditions: a made disk that is on, slices apart from its block. -/
import Derived.Test.YtmchliaclnkbeaaJAct
open Go Go.RowKit Go.Lib
namespace Go.Proofs.Ytmchliaclnkbeaa.J
set_option linter.unusedVariables false
set_option linter.unusedSimpArgs false
theorem SlB.below {w w' : World} {v : Value} {l : List Int} {B : Nat} (h : SlB w v l) (hb : Below B w w') (hB : w.heap.size ≤ B) : SlB w' v l := by
  obtain ⟨A, c, h1, h2, h3, h4⟩ := h
  exact ⟨A, c, h1, h2, h3, h4.below hb hB⟩
theorem SlB.chg {w w' : World} {v : Value} {l : List Int} {S : Nat → Prop} (h : SlB w v l) (hb : Chg S w w') (hS : ∀ k, v.ownBlock = some k → ¬ S k) : SlB w' v l := by
  obtain ⟨A, c, rfl, h2, h3, h4⟩ := h
  refine ⟨A, c, rfl, h2, h3, fun i hi => ?_⟩
  obtain ⟨b, o, e, hc⟩ := h4 i hi
  subst e
  exact ⟨b, o, rfl, (hb.cell (p := ⟨_, _, _⟩) (block_lt_of_cell hc) (hS b rfl)).trans hc⟩
theorem SlB.form {w : World} {v : Value} {l : List Int} (h : SlB w v l) : ∃ A c, v = .slice A l.length c := by
  obtain ⟨A, c, h1, _⟩ := h
  exact ⟨A, c, h1⟩
theorem SlB.nil (w : World) : SlB w (.slice none 0 0) [] := ⟨none, 0, rfl, fun _ => rfl, Nat.le_refl _, RdB.nil _ _⟩
def AppPost (w : World) (d : Nat) (V : DV) (i : Nat) (L : Int) (ln lb : List Int) (e : Ending) (w' : World) : Prop :=
  ∃ (err : Int) (V' : DV), e = .returned (.int .i64 err) ∧ Dk w' d V' ∧ Chg (fun k => k = d) w w' ∧
    ((L < lb.length ∧ err = 11 ∧ V' = V) ∨ (¬ L < lb.length ∧ err = actE V ∧ ((actDo V = false ∧ V' = actV V) ∨ (actDo V = true ∧ ∃ v, V' = (actV V).setNow i v ∧ SlB w' v (ln ++ lb) ∧ Fresh w v))))
set_option maxHeartbeats 800000 in
set_option maxRecDepth 100000 in
theorem append_any (w : World) (d : Nat) (V : DV) (i : Nat) (hi : i < 2) (vb : Value) (l0 l1 ln lb : List Int) (h : Dk w d V) (hr : 0 < V.room) (hr2 : V.room ≤ 1048576) (ho : V.off = false) (hf : V.fuse < 9000000000000000000)
    (h0 : SlB w V.n0 l0) (h1 : SlB w V.n1 l1) (hln : ln = if i = 0 then l0 else l1) (hb : SlB w vb lb) (hl0 : l0.length ≤ 1048576) (hl1 : l1.length ≤ 1048576)
    (hd0 : ∀ k, V.n0.ownBlock = some k → k ≠ d) (hd1 : ∀ k, V.n1.ownBlock = some k → k ≠ d) (hdb : ∀ k, vb.ownBlock = some k → k ≠ d) :
    Calls Try.prog 52 #[dp d, .int .i64 i, vb] w (AppPost w d V i (V.room - l0.length - l1.length) ln lb) := by
  obtain ⟨A0, c0, e0⟩ := h0.form
  obtain ⟨A1, c1, e1⟩ := h1.form
  obtain ⟨Ab, cb, eb⟩ := hb.form
  have hw2 : ∃ w2, w2 = (w.alloc (.cells #[dp d] 35)).alloc (.cells #[vb] 22) := ⟨_, rfl⟩
  obtain ⟨w2, ew2⟩ := hw2
  have B2 : Below w.heap.size w w2 := by rw [ew2]; exact ((Below.refl _ _).alloc (Nat.le_refl _) _).alloc (by simp) _
  have hBc : w2.cell? ⟨w.heap.size + 1, 0, none⟩ = some vb := by rw [ew2]; simp
  have hDc : w2.cell? ⟨w.heap.size, 0, none⟩ = some (dp d) := by rw [ew2]; simp
  have k2 : Dk w2 d V := h.below B2 h.lt
  have hnow : V.now i = if i = 0 then V.n0 else V.n1 := rfl
  have hn : SlB w2 (V.now i) ln := by
    rw [hnow, hln]
    split
    · exact h0.below B2 (Nat.le_refl _)
    · exact h1.below B2 (Nat.le_refl _)
  have hnd : ∀ k, (V.now i).ownBlock = some k → k ≠ d := by
    rw [hnow]; split
    · exact hd0
    · exact hd1
  have hlnn : ln.length ≤ 1048576 := by rw [hln]; split <;> assumption
  have hb2 := hb.below B2 (Nat.le_refl _)
  have hm := app1_any w2 d (w.heap.size + 1) w.heap.size V i A0 A1 Ab l0.length l1.length c0 c1 lb.length cb k2 hr hr2 e0 e1 hl0 hl1 (by rw [← eb]; exact hBc) hDc
  have hact := actAppend w2 d i hi V (.pointer (some ⟨w.heap.size + 1, 0, none⟩)) (.pointer (some ⟨w.heap.size, 0, none⟩)) _ (fun V' w' => ∃ v, Dk w' d (V'.setNow i v) ∧ SlB w' v (ln ++ lb) ∧ Fresh w2 v ∧ Chg (fun k => k = d) w2 w') k2 hr ho hf hm (by
    intro hem W V' hW hc hv
    have hle : lb.length ≤ 1048576 := by
      by_cases hL : V.room - l0.length - l1.length < lb.length
      · rw [if_pos hL] at hem; cases hem
      · omega
    have hnow' : V'.now i = V.now i := by rw [hv]; unfold DV.now; rw [(DV.n_actV V).1, (DV.n_actV V).2.1]
    refine (app2_any W d (w.heap.size + 1) V' i hi vb ln lb hW (by rw [hnow']; exact hn.chg hc hnd) (hb2.chg hc hdb) ?_ hlnn hle).mono ?_
    · rw [hc.cell (p := ⟨w.heap.size + 1, 0, none⟩) (by rw [ew2]; simp) (by have := h.lt; show ¬ w.heap.size + 1 = d; omega)]; exact hBc
    · rintro e w' ⟨rfl, v, k1, k2, k3, k4⟩
      exact ⟨rfl, v, k1, k2, fun k hk => Nat.le_trans hc.size (k3 k hk), hc.trans k4⟩)
  have hact2 := hact.mono (R' := fun e w' => ∃ err, e = .returned (.int .i64 err) ∧ ActPost d V (if V.room - ↑l0.length - ↑l1.length < ↑lb.length then 11 else 0) w2 (fun V' w' => ∃ v, Dk w' d (V'.setNow i v) ∧ SlB w' v (ln ++ lb) ∧ Fresh w2 v ∧ Chg (fun k => k = d) w2 w') (.returned (.int .i64 err)) w') (by
    intro e w' hp
    rcases hp with ⟨k1, k2, k3⟩ | ⟨k1, k2, k3⟩
    · exact ⟨_, k2, Or.inl ⟨k1, rfl, k3⟩⟩
    · exact ⟨_, k2, Or.inr ⟨k1, rfl, k3⟩⟩)
  have key : ∀ err w', ActPost d V (if V.room - ↑l0.length - ↑l1.length < ↑lb.length then 11 else 0) w2 (fun V' w' => ∃ v, Dk w' d (V'.setNow i v) ∧ SlB w' v (ln ++ lb) ∧ Fresh w2 v ∧ Chg (fun k => k = d) w2 w') (.returned (.int .i64 err)) w' → AppPost w d V i (V.room - l0.length - l1.length) ln lb (.returned (.int .i64 err)) w' := by
    intro err w' hp
    have c2 : Chg (fun k => k = d) w w2 := Chg.of_below B2
    have hfr : ∀ v, Fresh w2 v → Fresh w v := fun v hv k hk => Nat.le_trans B2.size (hv k hk)
    rcases hp with ⟨k1, k2', q, rfl⟩ | ⟨k1, k2', k3⟩
    · have hL : V.room - l0.length - l1.length < lb.length := by
        by_cases hL : V.room - (l0.length : Int) - l1.length < lb.length
        · exact hL
        · rw [if_neg hL] at k1; exact absurd rfl k1
      rw [if_pos hL] at k2'
      exact ⟨err, V, rfl, k2.drewN q, c2.drewN q, Or.inl ⟨hL, by injection k2' with e; injection e, rfl⟩⟩
    · have hL : ¬ V.room - l0.length - l1.length < lb.length := fun hL => by rw [if_pos hL] at k1; cases k1
      have he : err = actE V := by injection k2' with e; injection e
      rcases k3 with ⟨a1, v, a2, a3, a4, a5⟩ | ⟨a1, a2, a3⟩
      · exact ⟨err, _, rfl, a2, c2.trans a5, Or.inr ⟨hL, he, Or.inr ⟨a1, v, rfl, a3, hfr v a4⟩⟩⟩
      · exact ⟨err, _, rfl, a2, c2.trans a3, Or.inr ⟨hL, he, Or.inl ⟨a1, rfl⟩⟩⟩
  clear hm hnow hn hnd hb2 hact hln
  generalize (if V.room - ↑l0.length - ↑l1.length < ↑lb.length then (11 : Int) else 0) = em at *
  subst eb
  go_enter Try.func52, Try.ntmps52
  go_wp2_with (go_at_call 65; go_must (rw [← ew2]; refine hact2.mono ?_; rintro e w' ⟨err, rfl, hpost⟩))
  go_ret
  exact key _ _ hpost
end Go.Proofs.Ytmchliaclnkbeaa.J
