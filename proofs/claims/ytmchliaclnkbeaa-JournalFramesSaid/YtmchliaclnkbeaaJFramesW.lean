/- The walk of JournalFrames, for any two slices of bytes. Conditions: they read as bytes. -/
import Derived.Test.YtmchliaclnkbeaaJAlive
open Go Go.RowKit Go.Lib
namespace Go.Proofs.Ytmchliaclnkbeaa.J
set_option linter.unusedVariables false
set_option linter.unusedSimpArgs false
theorem scanL_wf : ∀ (n : Nat) (l : List Int), l.length ≤ n → WfB l → ∀ r ∈ (scanL l).1, WfB r ∧ r.length ≤ l.length := by
  intro n
  induction n with
  | zero =>
    intro l hl hw r hr
    have : l = [] := List.length_eq_zero_iff.1 (by omega)
    subst this
    rw [scan_nil] at hr; cases hr
  | succ n ih =>
    intro l hl hw r hr
    rcases hx : nextL l with _ | q
    · rw [scanL_none hx] at hr; cases hr
    · obtain ⟨h1, h2, h3, h4⟩ := nextL_some hx
      rw [scanL_some hx] at hr
      simp only [List.mem_cons] at hr
      rcases hr with rfl | hr
      · exact ⟨by rw [h1]; exact (hw.drop _).take _, by omega⟩
      · obtain ⟨k1, k2⟩ := ih (l.drop (8 + q.length)) (by simp; omega) (hw.drop _) r hr
        exact ⟨k1, by simp at k2; omega⟩
theorem scanL_many : ∀ (n : Nat) (l : List Int), l.length ≤ n → (scanL l).1.length ≤ l.length := by
  intro n
  induction n with
  | zero =>
    intro l hl
    have : l = [] := List.length_eq_zero_iff.1 (by omega)
    subst this
    rw [scan_nil]; exact Nat.le_refl _
  | succ n ih =>
    intro l hl
    rcases hx : nextL l with _ | q
    · rw [scanL_none hx]; exact Nat.zero_le _
    · obtain ⟨h1, h2, h3, h4⟩ := nextL_some hx
      rw [scanL_some hx]
      have := ih (l.drop (8 + q.length)) (by simp; omega)
      simp at this ⊢
      omega
/-- 'Frame' of the program, and of the document, of any slice. -/
theorem frame_both (A : Option Addr) (l : List Int) (c : Nat) (hlc : l.length ≤ c) (hl : l.length ≤ 20000) (hw : WfB l) : ∃ (k : List Int) (er : Int), WfB k ∧ (∀ w, RdB w A l → Calls Try.prog 6 #[.slice A l.length c] w fun e w' => (∃ v, e = .returned (.tuple #[v, .int .i64 er]) ∧ w'.ownsRow w.heap.size 5 1 v k.length (bv k)) ∧ Below w.heap.size w w') ∧
    (∀ w, RdB w A l → Calls Try.prog 7 #[.slice A l.length c] w fun e w' => (∃ v, e = .returned (.tuple #[v, .int .i64 er]) ∧ w'.ownsRow w.heap.size 5 1 v k.length (bv k)) ∧ Below w.heap.size w w') := by
  by_cases hok : okRec l
  · refine ⟨frameL l, 0, by rw [frame_eq l hw hok.2]; exact frameR_wf l hw hok.2, fun w hr => frame_ok A l c w hok.1 hok.2 hlc hw hr, fun w hr => ?_⟩
    rw [frame_eq l hw hok.2]
    exact rframe_ok A l c w hok.1 hok.2 hlc hw hr
  · unfold okRec at hok
    refine ⟨[], 1, fun x hx => (by cases hx), fun w hr => ?_, fun w hr => ?_⟩
    · refine (frame_no A l c w (by omega) (by unfold maxLen; omega)).mono ?_
      rintro e w' ⟨rfl, rfl⟩
      exact ⟨⟨_, rfl, World.ownsRow_nil _ _ _ _⟩, Below.refl _ _⟩
    · refine (rframe_no A l c w (by omega) (by unfold maxLen; omega)).mono ?_
      rintro e w' ⟨rfl, rfl⟩
      exact ⟨⟨_, rfl, World.ownsRow_nil _ _ _ _⟩, Below.refl _ _⟩
set_option maxHeartbeats 1600000 in
set_option maxRecDepth 100000 in
theorem frames_far (A0 A1 : Option Addr) (l0 l1 : List Int) (c0 c1 : Nat) (w : World) (h : 20000 < l1.length ∨ 20000 < l0.length) (hm0 : l0.length ≤ maxLen) (hm1 : l1.length ≤ maxLen) :
    Calls Try.prog 3 #[.slice A0 l0.length c0, .slice A1 l1.length c1] w fun e w' => e = .returned (.bool true) ∧ Below w.heap.size w w' := by
  unfold maxLen at hm0 hm1
  have hal := alive_any w
  by_cases h1 : 20000 < l1.length
  · go_enter Try.func3, Try.ntmps3
    go_wp2_with (go_at_call 5; refine hal.mono ?_; rintro e w' ⟨rfl, hb⟩)
    go_ret
    exact ⟨rfl, hb⟩
  · have h2 : 20000 < l0.length := by omega
    go_enter Try.func3, Try.ntmps3
    go_wp2_with (go_at_call 5; refine hal.mono ?_; rintro e w' ⟨rfl, hb⟩)
    go_ret
    exact ⟨rfl, hb⟩
set_option maxHeartbeats 1600000 in
set_option maxRecDepth 100000 in
theorem frames_near (A0 A1 : Option Addr) (l0 l1 : List Int) (c0 c1 : Nat) (w : World) (h1 : l1.length ≤ 20000) (h0 : l0.length ≤ 20000) (hlc0 : l0.length ≤ c0) (hlc1 : l1.length ≤ c1) (hc1 : c1 ≤ 9223372036854775807) (hA1 : A1 = none → l1 = [] ∧ c1 = 0)
    (hr0 : RdB w A0 l0) (hr1 : RdB w A1 l1) (hw0 : WfB l0) (hw1 : WfB l1) :
    Calls Try.prog 3 #[.slice A0 l0.length c0, .slice A1 l1.length c1] w fun e w' => e = .returned (.bool true) ∧ Below w.heap.size w w' := by
  obtain ⟨k, er, hkw, hf, hg⟩ := frame_both A0 l0 c0 hlc0 h0 hw0
  have hs := fun W (hW : RdB W A1 l1) => scan_any A1 l1 c1 W hA1 hlc1 ⟨by omega, hc1⟩ hw1 hW
  have ht := fun W (hW : RdB W A1 l1) => rscan_any A1 l1 c1 W hA1 hlc1 ⟨by omega, hc1⟩ hw1 hW
  have hwf := scanL_wf l1.length l1 (Nat.le_refl _) hw1
  have ht2 := fun W (hW : RdB W A1 l1) => (ht W hW).mono (R' := fun e w' => (∃ v vals, e = .returned (.tuple #[v, .int .i64 (scanL l1).2]) ∧ w'.ownsRow W.heap.size 22 1 v (scanL l1).1.length vals ∧ OwnAll w' W.heap.size vals (scanL l1).1) ∧ Below W.heap.size W w') (fun e w' h => h)
  have hlen : (scanL l1).1.length ≤ maxLen := by
    have := scanL_many l1.length l1 (Nat.le_refl _)
    unfold maxLen; omega
  clear ht
  generalize scanL l1 = res at *
  have hkk : ((strL k).toList == (strL k).toList) = true := by simp
  have her : (er == er) = true := by simp
  have hnn : ((res.2 : Int) == (res.2 : Int)) = true := by simp
  go_enter Try.func3, Try.ntmps3
  go_wp2_with (first
    | (go_at_call 6; go_must (refine (hf _ hr0).mono ?_; rintro e w1 ⟨⟨v1, rfl, o1⟩, b1⟩))
    | (go_at_call 7; go_must (refine (hg _ (hr0.below b1 (Nat.le_refl _))).mono ?_; rintro e w2 ⟨⟨v2, rfl, o2⟩, b2⟩))
    | (go_at_call 8; go_must (refine (hs _ ((hr1.below b1 (Nat.le_refl _)).below b2 (Nat.le_refl _))).mono ?_; rintro e w3 ⟨⟨v3, vals3, rfl, o3, a3⟩, b3⟩; obtain ⟨A3, c3, rfl, _⟩ := own_form o3))
    | (go_at_call 9; go_must (refine (ht2 _ (((hr1.below b1 (Nat.le_refl _)).below b2 (Nat.le_refl _)).below b3 (Nat.le_refl _))).mono ?_; rintro e w4 ⟨⟨v4, vals4, rfl, o4, a4⟩, b4⟩; obtain ⟨A4, c4, rfl, _⟩ := own_form o4; have q1 := conv_own v1 k _ _ w4 (own_below (own_below (own_below o1 b2 (Nat.le_refl _)) b3 (Nat.le_refl _)) b4 (Nat.le_refl _)); have q2 := conv_own v2 k _ _ w4 (own_below (own_below o2 b3 (Nat.le_refl _)) b4 (Nat.le_refl _))))
    | (go_at_call 10; go_must (refine (same_any A3 A4 res.1 res.1 c3 c4 w4 hlen hlen (own_rdSS (own_below o3 b4 (Nat.le_refl _)) (a3.below b4 (Nat.le_refl _)) rfl) (own_rdSS o4 a4 rfl) (fun l hl => (hwf l hl).1) (fun l hl => (hwf l hl).1)).mono ?_; rintro e w5 ⟨rfl, b5⟩))
    | (go_at_call 5; go_must (refine (alive_any _).mono ?_; rintro e w6 ⟨rfl, b6⟩)))
  go_ret
  have s1 := b1.size
  have s2 := b2.size
  have s3 := b3.size
  have s4 := b4.size
  have s5 := b5.size
  exact ⟨rfl, ((((b1.trans (b2.mono s1)).trans (b3.mono (by omega))).trans (b4.mono (by omega))).trans (b5.mono (by omega))).trans (b6.mono (by omega))⟩
end Go.Proofs.Ytmchliaclnkbeaa.J
