/- The journal's Drop and Commit. Conditions: an opened journal of a disk that is on. -/
import Derived.Test.YtmchliaclnkbeaaJOpsE
open Go Go.RowKit Go.Lib
namespace Go.Proofs.Ytmchliaclnkbeaa.J
set_option linter.unusedVariables false
set_option linter.unusedSimpArgs false
set_option maxHeartbeats 400000 in
theorem drop_any (w : World) (j d : Nat) (live : Int) (g : Value) (many : Int) (h : Jn w j d live g many) :
    Calls Try.prog 41 #[dp j] w fun e w' => e = .returned (.int .i64 many) ∧ Jn w' j d live (.slice none 0 0) 0 ∧ Chg (fun k => k = j) w w' := by
  have hk := jok w j d live _ many h
  have HK := Lib.hid h
  have e2 := h.cell 2
  have e3 := h.cell 3
  have f2 := h.frozen 2
  have f3 := h.frozen 3
  simp at e2 e3
  clear h
  go_enter Try.func41, Try.ntmps41
  go_wp2_with (go_at_call 47; refine hk.mono ?_; rintro e w' ⟨rfl, rfl⟩)
  go_ret
  exact ⟨rfl, (HK.out.set 2 _).set 3 _, ((Chg.refl (fun k => k = j) w).setCell (fun _ => rfl) _).setCell (fun _ => rfl) _⟩
/-- What is left behind an append that was done. -/
theorem AppPost.ok {w w' : World} {d : Nat} {V : DV} {i : Nat} {L : Int} {ln lb : List Int} (h : AppPost w d V i L ln lb (.returned (.int .i64 0)) w') (ho : V.off = false) :
    ¬ L < lb.length ∧ V.fuse ≠ 0 ∧ ∃ v, Dk w' d ((actV V).setNow i v) ∧ SlB w' v (ln ++ lb) ∧ Fresh w v ∧ Chg (fun k => k = d) w w' ∧ ((actV V).setNow i v).off = false ∧ ((actV V).setNow i v).fuse ≤ V.fuse ∧ ((actV V).setNow i v).room = V.room := by
  obtain ⟨err, V', he, hk, hc, hp⟩ := h
  injection he with he; injection he with _ he
  subst he
  rcases hp with ⟨_, x, _⟩ | ⟨hL, hE, hp⟩
  · cases x
  · have hf : V.fuse ≠ 0 := fun e => by unfold actE at hE; rw [if_pos e] at hE; cases hE
    have hdo : actDo V = true := by unfold actDo; simp [hf]
    rcases hp with ⟨x, _⟩ | ⟨_, v, rfl, h1, h2⟩
    · rw [hdo] at x; cases x
    · refine ⟨hL, hf, v, hk, h1, h2, hc, ?_, ?_, ?_⟩
      all_goals
        unfold actV DV.setNow
        by_cases h3 : 0 < V.fuse
        · rw [if_pos h3]; split <;> (first | exact ho | (simp only; omega) | rfl)
        · rw [if_neg h3, if_neg hf]; split <;> (first | exact ho | (simp only; omega) | rfl)
def CommitPost (w : World) (j d : Nat) (live : Nat) (g : Value) (gl : List Int) (many : Int) (V : DV) (L : Int) (ln : List Int) (e : Ending) (w' : World) : Prop :=
  ∃ q w1 err, AppPost (w.drewN q) d V live L ln gl (.returned (.int .i64 err)) w1 ∧
    ((err ≠ 0 ∧ e = .returned (.int .i64 err) ∧ w' = w1) ∨
     (err = 0 ∧ ∃ q2 w2 v, Dk w1 d ((actV V).setNow live v) ∧ SyncPost (w1.drewN q2) d ((actV V).setNow live v) live (.returned (.int .i64 (actE ((actV V).setNow live v)))) w2 ∧
       ((actE ((actV V).setNow live v) ≠ 0 ∧ e = .returned (.int .i64 (actE ((actV V).setNow live v))) ∧ w' = w2) ∨
        (actE ((actV V).setNow live v) = 0 ∧ e = .returned (.int .i64 0) ∧ Jn w' j d live (.slice none 0 0) 0 ∧ Chg (fun k => k = j) w2 w'))))
theorem commit_none (w : World) (j d : Nat) (live : Int) (g : Value) (h : Jn w j d live g 0) : Calls Try.prog 31 #[dp j] w fun e w' => e = .returned (.int .i64 0) ∧ w = w' := by
  have hk := jok w j d live _ 0 h
  have e3 := h.cell 3
  simp at e3
  clear h
  go_enter Try.func31, Try.ntmps31
  go_wp2_with (go_at_call 47; refine hk.mono ?_; rintro e w' ⟨rfl, rfl⟩)
  go_ret
  exact ⟨rfl, rfl⟩
set_option maxHeartbeats 800000 in
set_option maxRecDepth 100000 in
theorem commit_any (w : World) (j d : Nat) (live : Nat) (hi : live < 2) (g : Value) (gl : List Int) (many : Int) (hmz : many ≠ 0) (h : Jn w j d live g many) (hjd : j ≠ d) (V : DV) (l0 l1 ln : List Int) (hd : Dk w d V) (hr : 0 < V.room) (hr2 : V.room ≤ 1048576) (ho : V.off = false) (hf : V.fuse < 9000000000000000000)
    (h0 : SlB w V.n0 l0) (h1 : SlB w V.n1 l1) (hln : ln = if live = 0 then l0 else l1) (hg : SlB w g gl) (hl0 : l0.length ≤ 1048576) (hl1 : l1.length ≤ 1048576)
    (hd0 : ∀ k, V.n0.ownBlock = some k → k ≠ d) (hd1 : ∀ k, V.n1.ownBlock = some k → k ≠ d) (hdg : ∀ k, g.ownBlock = some k → k ≠ d) :
    Calls Try.prog 31 #[dp j] w (CommitPost w j d live g gl many V (V.room - l0.length - l1.length) ln) := by
  have hk := jok w j d live _ many h
  have dr := fun q => (Below.refl w.heap.size w).drewN q
  have happ := fun q => (append_any (w.drewN q) d V live hi g l0 l1 ln gl (hd.drewN q) hr hr2 ho hf (h0.below (dr q) (Nat.le_refl _)) (h1.below (dr q) (Nat.le_refl _)) hln (hg.below (dr q) (Nat.le_refl _)) hl0 hl1 hd0 hd1 hdg).mono (R' := fun e w' => ∃ err, e = .returned (.int .i64 err) ∧ AppPost (w.drewN q) d V live (V.room - l0.length - l1.length) ln gl (.returned (.int .i64 err)) w') (by
    rintro e w' ⟨err, V', rfl, hp⟩
    exact ⟨err, rfl, err, V', rfl, hp⟩)
  have hz : (many == 0) = false := by rw [beq_eq_false_iff_ne]; exact hmz
  have e0 := h.cell 0
  have e1 := h.cell 1
  have e2 := h.cell 2
  have e3 := h.cell 3
  simp at e0 e1 e2 e3
  obtain ⟨Ag, cg, eg⟩ := hg.form
  have HK := Lib.hid h
  have hjl := h.lt
  have hn0 : ∃ A n c, V.n0 = .slice A n c := by obtain ⟨A, c, e, _⟩ := h0; exact ⟨_, _, _, e⟩
  have hn1 : ∃ A n c, V.n1 = .slice A n c := by obtain ⟨A, c, e, _⟩ := h1; exact ⟨_, _, _, e⟩
  clear h hd h0 h1 hln hg hmz
  subst eg
  generalize V.room - l0.length - l1.length = L at *
  go_enter Try.func31, Try.ntmps31
  go_upto_region 5 with (go_at_call 47; refine hk.mono ?_; rintro e w' ⟨rfl, rfl⟩)
  go_cut [3] from 13 to 25 (fun v3 w3 => ∃ err q, v3 = .int .i64 err ∧ AppPost (w.drewN q) d V live L ln gl (.returned (.int .i64 err)) w3)
  case first =>
    go_region_with (go_at_call 52; go_must (refine (happ 1).mono ?_; rintro e w1 ⟨err, rfl, hp⟩))
    all_goals
      go_wp2_with fail
      go_simp
      go_meet
      case rel => exact ⟨err, 1, rfl, hp⟩
  case rest =>
    obtain ⟨err, q, rfl, hp⟩ := hcut
    obtain ⟨wx, rfl⟩ : ∃ wx : World, wx = wc := ⟨_, rfl⟩
    by_cases hez : err = 0
    · subst hez
      obtain ⟨hL, hfu, v, hkd, hsl, hfr, hcg, hoff, hfu2, hrm⟩ := hp.ok ho
      have hjn : Jn wx j d live (.slice Ag gl.length cg) many := (HK.out.drewN q).chg hcg hjd
      have f0 := hjn.cell 0
      have f1 := hjn.cell 1
      simp at f0 f1
      have hsl2 : ((actV V).setNow live v).sl := by
        obtain ⟨A, c, ev, _⟩ := hsl
        have h5 := DV.n_actV V
        unfold DV.sl DV.setNow
        split
        · exact ⟨⟨_, _, _, ev⟩, by rw [h5.2.1]; exact hn1⟩
        · exact ⟨by rw [h5.1]; exact hn0, ⟨_, _, _, ev⟩⟩
      generalize hV1 : (actV V).setNow live v = V1 at *
      have HV1 := Lib.hid hV1
      have hsy := fun q2 => (sync_any (wx.drewN q2) d V1 live hi (hkd.drewN q2) (by rw [hrm]; exact hr) hoff (by omega) hsl2).mono (R' := fun e w' => e = .returned (.int .i64 (actE V1)) ∧ SyncPost (wx.drewN q2) d V1 live (.returned (.int .i64 (actE V1))) w') (by
        rintro e w' ⟨V', rfl, hp⟩
        exact ⟨rfl, V', rfl, hp⟩)
      have HKD := Lib.hid hkd
      have HP := Lib.hid hp
      have HJ := Lib.hid hjn
      clear hV1 hp hjn hkd hsl hsl2
      generalize hE : actE V1 = e2' at *
      have HE := Lib.hid hE
      clear hE
      go_upto_region 8 with (fail)
      go_cut [4] from 29 to 37 (fun v4 w4 => v4 = .int .i64 e2' ∧ ∃ q2, SyncPost (wx.drewN q2) d V1 live (.returned (.int .i64 e2')) w4)
      case first =>
        go_region_with (go_at_call 53; go_must (refine (hsy 1).mono ?_; rintro e w2 ⟨rfl, hs2⟩))
        all_goals
          go_wp2_with fail
          go_simp
          go_meet
          case rel => exact ⟨rfl, 1, hs2⟩
      case rest =>
        obtain ⟨rfl, q2, hs2⟩ := hcut
        by_cases hez2 : e2' = 0
        · subst hez2
          obtain ⟨V2, _, hk2, hc2, _⟩ := id hs2
          have hj2 : Jn wc j d live (.slice Ag gl.length cg) many := (HJ.out.drewN q2).chg hc2 hjd
          have hdr2 := drop_any wc j d live _ many hj2
          have HS2 := Lib.hid hs2
          clear hs2 hj2
          go_wp2_with (go_at_call 41; refine hdr2.mono ?_; rintro e w5 ⟨rfl, hj5, hc5⟩)
          go_ret
          refine ⟨q, wx, 0, HP.out, Or.inr ⟨rfl, q2, wc, v, ?_, ?_, Or.inr ⟨?_, rfl, hj5, hc5⟩⟩⟩
          · rw [HV1.out]; exact HKD.out
          · rw [HV1.out, HE.out]; exact HS2.out
          · rw [HV1.out]; exact HE.out
        · have hb2 : (e2' != 0) = true := by rw [bne_iff_ne]; exact hez2
          have HEZ2 := Lib.hid hez2
          clear hez2
          go_wp2
          go_ret
          refine ⟨q, wx, 0, HP.out, Or.inr ⟨rfl, q2, wc, v, ?_, ?_, Or.inl ⟨?_, ?_, rfl⟩⟩⟩
          · rw [HV1.out]; exact HKD.out
          · rw [HV1.out, HE.out]; exact hs2
          · rw [HV1.out, HE.out]; exact HEZ2.out
          · rw [HV1.out, HE.out]; rfl
    · have hb1 : (err != 0) = true := by rw [bne_iff_ne]; exact hez
      have HEZ := Lib.hid hez
      clear hez
      go_wp2
      go_ret
      exact ⟨q, wx, err, hp, Or.inl ⟨HEZ.out, rfl, rfl⟩⟩
end Go.Proofs.Ytmchliaclnkbeaa.J
