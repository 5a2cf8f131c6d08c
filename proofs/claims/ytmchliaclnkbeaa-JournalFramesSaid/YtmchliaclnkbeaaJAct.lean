/- The disk's act, with the two literals of Append, and of Sync: what the fuse lets be done. Conditions: a made disk that is on. -/
import Derived.Test.YtmchliaclnkbeaaJDkB
open Go Go.RowKit Go.Lib
namespace Go.Proofs.Ytmchliaclnkbeaa.J
set_option linter.unusedVariables false
set_option linter.unusedSimpArgs false
def actE (V : DV) : Int := if V.fuse = 0 then 12 else 0
def actV (V : DV) : DV := if 0 < V.fuse then { V with fuse := V.fuse - 1 } else if V.fuse = 0 then { V with off := true, fuse := -1 } else V
def actDo (V : DV) : Bool := !decide (V.fuse = 0) || V.beh
theorem DV.n_actV (V : DV) : (actV V).n0 = V.n0 ∧ (actV V).n1 = V.n1 ∧ (actV V).s0 = V.s0 ∧ (actV V).s1 = V.s1 ∧ (actV V).room = V.room := by
  unfold actV; split
  · exact ⟨rfl, rfl, rfl, rfl, rfl⟩
  · split <;> exact ⟨rfl, rfl, rfl, rfl, rfl⟩
def ActPost (d : Nat) (V : DV) (em : Int) (w : World) (R : DV → World → Prop) (e : Ending) (w' : World) : Prop :=
  (em ≠ 0 ∧ e = .returned (.int .i64 em) ∧ ∃ q, w' = w.drewN q) ∨ (em = 0 ∧ e = .returned (.int .i64 (actE V)) ∧ ((actDo V = true ∧ R (actV V) w') ∨ (actDo V = false ∧ Dk w' d (actV V) ∧ Chg (fun k => k = d) w w')))
theorem Dk.fuse {w : World} {d : Nat} {V : DV} (h : Dk w d V) (x : Int) : Dk (w.setCell ⟨d, 9, none⟩ (.int .i64 x)) d { V with fuse := x } := Blk.set h 9 _
set_option maxHeartbeats 800000 in
set_option maxRecDepth 100000 in
theorem actAppend (w : World) (d i : Nat) (hi : i < 2) (V : DV) (pb pd : Value) (em : Int) (R : DV → World → Prop) (h : Dk w d V) (hr : 0 < V.room) (ho : V.off = false) (hf : V.fuse < 9000000000000000000)
    (hm : Calls Try.prog 66 #[.pointer (some ⟨d, 3 * i, none⟩), pb, pd] w fun e w' => e = .returned (.int .i64 em) ∧ ∃ q, w' = w.drewN q)
    (hd : em = 0 → ∀ (W : World) (V' : DV), Dk W d V' → Chg (fun k => k = d) w W → V' = actV V → Calls Try.prog 67 #[.pointer (some ⟨d, 3 * i, none⟩), pb] W fun e w' => e = .returned (.tuple #[]) ∧ R V' w') :
    Calls Try.prog 65 #[dp d, .int .i64 i, .func (.func 66) #[] #[pb, pd], .func (.func 67) #[] #[pb]] w (ActPost d V em w R) := by
  have hfl := dfile w d V i hi h hr ho
  have HK := Lib.hid h
  by_cases hem : em = 0
  · subst hem
    replace hd := hd rfl
    rcases Int.lt_trichotomy V.fuse 0 with hlt | heq | hgt
    · have ev : actV V = V := by unfold actV; rw [if_neg (by omega), if_neg (by omega)]
      have ee : actE V = 0 := by unfold actE; rw [if_neg (by omega)]
      have ed : actDo V = true := by unfold actDo; simp; left; omega
      have hdo := fun q => hd (w.drewN q) V (h.drewN q) ((Chg.refl _ w).drewN q) ev.symm
      have EV := Lib.hid ev
      have EE := Lib.hid ee
      have ED := Lib.hid ed
      obtain ⟨d0, d1, d2, d3, d4, d5, d6, d7, d8, d9, d10⟩ := h.all
      have hz : (V.fuse == 0) = false := by rw [beq_eq_false_iff_ne]; omega
      have hz2 : ¬ 0 < V.fuse := by omega
      generalize V.fuse = fu at *
      clear h hd ev ee ed hlt
      go_enter Try.func65, Try.ntmps65
      go_wp2_with (first
        | (go_at_call 49; refine hfl.mono ?_; rintro e w' ⟨rfl, rfl⟩)
        | (go_at_call 66; refine hm.mono ?_; rintro e w' ⟨rfl, q, rfl⟩)
        | (go_at_call 67; refine (hdo _).mono ?_; rintro e w' ⟨rfl, hR⟩))
      go_ret
      exact Or.inr ⟨rfl, by rw [EE.out]; rfl, Or.inl ⟨ED.out, by rw [EV.out]; exact hR⟩⟩
    · have hk0 := fun q => dfail (w.drewN q) d V (h.drewN q) hr
      obtain ⟨d0, d1, d2, d3, d4, d5, d6, d7, d8, d9, d10⟩ := h.all
      have hz : (V.fuse == 0) = true := by rw [beq_iff_eq]; omega
      have hz2 : ¬ 0 < V.fuse := by omega
      have hz3 : V.fuse = 0 := heq
      have ee : actE V = 12 := by unfold actE; rw [if_pos hz3]
      have ev : actV V = { V with off := true, fuse := -1 } := by unfold actV; rw [if_neg hz2, if_pos hz3]
      have ed : actDo V = V.beh := by unfold actDo; simp [hz3]
      have hdo := fun (W : World) (hW : Dk W d { V with off := true, fuse := -1 }) (hc : Chg (fun k => k = d) w W) => hd W _ hW hc ev.symm
      have EV := Lib.hid ev
      have EE := Lib.hid ee
      have ED := Lib.hid ed
      have hdr := fun q => (Chg.refl (fun k => k = d) w).drewN q
      clear hz3 ev ee ed heq hd
      rcases hb : V.beh with _ | _
      · rw [hb] at d10 ED
        have HBB := Lib.hid hb
        generalize V.fuse = fu at *
        clear h hb hdo
        go_enter Try.func65, Try.ntmps65
        go_wp2_with (first
          | (go_at_call 49; refine hfl.mono ?_; rintro e w' ⟨rfl, rfl⟩)
          | (go_at_call 66; refine hm.mono ?_; rintro e w' ⟨rfl, q, rfl⟩)
          | (go_at_call 22; refine (hk0 _).mono ?_; rintro e w1 ⟨rfl, hk1, hc1⟩; have hb10 := hk1.all.2.2.2.2.2.2.2.2.2.2; simp only [HBB.out] at hb10))
        go_ret
        exact Or.inr ⟨rfl, by rw [EE.out]; rfl, Or.inr ⟨ED.out, by rw [EV.out]; exact hk1, (hdr _).trans hc1⟩⟩
      · rw [hb] at d10 ED
        have HBB := Lib.hid hb
        generalize V.fuse = fu at *
        clear h hb
        go_enter Try.func65, Try.ntmps65
        go_wp2_with (first
          | (go_at_call 49; refine hfl.mono ?_; rintro e w' ⟨rfl, rfl⟩)
          | (go_at_call 66; refine hm.mono ?_; rintro e w' ⟨rfl, q, rfl⟩)
          | (go_at_call 22; refine (hk0 _).mono ?_; rintro e w1 ⟨rfl, hk1, hc1⟩; have hb10 := hk1.all.2.2.2.2.2.2.2.2.2.2; simp only [HBB.out] at hb10)
          | (go_at_call 67; refine (hdo _ hk1 ((hdr _).trans hc1)).mono ?_; rintro e w' ⟨rfl, hR⟩))
        go_ret
        exact Or.inr ⟨rfl, by rw [EE.out]; rfl, Or.inl ⟨ED.out, by rw [EV.out]; exact hR⟩⟩
    · have ev : actV V = { V with fuse := V.fuse - 1 } := by unfold actV; rw [if_pos hgt]
      have ee : actE V = 0 := by unfold actE; rw [if_neg (by omega)]
      have ed : actDo V = true := by unfold actDo; simp; left; omega
      have hdo := fun q => hd ((w.setCell ⟨d, 9, none⟩ (.int .i64 (V.fuse - 1))).drewN q) { V with fuse := V.fuse - 1 } ((h.fuse _).drewN q) (((Chg.refl (fun k => k = d) w).setCell (fun _ => rfl) _).drewN q) ev.symm
      have EV := Lib.hid ev
      have EE := Lib.hid ee
      have ED := Lib.hid ed
      have g9 := h.frozen 9
      obtain ⟨d0, d1, d2, d3, d4, d5, d6, d7, d8, d9, d10⟩ := h.all
      have hz2 : 0 < V.fuse := hgt
      generalize V.fuse = fu at *
      clear h hd ev ee ed hgt
      go_enter Try.func65, Try.ntmps65
      go_wp2_with (first
        | (go_at_call 49; refine hfl.mono ?_; rintro e w' ⟨rfl, rfl⟩)
        | (go_at_call 66; refine hm.mono ?_; rintro e w' ⟨rfl, q, rfl⟩)
        | (go_at_call 67; refine (hdo _).mono ?_; rintro e w' ⟨rfl, hR⟩))
      go_ret
      exact Or.inr ⟨rfl, by rw [EE.out]; rfl, Or.inl ⟨ED.out, by rw [EV.out]; exact hR⟩⟩
  · have hz : (em == 0) = false := by rw [beq_eq_false_iff_ne]; exact hem
    have hz3 : (em != 0) = true := by rw [bne_iff_ne]; exact hem
    have HE := Lib.hid hem
    clear h hd hem
    go_enter Try.func65, Try.ntmps65
    go_wp2_with (first
      | (go_at_call 49; refine hfl.mono ?_; rintro e w' ⟨rfl, rfl⟩)
      | (go_at_call 66; refine hm.mono ?_; rintro e w' ⟨rfl, q, rfl⟩))
    go_ret
    exact Or.inl ⟨HE.out, rfl, q, rfl⟩
set_option maxHeartbeats 800000 in
set_option maxRecDepth 100000 in
theorem actSync (w : World) (d i : Nat) (hi : i < 2) (V : DV) (em : Int) (R : DV → World → Prop) (h : Dk w d V) (hr : 0 < V.room) (ho : V.off = false) (hf : V.fuse < 9000000000000000000)
    (hm : Calls Try.prog 68 #[.pointer (some ⟨d, 3 * i, none⟩)] w fun e w' => e = .returned (.int .i64 em) ∧ ∃ q, w' = w.drewN q)
    (hd : em = 0 → ∀ (W : World) (V' : DV), Dk W d V' → Chg (fun k => k = d) w W → V' = actV V → Calls Try.prog 69 #[.pointer (some ⟨d, 3 * i, none⟩)] W fun e w' => e = .returned (.tuple #[]) ∧ R V' w') :
    Calls Try.prog 65 #[dp d, .int .i64 i, .func (.func 68) #[] #[], .func (.func 69) #[] #[]] w (ActPost d V em w R) := by
  have hfl := dfile w d V i hi h hr ho
  have HK := Lib.hid h
  by_cases hem : em = 0
  · subst hem
    replace hd := hd rfl
    rcases Int.lt_trichotomy V.fuse 0 with hlt | heq | hgt
    · have ev : actV V = V := by unfold actV; rw [if_neg (by omega), if_neg (by omega)]
      have ee : actE V = 0 := by unfold actE; rw [if_neg (by omega)]
      have ed : actDo V = true := by unfold actDo; simp; left; omega
      have hdo := fun q => hd (w.drewN q) V (h.drewN q) ((Chg.refl _ w).drewN q) ev.symm
      have EV := Lib.hid ev
      have EE := Lib.hid ee
      have ED := Lib.hid ed
      obtain ⟨d0, d1, d2, d3, d4, d5, d6, d7, d8, d9, d10⟩ := h.all
      have hz : (V.fuse == 0) = false := by rw [beq_eq_false_iff_ne]; omega
      have hz2 : ¬ 0 < V.fuse := by omega
      generalize V.fuse = fu at *
      clear h hd ev ee ed hlt
      go_enter Try.func65, Try.ntmps65
      go_wp2_with (first
        | (go_at_call 49; refine hfl.mono ?_; rintro e w' ⟨rfl, rfl⟩)
        | (go_at_call 68; refine hm.mono ?_; rintro e w' ⟨rfl, q, rfl⟩)
        | (go_at_call 69; refine (hdo _).mono ?_; rintro e w' ⟨rfl, hR⟩))
      go_ret
      exact Or.inr ⟨rfl, by rw [EE.out]; rfl, Or.inl ⟨ED.out, by rw [EV.out]; exact hR⟩⟩
    · have hk0 := fun q => dfail (w.drewN q) d V (h.drewN q) hr
      obtain ⟨d0, d1, d2, d3, d4, d5, d6, d7, d8, d9, d10⟩ := h.all
      have hz : (V.fuse == 0) = true := by rw [beq_iff_eq]; omega
      have hz2 : ¬ 0 < V.fuse := by omega
      have hz3 : V.fuse = 0 := heq
      have ee : actE V = 12 := by unfold actE; rw [if_pos hz3]
      have ev : actV V = { V with off := true, fuse := -1 } := by unfold actV; rw [if_neg hz2, if_pos hz3]
      have ed : actDo V = V.beh := by unfold actDo; simp [hz3]
      have hdo := fun (W : World) (hW : Dk W d { V with off := true, fuse := -1 }) (hc : Chg (fun k => k = d) w W) => hd W _ hW hc ev.symm
      have EV := Lib.hid ev
      have EE := Lib.hid ee
      have ED := Lib.hid ed
      have hdr := fun q => (Chg.refl (fun k => k = d) w).drewN q
      clear hz3 ev ee ed heq hd
      rcases hb : V.beh with _ | _
      · rw [hb] at d10 ED
        have HBB := Lib.hid hb
        generalize V.fuse = fu at *
        clear h hb hdo
        go_enter Try.func65, Try.ntmps65
        go_wp2_with (first
          | (go_at_call 49; refine hfl.mono ?_; rintro e w' ⟨rfl, rfl⟩)
          | (go_at_call 68; refine hm.mono ?_; rintro e w' ⟨rfl, q, rfl⟩)
          | (go_at_call 22; refine (hk0 _).mono ?_; rintro e w1 ⟨rfl, hk1, hc1⟩; have hb10 := hk1.all.2.2.2.2.2.2.2.2.2.2; simp only [HBB.out] at hb10))
        go_ret
        exact Or.inr ⟨rfl, by rw [EE.out]; rfl, Or.inr ⟨ED.out, by rw [EV.out]; exact hk1, (hdr _).trans hc1⟩⟩
      · rw [hb] at d10 ED
        have HBB := Lib.hid hb
        generalize V.fuse = fu at *
        clear h hb
        go_enter Try.func65, Try.ntmps65
        go_wp2_with (first
          | (go_at_call 49; refine hfl.mono ?_; rintro e w' ⟨rfl, rfl⟩)
          | (go_at_call 68; refine hm.mono ?_; rintro e w' ⟨rfl, q, rfl⟩)
          | (go_at_call 22; refine (hk0 _).mono ?_; rintro e w1 ⟨rfl, hk1, hc1⟩; have hb10 := hk1.all.2.2.2.2.2.2.2.2.2.2; simp only [HBB.out] at hb10)
          | (go_at_call 69; refine (hdo _ hk1 ((hdr _).trans hc1)).mono ?_; rintro e w' ⟨rfl, hR⟩))
        go_ret
        exact Or.inr ⟨rfl, by rw [EE.out]; rfl, Or.inl ⟨ED.out, by rw [EV.out]; exact hR⟩⟩
    · have ev : actV V = { V with fuse := V.fuse - 1 } := by unfold actV; rw [if_pos hgt]
      have ee : actE V = 0 := by unfold actE; rw [if_neg (by omega)]
      have ed : actDo V = true := by unfold actDo; simp; left; omega
      have hdo := fun q => hd ((w.setCell ⟨d, 9, none⟩ (.int .i64 (V.fuse - 1))).drewN q) { V with fuse := V.fuse - 1 } ((h.fuse _).drewN q) (((Chg.refl (fun k => k = d) w).setCell (fun _ => rfl) _).drewN q) ev.symm
      have EV := Lib.hid ev
      have EE := Lib.hid ee
      have ED := Lib.hid ed
      have g9 := h.frozen 9
      obtain ⟨d0, d1, d2, d3, d4, d5, d6, d7, d8, d9, d10⟩ := h.all
      have hz2 : 0 < V.fuse := hgt
      generalize V.fuse = fu at *
      clear h hd ev ee ed hgt
      go_enter Try.func65, Try.ntmps65
      go_wp2_with (first
        | (go_at_call 49; refine hfl.mono ?_; rintro e w' ⟨rfl, rfl⟩)
        | (go_at_call 68; refine hm.mono ?_; rintro e w' ⟨rfl, q, rfl⟩)
        | (go_at_call 69; refine (hdo _).mono ?_; rintro e w' ⟨rfl, hR⟩))
      go_ret
      exact Or.inr ⟨rfl, by rw [EE.out]; rfl, Or.inl ⟨ED.out, by rw [EV.out]; exact hR⟩⟩
  · have hz : (em == 0) = false := by rw [beq_eq_false_iff_ne]; exact hem
    have hz3 : (em != 0) = true := by rw [bne_iff_ne]; exact hem
    have HE := Lib.hid hem
    clear h hd hem
    go_enter Try.func65, Try.ntmps65
    go_wp2_with (first
      | (go_at_call 49; refine hfl.mono ?_; rintro e w' ⟨rfl, rfl⟩)
      | (go_at_call 68; refine hm.mono ?_; rintro e w' ⟨rfl, q, rfl⟩))
    go_ret
    exact Or.inl ⟨HE.out, rfl, q, rfl⟩
end Go.Proofs.Ytmchliaclnkbeaa.J
