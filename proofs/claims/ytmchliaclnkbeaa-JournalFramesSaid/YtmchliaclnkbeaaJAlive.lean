/- alive of the statements of layer 10 returns true, and turns nothing that was there. No condition. -/
import Derived.Test.YtmchliaclnkbeaaJOpsF
import Derived.Lib.SlBytesConst
open Go Go.RowKit Go.Lib
namespace Go.Proofs.Ytmchliaclnkbeaa.J
set_option linter.unusedVariables false
set_option linter.unusedSimpArgs false
def newV (room : Int) : DV := { n0 := .slice none 0 0, s0 := .slice none 0 0, c0 := -1, n1 := .slice none 0 0, s1 := .slice none 0 0, c1 := -1, root := 0, room := room, off := false, fuse := -1, beh := false }
theorem new_ok (room : Int) (w : World) (h1 : 1 ≤ room) (h2 : room ≤ 1048576) :
    Calls Try.prog 11 #[.int .i64 room] w fun e w' => e = .returned (.tuple #[dp w.heap.size, .int .i64 0]) ∧ Dk w' w.heap.size (newV room) ∧ Below w.heap.size w w' := by
  go_enter Try.func11, Try.ntmps11
  go_wp2
  go_ret2
  exact ⟨rfl, Blk.new _ _ _, (Below.refl _ _).alloc (Nat.le_refl _) _⟩
/-- A commit of a disk without a fuse. -/
theorem commit_ok {w w' : World} {j d : Nat} {live : Nat} {g : Value} {gl : List Int} {many : Int} {V : DV} {L : Int} {ln : List Int} {e : Ending} (h : CommitPost w j d live g gl many V L ln e w') (ho : V.off = false) (hf : V.fuse < 0) (hL : ¬ L < gl.length) (hd : d < w.heap.size) (hj : j < w.heap.size) (hjd : j ≠ d) :
    ∃ v, e = .returned (.int .i64 0) ∧ Dk w' d ((V.setNow live v).sync live) ∧ SlB w' v (ln ++ gl) ∧ Fresh w v ∧ Jn w' j d live (.slice none 0 0) 0 ∧ Chg (fun k => k = d ∨ k = j) w w' := by
  have ev : actV V = V := by unfold actV; rw [if_neg (by omega), if_neg (by omega)]
  have ee : actE V = 0 := by unfold actE; rw [if_neg (by omega)]
  have ed : actDo V = true := by unfold actDo; simp; left; omega
  obtain ⟨q, w1, err, hA, hp⟩ := h
  have he : err = 0 := by
    obtain ⟨err', V', he, _, _, hp⟩ := hA
    injection he with he; injection he with _ he
    rcases hp with ⟨x, _⟩ | ⟨_, x, _⟩
    · exact absurd x hL
    · rw [he, x, ee]
  subst he
  obtain ⟨_, _, v, hk, hs, hfr, hc, _⟩ := hA.ok ho
  rcases hp with ⟨x, _⟩ | ⟨_, q2, w2, v2, hk2, hsy, hp⟩
  · exact absurd rfl x
  have hvv : v2 = v := by
    have := hk.symm.trans hk2
    injection this with this
    injection this with this
    unfold DV.setNow DV.cells at this
    split at this
    · simp at this; exact this.symm
    · simp at this; exact this.symm
  subst hvv
  rw [ev] at *
  have ev2 : actV (V.setNow live v2) = V.setNow live v2 := by
    have : (V.setNow live v2).fuse = V.fuse := by unfold DV.setNow; split <;> rfl
    unfold actV; rw [if_neg (by omega), if_neg (by omega)]
  have ee2 : actE (V.setNow live v2) = 0 := by
    have : (V.setNow live v2).fuse = V.fuse := by unfold DV.setNow; split <;> rfl
    unfold actE; rw [if_neg (by omega)]
  have ed2 : actDo (V.setNow live v2) = true := by
    have : (V.setNow live v2).fuse = V.fuse := by unfold DV.setNow; split <;> rfl
    unfold actDo; simp; left; omega
  obtain ⟨V2, _, hk3, hc3, hp3⟩ := hsy
  rw [ev2] at hp3
  rcases hp3 with ⟨x, _⟩ | ⟨_, rfl⟩
  · rw [ed2] at x; cases x
  rcases hp with ⟨x, _⟩ | ⟨_, he, hj5, hc5⟩
  · rw [ee2] at x; exact absurd rfl x
  have c01 : Chg (fun k => k = d) w w1 := ((Chg.refl _ w).drewN q).trans hc
  have c12 : Chg (fun k => k = d) w1 w2 := ((Chg.refl _ w1).drewN q2).trans hc3
  have c02 := c01.trans c12
  have hs2 : SlB w2 v2 (ln ++ gl) := hs.chg c12 (fun k hk e => by have := hfr k hk; subst e; exact absurd hd (by simpa using this))
  refine ⟨v2, he, hk3.chg hc5 (fun e => hjd e.symm), hs2.chg hc5 (fun k hk e => by have := hfr k hk; subst e; exact absurd hj (by simpa using this)), fun k hk => hfr k hk, hj5, ?_⟩
  exact (c02.mono (fun k _ e => Or.inl e)).trans (hc5.mono (fun k _ e => Or.inr e))
theorem next_ab : nextL (frameL [97, 98]) = some [97, 98] := by decide +kernel
theorem scan_nil : scanL [] = ([], 0) := scanL_none (by decide)
theorem frame_ab_len : (frameL [97, 98]).length = 10 := by decide
theorem scan_ab : scanL (frameL [97, 98]) = ([[97, 98]], 10) := by
  rw [scanL_some next_ab]
  have : (frameL [97, 98]).drop (8 + [(97 : Int), 98].length) = [] := by decide
  rw [this, scan_nil]
  rfl
theorem wf_ab : WfB (frameL [97, 98]) := by
  intro x hx
  have : ∀ x ∈ frameL [97, 98], 0 ≤ x ∧ x < 256 := by decide +kernel
  exact this x hx
theorem own_rdSS {w : World} {b1 b2 n c : Nat} {A : Option Addr} {vals : List Value} {ll : List (List Int)} (h : w.ownsRow b1 22 1 (.slice A n c) n vals) (ha : OwnAll w b2 vals ll) (hn : ll.length = n) : RdSS w A ll := by
  intro i hi
  obtain ⟨v, hv, ho⟩ := ha.2 i hi
  obtain ⟨_, A', c', rfl, hA', hc', hr'⟩ := own_rdB ho
  rcases h.2 with ⟨e, e2⟩ | ⟨g, cap, cur, e, _, hg, _, _, _, ht⟩
  · omega
  · injection e with e1 _ e3
    subst e1
    refine ⟨g, 0, A', c', rfl, ?_, hc', hr'⟩
    have hk : Blk w g cur 22 := hg
    rw [Nat.zero_add, hk.cell i]
    have : (cur.toList.take (n * 1))[i]? = vals[i]? := by rw [ht]
    rw [List.getElem?_take, if_pos (by omega), hv] at this
    rw [← Array.getElem?_toList, this]
theorem framesL_one (l : List Int) : framesL [l] = frameL l := by simp [framesL]
theorem alive_add (W : World) (j d N : Nat) (hj : Jn W j d ((0 : Nat) : Int) (.slice none 0 0) 0) (hd : Dk W d (newV 200)) (hr : RdSS W (some ⟨N, 0, none⟩) [[97, 98]]) :
    Calls Try.prog 30 #[dp j, .slice (some ⟨N, 0, none⟩) 1 1] W fun e w' => e = .returned (.int .i64 0) ∧ ∃ A c, Jn w' j d ((0 : Nat) : Int) (.slice A 10 c) 1 ∧ w'.ownsRow 0 5 1 (.slice A 10 c) 10 (bv (frameL [97, 98])) ∧ (∀ k, (Value.slice A 10 c).ownBlock = some k → W.heap.size ≤ k) ∧ Chg (fun k => k = j) W w' := by
  refine (add_any2 W j d _ (.slice none 0 0) [] 0 hj (World.ownsRow_nil _ _ _ _) (by simp [Value.ownBlock]) (newV 200) none none 0 0 0 0 hd (by show (0 : Int) < 200; omega) (by show (200 : Int) ≤ _; omega) rfl rfl (by omega) (by omega) (some ⟨N, 0, none⟩) [[97, 98]] 1 (by simp) (by simp) (by omega) hr ?_ ?_).mono ?_
  · intro l hl; simp at hl; subst hl; intro x hx; simp at hx; omega
  · intro l hl; simp at hl; subst hl; simp [maxLen]
  · rintro e w' ⟨err, rfl, hp⟩
    have hok : ∀ l ∈ [[(97 : Int), 98]], okRec l := by intro l hl; simp at hl; subst hl; exact ⟨by simp, by simp⟩
    have hlen : (framesL [[97, 98]]).length = 10 := by rw [framesL_one, frame_ab_len]
    rcases hp with ⟨x, _⟩ | ⟨_, x, _⟩ | ⟨_, _, rfl, g', h1, h2, h3, h4⟩
    · exact absurd hok x
    · rw [hlen] at x; exact absurd x (by show ¬ ((200 : Int) - ((0 : Nat) : Int) - ((0 : Nat) : Int) < ((([] : List Int).length : Nat) : Int) + ((10 : Nat) : Int)); simp)
    · rw [List.nil_append, framesL_one, frame_ab_len] at h2
      obtain ⟨A, c, rfl, _⟩ := own_form h2
      refine ⟨rfl, A, c, h1, h2, fun k hk => ?_, h4.mono (fun k _ e => ?_)⟩
      · rcases h3 k hk with x | x
        · cases x
        · exact x
      · rcases e with e | e
        · exact e
        · cases e
theorem alive_commit (W : World) (j d : Nat) (A : Option Addr) (c : Nat) (hjd : j ≠ d) (hj : Jn W j d ((0 : Nat) : Int) (.slice A 10 c) 1) (hd : Dk W d (newV 200)) (ho : W.ownsRow 0 5 1 (.slice A 10 c) 10 (bv (frameL [97, 98]))) (hgd : ∀ k, (Value.slice A 10 c).ownBlock = some k → k ≠ d) :
    Calls Try.prog 31 #[dp j] W fun e w' => e = .returned (.int .i64 0) ∧ ∃ v, Dk w' d (((newV 200).setNow 0 v).sync 0) ∧ SlB w' v (frameL [97, 98]) ∧ Jn w' j d ((0 : Nat) : Int) (.slice none 0 0) 0 ∧ Chg (fun k => k = d ∨ k = j) W w' := by
  refine (commit_any W j d 0 (by omega) (.slice A 10 c) (frameL [97, 98]) 1 (by omega) hj hjd (newV 200) [] [] [] hd (by show (0 : Int) < 200; omega) (by show (200 : Int) ≤ _; omega) rfl (by show (-1 : Int) < _; omega) (SlB.nil W) (SlB.nil W) rfl (SlB.of_own ho) (by simp) (by simp) (fun k hk => by cases hk) (fun k hk => by cases hk) hgd).mono ?_
  intro e w' hp
  obtain ⟨v, he, h1, h2, h3, h4, h5⟩ := commit_ok hp rfl (by show (-1 : Int) < 0; omega) (by rw [frame_ab_len]; show ¬ ((200 : Int) - ((([] : List Int).length : Nat) : Int) - ((([] : List Int).length : Nat) : Int) < ((10 : Nat) : Int)); simp) hd.lt hj.lt hjd
  exact ⟨he, v, h1, by simpa using h2, h4, h5⟩
theorem ab_rd (W : World) (C : Array Value) (hC : C = #[.int .u8 97, .int .u8 98]) (x : Nat) (hx : x = W.heap.size) (fz : Nat × Nat) (t : TypeId) : RdSS ((W.alloc (.cells C 5 fz)).alloc (.cells #[.slice (some ⟨x, 0, none⟩) 2 2] t)) (some ⟨W.heap.size + 1, 0, none⟩) [[97, 98]] := by
  subst hx hC
  intro i hi
  obtain rfl : i = 0 := by simp at hi; omega
  refine ⟨W.heap.size + 1, 0, some ⟨W.heap.size, 0, none⟩, 2, rfl, by simp, by simp, fun k hk => ?_⟩
  refine ⟨W.heap.size, 0, rfl, ?_⟩
  have hk2 : k < 2 := hk
  have hold : ((W.alloc (.cells #[.int .u8 97, .int .u8 98] 5 fz)).alloc (.cells #[.slice (some ⟨W.heap.size, 0, none⟩) 2 2] t)).cell? ⟨W.heap.size, 0 + k, none⟩ = (W.alloc (.cells #[.int .u8 97, .int .u8 98] 5 fz)).cell? ⟨W.heap.size, 0 + k, none⟩ := World.cell?_alloc_lt _ _ _ (by simp)
  rw [hold, World.cell?_alloc_mark]
  rcases (by omega : k = 0 ∨ k = 1) with rfl | rfl <;> rfl
theorem alive_left (W : World) (j d : Nat) (v : Value) (hj : Jn W j d ((0 : Nat) : Int) (.slice none 0 0) 0) (hd : Dk W d (((newV 200).setNow 0 v).sync 0)) (hs : SlB W v (frameL [97, 98])) :
    Calls Try.prog 27 #[dp j] W fun e w' => e = .returned (.int .i64 190) ∧ ∃ n, w' = W.drewN n := by
  obtain ⟨A, c, e⟩ := hs.form
  rw [frame_ab_len] at e
  refine (jleft W j d _ _ _ hj _ A none 10 0 c 0 hd (by show (0 : Int) < 200; omega) (by show (200 : Int) ≤ _; omega) e rfl (by omega) (by omega)).mono ?_
  rintro e w' ⟨rfl, h⟩
  exact ⟨rfl, h⟩
set_option maxHeartbeats 1600000 in
set_option maxRecDepth 100000 in
theorem alive_any (w : World) : Calls Try.prog 5 #[] w fun e w' => e = .returned (.bool true) ∧ Below w.heap.size w w' := by
  have hnew := new_ok 200 w (by omega) (by omega)
  have hopen := fun W (hW : Dk W w.heap.size (newV 200)) => open_clean W w.heap.size (newV 200) 0 (by omega) rfl [] hW (by show (0 : Int) < 200; omega) rfl (SlB.nil W) (by simp) (fun x hx => by cases hx) (SlB.nil W) (by rw [scan_nil]; rfl)
  rw [scan_nil] at hopen
  have hopen2 := fun W v (hW : Dk W w.heap.size (((newV 200).setNow 0 v).sync 0)) (hs : SlB W v (frameL [97, 98])) => open_clean W w.heap.size (((newV 200).setNow 0 v).sync 0) 0 (by omega) rfl (frameL [97, 98]) hW (by show (0 : Int) < 200; omega) rfl hs (by rw [frame_ab_len]; omega) wf_ab (SlB.nil W) (by rw [scan_ab, frame_ab_len])
  rw [scan_ab] at hopen2
  have hstr : (strL [97, 98]).toList = [97, 98] := by decide +kernel
  go_enter Try.func5, Try.ntmps5
  go_upto_region 5 with (first
    | (go_at_call 11; refine hnew.mono ?_; rintro e w1 ⟨rfl, hk1, hb1⟩)
    | (go_at_call 14; go_must (refine (hopen _ hk1).mono ?_; rintro e w2 ⟨j, vl, vals, rfl, hj, hjn, ol, oal, hb2⟩; obtain ⟨Al, cl, rfl, _⟩ := own_form ol)))
  have hjn' : Jn w2 j w.heap.size ((0 : Nat) : Int) (.slice none 0 0) 0 := hjn
  have hdl := hk1.lt
  have hkd2 : Dk w2 w.heap.size (newV 200) := hk1.below hb2 hdl
  have hjd : j ≠ w.heap.size := by omega
  have hjl := hjn.lt
  have HB2 : Below w.heap.size w w2 := hb1.trans (hb2.mono hb1.size)
  have kc := fun (w : World) (C : Array Value) (n c : Nat) => Lib.run_convert_bytes_const (P := Try.prog) w 22 5 C n c Try.underlying22 Try.underlying5
  clear hjn ol oal
  go_wp2_with (first
    | (go_at_call 30; go_must (refine (alive_add _ j w.heap.size _ (by exact (hjn'.alloc _).alloc _) (by exact (hkd2.alloc _).alloc _) (by exact ab_rd w2 _ rfl _ rfl _ _)).mono ?_; rintro e w3 ⟨rfl, Ag, cg, hj3, ho3, hfr3, hc3⟩; have hkd3 : Dk w3 w.heap.size (newV 200) := ((hkd2.alloc _).alloc _).chg hc3 (fun e => hjd e.symm); have hgd3 : ∀ k, (Value.slice Ag 10 cg).ownBlock = some k → k ≠ w.heap.size := fun k hk e => by have := hfr3 k hk; simp at this; omega))
    | (go_at_call 20; go_must (refine (jgroup _ _ _ _ _ _ _ _ hj3).mono ?_; rintro e w' ⟨rfl, rfl⟩))
    | (go_at_call 31; go_must (refine (alive_commit _ _ _ _ _ hjd hj3 hkd3 ho3 hgd3).mono ?_; rintro e w4 ⟨rfl, v4, hk4, hs4, hj4, hc4⟩))
    | (go_at_call 29; go_must (refine (jsize _ j w.heap.size 0 (by omega) _ _ hj4 _ (frameL [97, 98]) hk4 (by show (0 : Int) < 200; omega) rfl hs4 (by rw [frame_ab_len]; omega)).mono ?_; rw [frame_ab_len]; rintro e w5 ⟨rfl, hb5⟩))
    | (go_at_call 14; go_must (refine (hopen2 _ _ (hk4.below hb5 hk4.lt) (hs4.below hb5 (Nat.le_refl _))).mono ?_; rintro e w6 ⟨j6, vl6, vals6, rfl, hj6, hjn6, ol6, oal6, hb6⟩; obtain ⟨Al6, cl6, rfl, _⟩ := own_form ol6; obtain ⟨b7, o7, A7, c7, rfl, hcell7, _, hr7⟩ := own_rdSS ol6 oal6 rfl 0 (by simp); have q7 : (convert 22 9 (.slice A7 2 c7)).run Try.prog w6 = .ok (.string (strL [97, 98])) w6 := conv_any A7 [97, 98] c7 w6 hr7; have hc7 : w6.cell? ⟨b7, o7, none⟩ = some (.slice A7 2 c7) := hcell7; clear hcell7))
    | (go_at_call 27; go_must (refine (alive_left _ _ _ _ ((hj4.below hb5 hj4.lt).below hb6 (Nat.lt_of_lt_of_le hj4.lt hb5.size)) ((hk4.below hb5 hk4.lt).below hb6 (Nat.lt_of_lt_of_le hk4.lt hb5.size)) ((hs4.below hb5 (Nat.le_refl _)).below hb6 (Nat.le_refl _))).mono ?_; rintro e w7 ⟨rfl, q9, rfl⟩)))
  go_ret
  have hjw : w.heap.size ≤ j := by omega
  have c1 : Chg (fun _ => False) w w3 := (((Chg.of_below HB2).alloc _).alloc _).then hc3 (fun i hi e => by omega)
  have c2 : Chg (fun _ => False) w w4 := c1.then hc4 (fun i hi e => by rcases e with e | e <;> omega)
  have c3 : Chg (fun _ => False) w w5 := c2.trans (Chg.of_below hb5)
  have c4 : Chg (fun _ => False) w w6 := c3.trans (Chg.of_below hb6)
  exact ⟨rfl, (c4.drewN _).below⟩
end Go.Proofs.Ytmchliaclnkbeaa.J
