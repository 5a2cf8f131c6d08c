/- The reference's Scan gives the same records as the program's. Condition: no more than a million bytes. -/
import Derived.Test.YtmchliaclnkbeaaJEq
import Derived.IntWalk
open Go Go.RowKit Go.Lib
namespace Go.Proofs.Ytmchliaclnkbeaa.J
set_option linter.unusedVariables false
set_option linter.unusedSimpArgs false
theorem own_len {w : World} {base m n : Nat} {e : TypeId} {s : Nat} {v : Value} {xs : List Value} (h : w.ownsRow base e s v m xs) (hm : m = n) : w.ownsRow base e s v n xs := hm ▸ h
theorem rframe_own (v : Value) (l : List Int) (base n : Nat) (w : World) (h1 : 1 ≤ n) (h2 : n ≤ 16384) (h : w.ownsRow base 5 1 v n (bv l)) (hw : WfB l) :
    Calls Try.prog 7 #[v] w fun e w' => (∃ v, e = .returned (.tuple #[v, .int .i64 0]) ∧ w'.ownsRow w.heap.size 5 1 v (frameR l).length (bv (frameR l))) ∧ Below w.heap.size w w' := by
  obtain ⟨rfl, A, c, rfl, hA, hc, hr⟩ := own_rdB h
  exact rframe_ok A l c w h1 h2 hc hw hr
theorem conv_own (v : Value) (l : List Int) (base n : Nat) (w : World) (h : w.ownsRow base 5 1 v n (bv l)) : (convert 22 9 v).run Try.prog w = .ok (.string (strL l)) w := by
  obtain ⟨rfl, A, c, rfl, hA, hc, hr⟩ := own_rdB h
  exact conv_any A l c w hr
theorem frameR_wf (l : List Int) (h : WfB l) (hl : l.length ≤ 16384) : WfB (frameR l) := by
  unfold frameR
  intro x hx
  rcases List.mem_append.1 hx with hx | hx
  · rcases List.mem_append.1 hx with hx | hx
    · exact be4_range _ (by omega) x hx
    · exact be4_range _ (crcR_range _) x hx
  · exact h x hx
def ScanPost (w : World) (res : List (List Int) × Nat) (e : Ending) (w' : World) : Prop :=
  (∃ v vals, e = .returned (.tuple #[v, .int .i64 res.2]) ∧ w'.ownsRow w.heap.size 22 1 v res.1.length vals ∧ OwnAll w' w.heap.size vals res.1) ∧ Below w.heap.size w w'
theorem ScanPost.mk {w w' : World} {res : List (List Int) × Nat} {e : Ending} {acc : List (List Int)} {vals : List Value} {v : Value} {n : Nat} (hd : res = (acc, n)) (he : e = .returned (.tuple #[v, .int .i64 n])) (h1 : w'.ownsRow w.heap.size 22 1 v acc.length vals) (h2 : OwnAll w' w.heap.size vals acc) (h3 : Below w.heap.size w w') : ScanPost w res e w' := by
  subst hd
  exact ⟨⟨v, vals, he, h1, h2⟩, h3⟩
set_option maxHeartbeats 800000 in
set_option maxRecDepth 100000 in
theorem rscan_any (A : Option Addr) (l : List Int) (c : Nat) (w : World) (hA : A = none → l = [] ∧ c = 0) (hlc : l.length ≤ c) (hc : l.length ≤ 1000000 ∧ c ≤ 9223372036854775807) (hw : WfB l) (hr : RdB w A l) :
    Calls Try.prog 9 #[.slice A l.length c] w (ScanPost w (scanL l)) := by
  generalize hscan : scanL l = res
  have HS := Lib.hid hscan
  clear hscan
  go_enter Try.func9, Try.ntmps9
  go_wp2
  go_loopw [4, 5] (fun v i wr => ∃ (acc : List (List Int)) (vals : List Value) (at' : Nat), i = .int .i64 at' ∧ at' ≤ l.length ∧ acc.length ≤ at' ∧ Hid (res = (acc ++ (scanL (l.drop at')).1, at' + (scanL (l.drop at')).2)) ∧ wr.ownsRow w.heap.size 22 1 v acc.length vals ∧ OwnAll wr w.heap.size vals acc ∧ Below w.heap.size w wr)
    (fun _ i _ => l.length - (intOf i).toNat)
  case atStart => exact ⟨[], [], 0, rfl, Nat.zero_le _, Nat.le_refl _, by show _ = _; rw [← HS.out]; simp, World.ownsRow_nil _ _ _ _, OwnAll.nil _ _, Below.refl _ _⟩
  case round =>
    obtain ⟨acc, vals, at', rfl, hat, hacc, hres, hown, hall, hb⟩ := hrel
    by_cases h8 : at' + 8 < l.length
    · obtain ⟨b, o, rfl⟩ := hr.some_of (by omega)
      have hrb := hr.below hb (Nat.le_refl _)
      have c0 := hrb.at at' (by omega)
      have c1 := hrb.at (at' + 1) (by omega)
      have c2 := hrb.at (at' + 2) (by omega)
      have c3 := hrb.at (at' + 3) (by omega)
      have r0 := hw.at at' (by omega)
      have r1 := hw.at (at' + 1) (by omega)
      have r2 := hw.at (at' + 2) (by omega)
      have r3 := hw.at (at' + 3) (by omega)
      have HN : Hid (numR (l.drop at') = (l[at'] * 256 + l[at' + 1]) * 65536 + l[at' + 2] * 256 + l[at' + 3]) := by
        show _ = _
        simp [numR, List.getD_eq_getElem?_getD, List.getElem?_drop, List.getElem?_eq_getElem (show at' < l.length by omega), List.getElem?_eq_getElem (show at' + 1 < l.length by omega), List.getElem?_eq_getElem (show at' + 2 < l.length by omega), List.getElem?_eq_getElem (show at' + 3 < l.length by omega)]
      generalize l[at'] = x0 at *
      generalize l[at' + 1] = x1 at *
      generalize l[at' + 2] = x2 at *
      generalize l[at' + 3] = x3 at *
      have e1 : IntKind.i64.wrap (↑at' + 1) = ↑at' + 1 := IntWalk.i64_in _ (by omega)
      have e2 : IntKind.i64.wrap (↑at' + 2) = ↑at' + 2 := IntWalk.i64_in _ (by omega)
      have e3 : IntKind.i64.wrap (↑at' + 3) = ↑at' + 3 := IntWalk.i64_in _ (by omega)
      have m0 : IntKind.i64.wrap (x0) = x0 := IntWalk.i64_in _ (by omega)
      have m1 : IntKind.i64.wrap (x0 * 256) = x0 * 256 := IntWalk.i64_in _ (by omega)
      have m2 : IntKind.i64.wrap (x1) = x1 := IntWalk.i64_in _ (by omega)
      have m3 : IntKind.i64.wrap (x0 * 256 + x1) = x0 * 256 + x1 := IntWalk.i64_in _ (by omega)
      have m4 : IntKind.i64.wrap ((x0 * 256 + x1) * 65536) = (x0 * 256 + x1) * 65536 := IntWalk.i64_in _ (by omega)
      have m5 : IntKind.i64.wrap (x2) = x2 := IntWalk.i64_in _ (by omega)
      have m6 : IntKind.i64.wrap (x2 * 256) = x2 * 256 := IntWalk.i64_in _ (by omega)
      have m7 : IntKind.i64.wrap ((x0 * 256 + x1) * 65536 + x2 * 256) = (x0 * 256 + x1) * 65536 + x2 * 256 := IntWalk.i64_in _ (by omega)
      have m8 : IntKind.i64.wrap (x3) = x3 := IntWalk.i64_in _ (by omega)
      have m9 : IntKind.i64.wrap ((x0 * 256 + x1) * 65536 + x2 * 256 + x3) = (x0 * 256 + x1) * 65536 + x2 * 256 + x3 := IntWalk.i64_in _ (by omega)
      have i0 : (0 : Int) ≤ at' ∧ (at' : Int) < l.length := by omega
      have i1 : (0 : Int) ≤ at' + 1 ∧ (at' : Int) + 1 < l.length := by omega
      have i2 : (0 : Int) ≤ at' + 2 ∧ (at' : Int) + 2 < l.length := by omega
      have i3 : (0 : Int) ≤ at' + 3 ∧ (at' : Int) + 3 < l.length := by omega
      have t1 : ((at' : Int) + 1).toNat = at' + 1 := by omega
      have t2 : ((at' : Int) + 2).toNat = at' + 2 := by omega
      have t3 : ((at' : Int) + 3).toNat = at' + 3 := by omega
      go_wp2
      go_quiet (fail)
      clear e1 e2 e3 i0 i1 i2 i3 t1 t2 t3 m0 m1 m2 m3 m4 m5 m6 m7 m8 m9 c0 c1 c2 c3
      have hnr : 0 ≤ (x0 * 256 + x1) * 65536 + x2 * 256 + x3 ∧ (x0 * 256 + x1) * 65536 + x2 * 256 + x3 < 4294967296 := by omega
      generalize (x0 * 256 + x1) * 65536 + x2 * 256 + x3 = N at *
      have hln : (l.drop at').length = l.length - at' := by simp
      have hdone : nextR (l.drop at') = none → Hid (res = (acc, at')) := fun h => by
        show _ = _
        rw [nextR_eq _ (hw.drop _)] at h
        rw [hres.out, scanL_none h]; simp
      have hB2 := hb.drewN nq
      have hown2 := own_below hown ((Below.refl wr.heap.size wr).drewN nq) (Nat.le_refl _)
      have hall2 := hall.below ((Below.refl wr.heap.size wr).drewN nq) (Nat.le_refl _)
      have hrb2 := hrb.drewN (n := nq)
      generalize wr.drewN nq = W at *
      by_cases hbad : N < 1 ∨ 16384 < N ∨ (l.length : Int) - at' - 8 < N
      · have HD : Hid (res = (acc, at')) := hdone (by
          have : ¬ nextRok (l.drop at') := fun h => by
            obtain ⟨k1, k2, k3, k4, k5⟩ := h
            rw [HN.out] at k2 k3 k4
            rw [hln] at k4
            omega
          simp [nextR, this])
        clear hdone hln
        rcases hbad with hbad | hbad | hbad
        · have hb2 : ¬ 16384 < N := by omega
          go_wp2
          go_ret2
          exact ScanPost.mk HD.out rfl hown2 hall2 hB2
        · have hb2 : ¬ N < 1 := by omega
          go_wp2
          go_ret2
          exact ScanPost.mk HD.out rfl hown2 hall2 hB2
        · by_cases hb2 : 16384 < N
          all_goals
            by_cases hb3 : N < 1
            all_goals
              go_wp2
              go_ret2
              exact ScanPost.mk HD.out rfl hown2 hall2 hB2
      · obtain ⟨n, rfl⟩ : ∃ n : Nat, N = n := ⟨N.toNat, by omega⟩
        have hn1 : 1 ≤ n := by omega
        have hn2 : n ≤ 16384 := by omega
        have hn3 : at' + 8 + n ≤ l.length := by omega
        have hq1 : ¬ c = at' + 8 := by omega
        have hq2 : ¬ c = at' := by omega
        have hb1 : ¬ (n : Int) < 1 := by omega
        have hb2 : ¬ (16384 : Int) < n := by omega
        have hb3 : ¬ (l.length : Int) - at' - 8 < n := by omega
        clear hbad
        have hrec : RdB W (some ⟨b, o + (at' + 8), none⟩) (((l.drop at').drop 8).take n) := by
          have := (hrb2.drop (at' + 8)).take n
          rwa [List.drop_drop]
        have hreclen : (((l.drop at').drop 8).take n).length = n := by simp; omega
        have hwrec : WfB (((l.drop at').drop 8).take n) := ((hw.drop _).drop _).take _
        have hsrc := Src.ofB (c := c - (at' + 8)) hrec (fun e => nomatch e)
        go_wp2_with (first
          | (at_builtin; go_must (refine wpList_app rfl (.const (.slice none 0 0)) (.tmp 66) 22 rfl W.heap.size 5 (.int .u8 0) 1 Try.underlying22 info5 rfl (.slice none 0 0) 0 [] rfl (World.ownsRow_nil _ _ _ _) _ _ _ (bv (((l.drop at').drop 8).take n)) rfl (by rw [bv_length, hreclen]; omega) hsrc (by unfold maxLen; omega) (by omega) (Nat.le_refl _) ?_; intro v1 wa o1 g1))
          | (go_at_call 7; go_must (refine (rframe_own _ (((l.drop at').drop 8).take n) _ n _ hn1 hn2 (own_len o1 (by omega)) hwrec).mono ?_; rintro e wf ⟨⟨vf, rfl, of⟩, bf⟩)))
        have Ba : Below W.heap.size W wa := (Below.refl _ _).grown g1 (Nat.le_refl _) (fun k hk => by cases hk)
        have Bf : Below W.heap.size W wf := Ba.trans (bf.mono Ba.size)
        have owu := own_below hown2 Bf (Nat.le_refl _)
        have oal := hall2.below Bf (Nat.le_refl _)
        have owr : wf.ownsRow W.heap.size 5 1 v1 n (bv (((l.drop at').drop 8).take n)) := own_below (own_len o1 (by omega)) bf (Nat.le_refl _)
        have BW : Below w.heap.size w wf := hB2.trans (Bf.mono hB2.size)
        have rb8 : RdB wf (some ⟨b, o + at', none⟩) ((l.drop at').take (8 + n)) := ((hr.below BW (Nat.le_refl _)).drop at').take _
        have l8 : ((l.drop at').take (8 + n)).length = 8 + n := by simp; omega
        have w8 : WfB ((l.drop at').take (8 + n)) := (hw.drop _).take _
        have wfr : WfB (frameR (((l.drop at').drop 8).take n)) := frameR_wf _ hwrec (by omega)
        have q1 := fun k => conv_own vf _ _ _ (wf.drewN k) (own_below of ((Below.refl wf.heap.size wf).drewN k) (Nat.le_refl _))
        have q2 : ∀ k, (convert 22 9 (.slice (some ⟨b, o + at', none⟩) (8 + n) (c - at'))).run Try.prog (wf.drewN k) = .ok (.string (strL ((l.drop at').take (8 + n)))) (wf.drewN k) := fun k => by
          have := conv_any (some ⟨b, o + at', none⟩) ((l.drop at').take (8 + n)) (c - at') (wf.drewN k) rb8.drewN
          rwa [l8] at this
        have q3 : ∀ k, (convert 22 9 (.slice (some ⟨b, o + at', none⟩) (at' + 8 + n - at') (c - at'))).run Try.prog (wf.drewN k) = .ok (.string (strL ((l.drop at').take (8 + n)))) (wf.drewN k) := by
          rw [show at' + 8 + n - at' = 8 + n by omega]; exact q2
        clear q2
        have e1 : IntKind.i64.wrap (↑at' + 8) = ↑at' + 8 := IntWalk.i64_in _ (by omega)
        have e2 : IntKind.i64.wrap (↑at' + 8 + ↑n) = ↑at' + 8 + ↑n := IntWalk.i64_in _ (by omega)
        have i1 : (0 : Int) ≤ at' ∧ (at' : Int) ≤ at' + 8 + n ∧ (at' : Int) + 8 + n ≤ c := by omega
        have HRK : Hid (frameR (((l.drop at').drop 8).take n) = (l.drop at').take (8 + n) ↔ nextRok (l.drop at')) := by
          show _ ↔ _
          have hnn : (numR (l.drop at')).toNat = n := by rw [HN.out]; omega
          constructor
          · intro h
            refine ⟨by rw [hln]; omega, by rw [HN.out]; omega, by rw [HN.out]; omega, by rw [HN.out, hln]; omega, by rw [hnn]; exact h⟩
          · intro h
            have := h.2.2.2.2
            rwa [hnn] at this
        have HNR : Hid (nextRok (l.drop at') → nextL (l.drop at') = some (((l.drop at').drop 8).take n)) := by
          show _ → _
          intro h
          rw [← nextR_eq _ (hw.drop _)]
          have hnn : (numR (l.drop at')).toNat = n := by rw [HN.out]; omega
          simp [nextR, h, hnn]
        have HLR := Lib.hid hreclen
        obtain ⟨A1, k1, rfl, _⟩ := own_form owr
        clear hreclen hrec hsrc l8 hln hrb hrb2 hr rb8 g1 o1
        by_cases heq : frameR (((l.drop at').drop 8).take n) = (l.drop at').take (8 + n)
        · have hne : (!((strL (frameR (((l.drop at').drop 8).take n))).toList == (strL ((l.drop at').take (8 + n))).toList)) = false := by rw [strL_ne wfr w8, decide_eq_true heq]; rfl
          have HNX := Lib.hid (HNR.out (HRK.out.1 heq))
          have HEQ := Lib.hid heq
          clear heq hdone
          generalize frameR (((l.drop at').drop 8).take n) = fr at *
          generalize (l.drop at').take (8 + n) = tk at *
          go_quiet (fail)
          go_wp2_with (at_builtin; go_must (refine wpList_app rfl (.tmp 84) (.tmp 86) 29 rfl w.heap.size 22 (.slice none 0 0) 24 Try.underlying29 info22 rfl u4 acc.length vals rfl (by exact own_below (own_below owu ((Below.refl wf.heap.size wf).drewN _) (Nat.le_refl _)) ((Below.refl _ _).alloc (Nat.le_refl _) _) (Nat.le_refl _)) (some ⟨_, 0, none⟩) 1 1 _ rfl rfl (Src.one1 _ _ _ rfl) (by unfold maxLen; omega) (by omega) (by have h1 := BW.size; simp; omega) ?_; intro v' w4 hown4 hg4))
          go_roundw
          case rel =>
            have bd := fun k => (Below.refl wf.heap.size wf).drewN k
            have ba := fun k => (Below.refl (wf.drewN k).heap.size (wf.drewN k)).alloc (Nat.le_refl _) (Obj.cells #[Value.slice A1 n k1] 22)
            have o3 := fun k => own_below (own_below owu (bd k) (Nat.le_refl _)) (ba k) (Nat.le_refl _)
            have hwl : w.heap.size ≤ W.heap.size := hB2.size
            have owr' : wf.ownsRow w.heap.size 5 1 (.slice A1 n k1) (((l.drop at').drop 8).take n).length (bv (((l.drop at').drop 8).take n)) := own_len (Joins.ownsRow_le owr hwl) HLR.out.symm
            have a3 := fun k => ((oal.below (bd k) (Nat.le_refl _)).below (ba k) (Nat.le_refl _)).snoc (own_below (own_below owr' (bd k) (Nat.le_refl _)) (ba k) (Nat.le_refl _))
            have hBs := BW.size
            refine ⟨acc ++ [((l.drop at').drop 8).take n], _, at' + (8 + n), by go_num, by omega, by simp; omega, ?_, by simpa using hown4, (a3 _).grown (o3 _) hg4, ?_⟩
            · show _ = _
              rw [hres.out, scanL_some HNX.out, HLR.out, List.drop_drop]
              simp
              omega
            · exact Below.own ((BW.drewN _).alloc (by simpa using hBs) _) (o3 _) hg4 (by simp; omega) (Nat.le_refl _)
          case measure => simp [intOf]; omega
        · have hne : (!((strL (frameR (((l.drop at').drop 8).take n))).toList == (strL ((l.drop at').take (8 + n))).toList)) = true := by rw [strL_ne wfr w8, decide_eq_false heq]; rfl
          have HD : Hid (res = (acc, at')) := hdone (by
            have : ¬ nextRok (l.drop at') := fun h => heq (HRK.out.2 h)
            simp [nextR, this])
          clear heq hdone
          generalize frameR (((l.drop at').drop 8).take n) = fr at *
          generalize (l.drop at').take (8 + n) = tk at *
          go_quiet (fail)
          go_wp2_with fail
          go_ret2
          exact ScanPost.mk HD.out rfl (own_below owu ((Below.refl wf.heap.size wf).drewN _) (Nat.le_refl _)) (oal.below ((Below.refl wf.heap.size wf).drewN _) (Nat.le_refl _)) (BW.drewN _)
    · have h8' : (l.length : Int) - at' ≤ 8 := by omega
      have HD : Hid (res = (acc, at')) := by
        show _ = _
        have : nextR (l.drop at') = none := by
          have : ¬ nextRok (l.drop at') := fun h => by have := h.1; simp at this; omega
          simp [nextR, this]
        rw [nextR_eq _ (hw.drop _)] at this
        rw [hres.out, scanL_none this]; simp
      go_wp2
      go_ret2
      exact ScanPost.mk HD.out rfl hown hall hb
end Go.Proofs.Ytmchliaclnkbeaa.J
