/- The disk's Sync, Root and Read, and the journal's Open of a disk whose live file is whole records. Conditions: a made disk that is on. -/
import Derived.Test.YtmchliaclnkbeaaJOps
open Go Go.RowKit Go.Lib
namespace Go.Proofs.Ytmchliaclnkbeaa.J
set_option linter.unusedVariables false
set_option linter.unusedSimpArgs false
theorem DV.sl_actV {V : DV} (h : V.sl) : (actV V).sl := by
  unfold DV.sl at *
  rw [(DV.n_actV V).1, (DV.n_actV V).2.1]; exact h
def SyncPost (w : World) (d : Nat) (V : DV) (i : Nat) (e : Ending) (w' : World) : Prop :=
  ∃ (V' : DV), e = .returned (.int .i64 (actE V)) ∧ Dk w' d V' ∧ Chg (fun k => k = d) w w' ∧ ((actDo V = false ∧ V' = actV V) ∨ (actDo V = true ∧ V' = (actV V).sync i))
set_option maxHeartbeats 800000 in
set_option maxRecDepth 100000 in
theorem sync_any (w : World) (d : Nat) (V : DV) (i : Nat) (hi : i < 2) (h : Dk w d V) (hr : 0 < V.room) (ho : V.off = false) (hf : V.fuse < 9000000000000000000) (hs : V.sl) :
    Calls Try.prog 53 #[dp d, .int .i64 i] w (SyncPost w d V i) := by
  have hact := actSync w d i hi V 0 (fun V' w' => Dk w' d (V'.sync i) ∧ Chg (fun k => k = d) w w') h hr ho hf ((always_any _ w).mono fun e w' ⟨he, hw⟩ => ⟨he, 0, hw.symm⟩) (by
    intro _ W V' hW hc hv
    refine (sync1_any W d V' i hi hW (by rw [hv]; exact DV.sl_actV hs)).mono ?_
    rintro e w' ⟨k1, k2, k3⟩
    exact ⟨k1, k2, hc.trans k3⟩)
  have hact2 := hact.mono (R' := fun e w' => e = .returned (.int .i64 (actE V)) ∧ SyncPost w d V i (.returned (.int .i64 (actE V))) w') (by
    intro e w' hp
    rcases hp with ⟨k1, k2, k3⟩ | ⟨k1, k2, k3⟩
    · exact absurd rfl k1
    · refine ⟨k2, ?_⟩
      rcases k3 with ⟨a1, a2, a3⟩ | ⟨a1, a2, a3⟩
      · exact ⟨_, rfl, a2, a3, Or.inr ⟨a1, rfl⟩⟩
      · exact ⟨_, rfl, a2, a3, Or.inl ⟨a1, rfl⟩⟩)
  clear hact
  generalize actE V = err at *
  go_enter Try.func53, Try.ntmps53
  go_wp2_with (go_at_call 65; go_must (refine hact2.mono ?_; rintro e w' ⟨rfl, hpost⟩))
  go_ret
  exact hpost
theorem root_any (w : World) (d : Nat) (V : DV) (h : Dk w d V) (hr : 0 < V.room) (ho : V.off = false) :
    Calls Try.prog 25 #[dp d] w fun e w' => e = .returned (.tuple #[.int .i64 V.root, .int .i64 0]) ∧ w = w' := by
  have hfl := dfile w d V 0 (by omega) h hr ho
  obtain ⟨d0, d1, d2, d3, d4, d5, d6, d7, d8, d9, d10⟩ := h.all
  go_enter Try.func25, Try.ntmps25
  go_wp2_with (go_at_call 49; refine hfl.mono ?_; rintro e w' ⟨rfl, rfl⟩)
  go_ret2
  exact ⟨rfl, rfl⟩
set_option maxHeartbeats 400000 in
theorem read_any2 (w : World) (d : Nat) (V : DV) (i : Nat) (hi : i < 2) (ln : List Int) (h : Dk w d V) (hr : 0 < V.room) (ho : V.off = false) (hn : SlB w (V.now i) ln) (hl : ln.length ≤ 1048576) :
    Calls Try.prog 26 #[dp d, .int .i64 i] w fun e w' => (∃ v, e = .returned (.tuple #[v, .int .i64 0]) ∧ w'.ownsRow w.heap.size 5 1 v ln.length (bv ln)) ∧ Below w.heap.size w w' := by
  have hfl := dfile w d V i hi h hr ho
  obtain ⟨d0, d1, d2, d3, d4, d5, d6, d7, d8, d9, d10⟩ := h.all
  obtain ⟨A, c, e, hA, hlc, hrd⟩ := hn
  have hcl := clone_any A ln c w hA (by omega) hrd
  have hcell : w.cell? ⟨d, 3 * i, none⟩ = some (.slice A ln.length c) := by
    rcases (by omega : i = 0 ∨ i = 1) with rfl | rfl
    · rw [← e]; exact d0
    · rw [← e]; exact d3
  clear d0 d1 d2 d3 d4 d5 d6 d7 d8 d9 d10 e
  have hz : (some (⟨d, 3 * i, none⟩ : Addr)) ≠ none := by simp
  go_enter Try.func26, Try.ntmps26
  go_wp2_with (first
    | (go_at_call 49; refine hfl.mono ?_; rintro e w' ⟨rfl, rfl⟩)
    | (go_at_call 37; go_must (refine hcl.mono ?_; rintro e w' ⟨⟨v, rfl, ho⟩, hb⟩)))
  go_ret2
  exact ⟨⟨v, rfl, ho⟩, hb⟩
theorem trim_same (w : World) (x : Value) (i n : Int) : Calls Try.prog 38 #[x, .int .i64 i, .int .i64 n, .int .i64 n] w fun e w' => e = .returned (.int .i64 0) ∧ w = w' := by
  have hz : (n == n) = true := by simp
  go_enter Try.func38, Try.ntmps38
  go_wp2
  go_ret
  exact ⟨rfl, rfl⟩
theorem own_cap {w : World} {base n c : Nat} {e : TypeId} {A : Option Addr} {xs : List Value} (h : w.ownsRow base e 1 (.slice A n c) n xs) : c ≤ 9223372036854775807 := by
  rcases h.2 with ⟨h1, _⟩ | ⟨g, cap, cur, h1, _, _, _, hm, _⟩
  · injection h1 with _ _ h3; omega
  · injection h1 with _ _ h3; unfold maxLen at hm; omega
theorem OwnAll.le {w : World} {base b2 : Nat} {vals : List Value} {ll : List (List Int)} (h : OwnAll w base vals ll) (hb : b2 ≤ base) : OwnAll w b2 vals ll :=
  ⟨h.1, fun i hi => by obtain ⟨v, hv, ho⟩ := h.2 i hi; exact ⟨v, hv, Joins.ownsRow_le ho hb⟩⟩
/-- 'Scan' of what the call owns. -/
theorem scan_own (w : World) (A : Option Addr) (c : Nat) (l : List Int) (base n : Nat) (hn : l.length = n) (h : w.ownsRow base 5 1 (.slice A n c) n (bv l)) (hl : l.length ≤ 1000000) (hw : WfB l) :
    Calls Try.prog 8 #[.slice A n c] w fun e w' => (∃ A' c' vals, e = .returned (.tuple #[.slice A' (scanL l).1.length c', .int .i64 (scanL l).2]) ∧ w'.ownsRow w.heap.size 22 1 (.slice A' (scanL l).1.length c') (scanL l).1.length vals ∧ OwnAll w' w.heap.size vals (scanL l).1) ∧ Below w.heap.size w w' := by
  subst hn
  have hc := own_cap h
  obtain ⟨_, A2, c2, e2, hA, hlc, hr⟩ := own_rdB h
  injection e2 with e3 _ e4
  subst e3 e4
  have hA2 : A = none → l = [] ∧ c = 0 := fun e => by
    refine ⟨?_, hA e⟩
    cases l with
    | nil => rfl
    | cons x l => obtain ⟨b, o, e2⟩ := hr.some_of (by simp); rw [e] at e2; cases e2
  refine (scan_any A l c w hA2 hlc ⟨hl, hc⟩ hw hr).mono ?_
  rintro e w' ⟨⟨v, vals, h1, h2, h3⟩, h4⟩
  obtain ⟨A', c', rfl, _⟩ := own_form h2
  exact ⟨⟨A', c', vals, h1, h2, h3⟩, h4⟩
/-- The journal's cells: its disk, the live file, the group, how many. -/
def Jn (w : World) (j d : Nat) (live : Int) (g : Value) (many : Int) : Prop := Blk w j #[dp d, .int .i64 live, g, .int .i64 many] 90
def OpenPost (w : World) (d : Nat) (live : Nat) (recs : List (List Int)) (e : Ending) (w' : World) : Prop :=
  ∃ j v vals, e = .returned (.tuple #[dp j, v, .int .i64 0]) ∧ w.heap.size ≤ j ∧ Jn w' j d live (.slice none 0 0) 0 ∧ w'.ownsRow w.heap.size 22 1 v recs.length vals ∧ OwnAll w' w.heap.size vals recs ∧ Below w.heap.size w w'
set_option maxHeartbeats 800000 in
set_option maxRecDepth 100000 in
theorem open_clean (w : World) (d : Nat) (V : DV) (live : Nat) (hi : live < 2) (hroot : V.root = live) (ln : List Int) (h : Dk w d V) (hr : 0 < V.room) (ho : V.off = false) (hn : SlB w (V.now live) ln) (hl : ln.length ≤ 1000000) (hw : WfB ln)
    (h2 : SlB w (V.now (1 - live)) []) (hsc : ((scanL ln).2 : Nat) = ln.length) :
    Calls Try.prog 14 #[dp d] w (OpenPost w d live (scanL ln).1) := by
  have hro := root_any w d V h hr ho
  rw [hroot] at hro
  have hrd := read_any2 w d V live hi ln h hr ho hn (by omega)
  generalize hres : scanL ln = res at *
  have HRES := Lib.hid hres
  clear hres
  have hsub : (1 : Int) - (live : Int) = ((1 - live : Nat) : Int) := by omega
  have hrd2 := fun W (hB : Below w.heap.size w W) => read_any2 W d V (1 - live) (by omega) [] (h.below hB h.lt) hr ho (h2.below hB (Nat.le_refl _)) (by simp)
  simp only [← hsub] at hrd2
  have hdl := h.lt
  have HK := Lib.hid h
  clear h hn h2 hsub hroot
  go_enter Try.func14, Try.ntmps14
  go_wp2_with (first
    | (go_at_call 25; refine hro.mono ?_; rintro e w' ⟨rfl, rfl⟩)
    | (go_at_call 26; with_reducible refine hrd.mono ?_; rintro e w1 ⟨⟨v1, rfl, o1⟩, b1⟩; obtain ⟨A1, c1, rfl, _⟩ := own_form o1)
    | (go_at_call 26; go_must (refine (hrd2 _ (b1.trans (b2.mono b1.size))).mono ?_; rintro e w4 ⟨⟨v4, rfl, o4⟩, b4⟩; obtain ⟨A4, c4, rfl, _⟩ := own_form o4))
    | (go_at_call 8; go_must (refine (scan_own _ _ _ ln _ _ rfl o1 hl hw).mono ?_; rw [HRES.out]; rintro e w2 ⟨⟨A2, c2, vals, rfl, o2, oa⟩, b2⟩))
    | (go_at_call 38; go_must (refine (trim_same _ _ _ _).mono ?_; rintro e w3 ⟨rfl, rfl⟩)))
  go_ret3
  have s1 := b1.size
  have s2 := b2.size
  have s4 := b4.size
  have B4 : Below w.heap.size w w4 := (b1.trans (b2.mono s1)).trans (b4.mono (by omega))
  have al := fun o => (Below.refl w4.heap.size w4).alloc (Nat.le_refl _) o
  refine ⟨w4.heap.size, _, vals, rfl, by omega, Blk.new _ _ _, ?_, ?_, B4.alloc (by omega) _⟩
  · exact own_below (own_below (Joins.ownsRow_le o2 s1) b4 (Nat.le_refl _)) (al _) (Nat.le_refl _)
  · exact ((oa.le s1).below b4 (Nat.le_refl _)).below (al _) (Nat.le_refl _)
end Go.Proofs.Ytmchliaclnkbeaa.J
