/- The function literals that the disk's Append and Sync hand to act. Conditions: as of the disk. -/
import Derived.Test.YtmchliaclnkbeaaJDk
import Derived.Deep.RegionLaw
open Go Go.RowKit Go.Lib
namespace Go.Proofs.Ytmchliaclnkbeaa.J
set_option linter.unusedVariables false
set_option linter.unusedSimpArgs false
/-- 'append' to what the call owns, as one step of a region that draws. -/
theorem step_app {P : Program} {ops : Array Oper} {o : Oper} {a : Act} {w : World} {K : Act → World → Prop} {Q : Exit → Act → World → Prop} {E : Prop} (hgd : o.guard = none) (s x : Operand) (t : TypeId)
    (ho : o.op = .call { callee := .builtin .append, args := #[s, x], argTypes := #[t, t] })
    (base : Nat) (e : TypeId) (z : Value) (bytes : Nat) (ht : P.underlying t = some (.slice e)) (hi : (P.info? e).map (fun i => (i.zero, i.size, i.bytes)) = some (some z, 1, bytes)) (hzs : z.cells.size = 1)
    (v : Value) (n : Nat) (xs : List Value) (hs : a.eval s = v) (hown : w.ownsRow base e 1 v n xs)
    (A : Option Addr) (m c : Nat) (news : List Value) (hx : a.eval x = .slice A m c) (hm : news.length = m) (hsrc : Src w A c news)
    (h63 : n + m ≤ maxLen) (hbytes : (n + m) * bytes ≤ 140737488355328) (hbase : base ≤ w.heap.size)
    (h : ∀ v' w', w'.ownsRow base e 1 v' (n + m) (xs ++ news) → w.grownBy w' v.ownBlock → K (a.put o.dst v') w') :
    if Region.wanted o (yielded ops a.tmps) = true then Oper.wp P o a w K Q else E := by
  have hw : Region.wanted o (yielded ops a.tmps) = true := by simp [Region.wanted, hgd]
  rw [if_pos hw]
  obtain ⟨i, hi0, hz, hsize, hby⟩ := info_parts hi
  cases A with
  | none =>
    obtain ⟨rfl, rfl⟩ := hsrc.nil rfl
    subst hm
    have hrun := run_append_owned_none (P := P) (w := w) base t o.type e i 1 ht hi0 v n xs hown
    unfold Oper.wp
    simp [execOp, ho, resolve, invoke, builtin, hs, hx, hrun, Result.andThen]
    exact h v w (by simpa using hown) (World.grownBy.refl w _)
  | some ad =>
    refine wp_append_own w s x t ho base e i z 1 bytes ht hi0 hz hsize hby hzs (by decide) v n xs hs hown ad m c news hx (by omega) ?_ hsrc.one h63 hbytes hbase fun v' w' h2 h3 _ => h v' w' h2 h3
    intro j u hu
    obtain ⟨ad', e, hc⟩ := hsrc.cells j u hu
    cases e; exact hc
def DV.now (V : DV) (i : Nat) : Value := if i = 0 then V.n0 else V.n1
def DV.setNow (V : DV) (i : Nat) (v : Value) : DV := if i = 0 then { V with n0 := v } else { V with n1 := v }
def DV.sync (V : DV) (i : Nat) : DV := if i = 0 then { V with s0 := V.n0, c0 := -1 } else { V with s1 := V.n1, c1 := -1 }
theorem always_any (a : Value) (w : World) : Calls Try.prog 68 #[a] w fun e w' => e = .returned (.int .i64 0) ∧ w = w' := by
  go_enter Try.func68, Try.ntmps68
  go_wp2
  go_ret
  exact ⟨rfl, rfl⟩
/-- Both files' bytes are slices. -/
def DV.sl (V : DV) : Prop := (∃ A n c, V.n0 = .slice A n c) ∧ (∃ A n c, V.n1 = .slice A n c)
set_option maxHeartbeats 400000 in
theorem sync1_any (w : World) (d : Nat) (V : DV) (i : Nat) (hi : i < 2) (h : Dk w d V) (hs : V.sl) : Calls Try.prog 69 #[.pointer (some ⟨d, 3 * i, none⟩)] w fun e w' => e = .returned (.tuple #[]) ∧ Dk w' d (V.sync i) ∧ Chg (fun k => k = d) w w' := by
  have HK := Lib.hid h
  have g1 := h.frozen 1
  have g2 := h.frozen 2
  have g4 := h.frozen 4
  have g5 := h.frozen 5
  obtain ⟨d0, d1, d2, d3, d4, d5, d6, d7, d8, d9, d10⟩ := h.all
  clear h
  obtain ⟨⟨A0, k0, c0, h0⟩, ⟨A1, k1, c1, h1⟩⟩ := hs
  have H0 := Lib.hid h0
  have H1 := Lib.hid h1
  rw [h0] at d0
  rw [h1] at d3
  clear h0 h1
  rcases (by omega : i = 0 ∨ i = 1) with rfl | rfl
  · go_enter Try.func69, Try.ntmps69
    go_wp2
    go_end0
    refine ⟨rfl, ?_, ((Chg.refl (fun k => k = d) w).setCell (fun _ => rfl) _).setCell (fun _ => rfl) _⟩
    have := (HK.out.set 1 V.n0).set 2 (.int .i64 (-1))
    rw [← H0.out]
    exact this
  · go_enter Try.func69, Try.ntmps69
    go_wp2
    go_end0
    refine ⟨rfl, ?_, ((Chg.refl (fun k => k = d) w).setCell (fun _ => rfl) _).setCell (fun _ => rfl) _⟩
    have := (HK.out.set 4 V.n1).set 5 (.int .i64 (-1))
    rw [← H1.out]
    exact this
set_option maxHeartbeats 400000 in
theorem app1_any (w : World) (d B D : Nat) (V : DV) (i : Nat) (A0 A1 A : Option Addr) (k0 k1 c0 c1 n c : Nat) (h : Dk w d V) (hr : 0 < V.room) (hr2 : V.room ≤ 1048576) (h0 : V.n0 = .slice A0 k0 c0) (h1 : V.n1 = .slice A1 k1 c1) (hk0 : k0 ≤ 1048576) (hk1 : k1 ≤ 1048576)
    (hB : w.cell? ⟨B, 0, none⟩ = some (.slice A n c)) (hD : w.cell? ⟨D, 0, none⟩ = some (dp d)) :
    Calls Try.prog 66 #[.pointer (some ⟨d, 3 * i, none⟩), .pointer (some ⟨B, 0, none⟩), .pointer (some ⟨D, 0, none⟩)] w fun e w' => e = .returned (.int .i64 (if V.room - k0 - k1 < n then 11 else 0)) ∧ ∃ q, w' = w.drewN q := by
  have hl := fun q => dleft (w.drewN q) d V A0 A1 k0 k1 c0 c1 (h.drewN q) hr hr2 h0 h1 hk0 hk1
  clear h
  generalize V.room - k0 - k1 = L at *
  by_cases hlt : L < n
  · go_enter Try.func66, Try.ntmps66
    go_wp2
    go_quiet ((go_at_call 50; refine Calls.quiet_of (hl _)))
    go_wp2
    go_ret
    exact ⟨rfl, _, rfl⟩
  · go_enter Try.func66, Try.ntmps66
    go_wp2
    go_quiet ((go_at_call 50; refine Calls.quiet_of (hl _)))
    go_wp2
    go_ret
    exact ⟨rfl, _, rfl⟩
/-- A slice of bytes, whole. -/
def SlB (w : World) (v : Value) (l : List Int) : Prop := ∃ A c, v = .slice A l.length c ∧ (A = none → c = 0) ∧ l.length ≤ c ∧ RdB w A l
theorem SlB.of_own {w : World} {base n : Nat} {v : Value} {l : List Int} (h : w.ownsRow base 5 1 v n (bv l)) : SlB w v l := by
  obtain ⟨rfl, A, c, rfl, hA, hc, hr⟩ := own_rdB h
  exact ⟨A, c, rfl, hA, hc, hr⟩
def Fresh (w : World) (v : Value) : Prop := ∀ k, v.ownBlock = some k → w.heap.size ≤ k
theorem app_keeps (d : Nat) {w w' : World} {base n : Nat} {e : TypeId} {s : Nat} {v : Value} {xs : List Value} (h : w.ownsRow base e s v n xs) (hg : w.grownBy w' v.ownBlock) (hd : d < w.heap.size) (hb : d < base) : w'.heap[d]? = w.heap[d]? :=
  hg.block d hd (fun e => by have := (h.lt d e.symm).1; omega)
set_option maxHeartbeats 800000 in
set_option maxRecDepth 100000 in
theorem app2_zero (w : World) (d B : Nat) (V : DV) (vb : Value) (ln lb : List Int) (h : Dk w d V) (hn : SlB w V.n0 ln) (hb : SlB w vb lb) (hB : w.cell? ⟨B, 0, none⟩ = some vb) (hl1 : ln.length ≤ 1048576) (hl2 : lb.length ≤ 1048576) :
    Calls Try.prog 67 #[.pointer (some ⟨d, 0, none⟩), .pointer (some ⟨B, 0, none⟩)] w fun e w' => e = .returned (.tuple #[]) ∧ ∃ v, Dk w' d { V with n0 := v } ∧ SlB w' v (ln ++ lb) ∧ Fresh w v ∧ Chg (fun k => k = d) w w' := by
  have HK := Lib.hid h
  have hd := h.lt
  have hBs := block_lt_of_cell hB
  have g0 := h.frozen 0
  have d0 := h.all.1
  clear h
  obtain ⟨A0, c0, h0, hA0, hc0, hr0⟩ := hn
  obtain ⟨Ab, cb, rfl, hAb, hcb, hrb⟩ := hb
  have H0 := Lib.hid h0
  rw [h0] at d0
  clear h0
  simp only at hBs
  go_enter Try.func67, Try.ntmps67
  go_region_law (first
    | (refine step_app rfl (.tmp 8) (.tmp 9) 22 rfl w.heap.size 5 (.int .u8 0) 1 Try.underlying22 info5 rfl v2 ln.length (bv ln) rfl o2 Ab lb.length cb (bv lb) rfl (bv_length lb) (Src.ofB (RdB.below (RdB.drew hrb) b2 (Nat.le_refl _)) hAb) (by unfold maxLen; omega) (by omega) hz2 ?_; intro v3 w3 o3 g3; obtain ⟨A3, c3, rfl, _⟩ := own_form o3; have hd3 := app_keeps d o2 g3 (Nat.lt_of_lt_of_le hd hz2) hd; have hcd3 : w3.cell? ⟨d, 0, none⟩ = _ := (World.cell?_of_block (a := ⟨d, 0, none⟩) hd3).trans hcd; have hfd3 : w3.frozen? ⟨d, 0, none⟩ = false := (World.frozen?_of_block (a := ⟨d, 0, none⟩) hd3).trans hfd)
    | (go_simp; go_at_call 37; refine (clone_any A0 ln c0 _ hA0 (by omega) (by exact hr0)).mono ?_; rintro e w2 ⟨⟨v2, rfl, o2⟩, b2⟩; have hcB : w2.cell? ⟨B, 0, none⟩ = _ := (b2.cell (p := ⟨B, 0, none⟩) hBs).trans hB; have hcd : w2.cell? ⟨d, 0, none⟩ = _ := (b2.cell (p := ⟨d, 0, none⟩) hd).trans d0; have hfd : w2.frozen? ⟨d, 0, none⟩ = false := (b2.frozen (p := ⟨d, 0, none⟩) hd).trans g0; have hz2 : w.heap.size ≤ w2.heap.size := b2.size))
  all_goals
    go_end0
    have B2 : Below w.heap.size w w2 := (Below.refl w.heap.size w).drew.trans b2
    have B3 : Below w.heap.size w w3 := Below.own B2 o2 g3 hz2 (Nat.le_refl _)
    have hk3 : Blk w3 d V.cells 87 := hd3.trans (HK.out.below B2 hd)
    have o4 := ownsRow_setCell_below o3 (a := ⟨d, 0, none⟩) hd (.slice A3 (ln.length + lb.length) c3)
    have ebv : bv ln ++ bv lb = bv (ln ++ lb) := by simp [bv]
    rw [ebv] at o4
    exact ⟨rfl, .slice A3 (ln.length + lb.length) c3, hk3.set 0 (.slice A3 (ln.length + lb.length) c3), SlB.of_own o4, fun k hk => (o3.lt k hk).1, (Chg.of_below (S := fun k => k = d) B3).setCell (p := ⟨d, 0, none⟩) (fun _ => rfl) _⟩
set_option maxHeartbeats 800000 in
set_option maxRecDepth 100000 in
theorem app2_one (w : World) (d B : Nat) (V : DV) (vb : Value) (ln lb : List Int) (h : Dk w d V) (hn : SlB w V.n1 ln) (hb : SlB w vb lb) (hB : w.cell? ⟨B, 0, none⟩ = some vb) (hl1 : ln.length ≤ 1048576) (hl2 : lb.length ≤ 1048576) :
    Calls Try.prog 67 #[.pointer (some ⟨d, 3, none⟩), .pointer (some ⟨B, 0, none⟩)] w fun e w' => e = .returned (.tuple #[]) ∧ ∃ v, Dk w' d { V with n1 := v } ∧ SlB w' v (ln ++ lb) ∧ Fresh w v ∧ Chg (fun k => k = d) w w' := by
  have HK := Lib.hid h
  have hd := h.lt
  have hBs := block_lt_of_cell hB
  have g0 := h.frozen 3
  have d0 := h.all.2.2.2.1
  clear h
  obtain ⟨A0, c0, h0, hA0, hc0, hr0⟩ := hn
  obtain ⟨Ab, cb, rfl, hAb, hcb, hrb⟩ := hb
  have H0 := Lib.hid h0
  rw [h0] at d0
  clear h0
  simp only at hBs
  go_enter Try.func67, Try.ntmps67
  go_region_law (first
    | (refine step_app rfl (.tmp 8) (.tmp 9) 22 rfl w.heap.size 5 (.int .u8 0) 1 Try.underlying22 info5 rfl v2 ln.length (bv ln) rfl o2 Ab lb.length cb (bv lb) rfl (bv_length lb) (Src.ofB (RdB.below (RdB.drew hrb) b2 (Nat.le_refl _)) hAb) (by unfold maxLen; omega) (by omega) hz2 ?_; intro v3 w3 o3 g3; obtain ⟨A3, c3, rfl, _⟩ := own_form o3; have hd3 := app_keeps d o2 g3 (Nat.lt_of_lt_of_le hd hz2) hd; have hcd3 : w3.cell? ⟨d, 3, none⟩ = _ := (World.cell?_of_block (a := ⟨d, 3, none⟩) hd3).trans hcd; have hfd3 : w3.frozen? ⟨d, 3, none⟩ = false := (World.frozen?_of_block (a := ⟨d, 3, none⟩) hd3).trans hfd)
    | (go_simp; go_at_call 37; refine (clone_any A0 ln c0 _ hA0 (by omega) (by exact hr0)).mono ?_; rintro e w2 ⟨⟨v2, rfl, o2⟩, b2⟩; have hcB : w2.cell? ⟨B, 0, none⟩ = _ := (b2.cell (p := ⟨B, 0, none⟩) hBs).trans hB; have hcd : w2.cell? ⟨d, 3, none⟩ = _ := (b2.cell (p := ⟨d, 3, none⟩) hd).trans d0; have hfd : w2.frozen? ⟨d, 3, none⟩ = false := (b2.frozen (p := ⟨d, 3, none⟩) hd).trans g0; have hz2 : w.heap.size ≤ w2.heap.size := b2.size))
  all_goals
    go_end0
    have B2 : Below w.heap.size w w2 := (Below.refl w.heap.size w).drew.trans b2
    have B3 : Below w.heap.size w w3 := Below.own B2 o2 g3 hz2 (Nat.le_refl _)
    have hk3 : Blk w3 d V.cells 87 := hd3.trans (HK.out.below B2 hd)
    have o4 := ownsRow_setCell_below o3 (a := ⟨d, 3, none⟩) hd (.slice A3 (ln.length + lb.length) c3)
    have ebv : bv ln ++ bv lb = bv (ln ++ lb) := by simp [bv]
    rw [ebv] at o4
    exact ⟨rfl, .slice A3 (ln.length + lb.length) c3, hk3.set 3 (.slice A3 (ln.length + lb.length) c3), SlB.of_own o4, fun k hk => (o3.lt k hk).1, (Chg.of_below (S := fun k => k = d) B3).setCell (p := ⟨d, 3, none⟩) (fun _ => rfl) _⟩
theorem app2_any (w : World) (d B : Nat) (V : DV) (i : Nat) (hi : i < 2) (vb : Value) (ln lb : List Int) (h : Dk w d V) (hn : SlB w (V.now i) ln) (hb : SlB w vb lb) (hB : w.cell? ⟨B, 0, none⟩ = some vb) (hl1 : ln.length ≤ 1048576) (hl2 : lb.length ≤ 1048576) :
    Calls Try.prog 67 #[.pointer (some ⟨d, 3 * i, none⟩), .pointer (some ⟨B, 0, none⟩)] w fun e w' => e = .returned (.tuple #[]) ∧ ∃ v, Dk w' d (V.setNow i v) ∧ SlB w' v (ln ++ lb) ∧ Fresh w v ∧ Chg (fun k => k = d) w w' := by
  rcases (by omega : i = 0 ∨ i = 1) with rfl | rfl
  · exact app2_zero w d B V vb ln lb h hn hb hB hl1 hl2
  · exact app2_one w d B V vb ln lb h hn hb hB hl1 hl2
end Go.Proofs.Ytmchliaclnkbeaa.J
