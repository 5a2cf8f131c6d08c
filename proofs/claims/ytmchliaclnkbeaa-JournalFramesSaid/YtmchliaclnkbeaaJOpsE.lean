/- The journal's Add. Conditions: an opened journal; records that read. -/
import Derived.Test.YtmchliaclnkbeaaJOpsD
import Derived.Maps.AppendAt
import Derived.OneCell
open Go Go.RowKit Go.Lib
namespace Go.Proofs.Ytmchliaclnkbeaa.J
set_option linter.unusedVariables false
set_option linter.unusedSimpArgs false
/-- 'append' to what is owned, and where the row lies then. -/
theorem wpList_app_at {P : Program} {w : World} {ops : Array Oper} {rest : List Oper} {o : Oper} {a : Act} {Q : Exit → Act → World → Prop} (hgd : o.guard = none) (s x : Operand) (t : TypeId)
    (ho : o.op = .call { callee := .builtin .append, args := #[s, x], argTypes := #[t, t] })
    (base : Nat) (e : TypeId) (z : Value) (bytes : Nat) (ht : P.underlying t = some (.slice e)) (hi : (P.info? e).map (fun i => (i.zero, i.size, i.bytes)) = some (some z, 1, bytes)) (hzs : z.cells.size = 1)
    (v : Value) (n : Nat) (xs : List Value) (hs : a.eval s = v) (hown : w.ownsRow base e 1 v n xs)
    (A : Option Addr) (m c : Nat) (news : List Value) (hx : a.eval x = .slice A m c) (hm : news.length = m) (hsrc : Src w A c news)
    (h63 : n + m ≤ maxLen) (hbytes : (n + m) * bytes ≤ 140737488355328) (hbase : base ≤ w.heap.size)
    (h : ∀ v' w', w'.ownsRow base e 1 v' (n + m) (xs ++ news) → w.grownBy w' v.ownBlock → (v'.ownBlock = v.ownBlock ∨ v'.ownBlock = some w.heap.size) → wpList P ops Q rest (a.put o.dst v') w') : wpList P ops Q (o :: rest) a w := by
  obtain ⟨i, hi0, hz, hsize, hby⟩ := info_parts hi
  cases A with
  | none =>
    obtain ⟨rfl, rfl⟩ := hsrc.nil rfl
    subst hm
    refine wpList_append_own_none hgd s x t ho base e i 1 ht hi0 v n xs hs hown hx ?_
    exact h v w (by simpa using hown) (World.grownBy.refl w _) (Or.inl rfl)
  | some ad =>
    refine wpList_append_own_at w hgd s x t ho base e i z 1 bytes ht hi0 hz hsize hby hzs (by decide) v n xs hs hown ad m c news hx (by omega) ?_ hsrc.one h63 hbytes hbase fun v' w' h2 h3 _ h5 => h v' w' h2 h3 h5
    intro j u hu
    obtain ⟨ad', e, hc⟩ := hsrc.cells j u hu
    cases e; exact hc
theorem src_own {w : World} {base n c : Nat} {A : Option Addr} {l : List Int} (h : w.ownsRow base 5 1 (.slice A n c) n (bv l)) : Src w A c (bv l) := by
  obtain ⟨rfl, A2, c2, e2, hA, hlc, hr⟩ := own_rdB h
  injection e2 with e3 _ e4
  subst e3 e4
  exact Src.ofB hr hA
theorem Chg.grown {S : Nat → Prop} {a w w' : World} {row : Option Nat} (h : Chg S a w) (hg : w.grownBy w' row) (hr : ∀ k, k < a.heap.size → row = some k → S k) : Chg S a w' :=
  h.then (T := fun k => row = some k) ⟨hg.os, hg.tape, hg.output, hg.size, fun k hk hn => hg.block k hk (fun e => hn e.symm)⟩ hr
def AddPost (w : World) (j d : Nat) (live : Int) (g : Value) (gl : List Int) (many : Int) (L : Int) (ll : List (List Int)) (e : Ending) (w' : World) : Prop :=
  ∃ err, e = .returned (.int .i64 err) ∧
    ((¬ (∀ l ∈ ll, okRec l) ∧ err = 1 ∧ Below w.heap.size w w') ∨ ((∀ l ∈ ll, okRec l) ∧ L < (gl.length : Int) + (framesL ll).length ∧ err = 11 ∧ Below w.heap.size w w') ∨
     ((∀ l ∈ ll, okRec l) ∧ ¬ L < (gl.length : Int) + (framesL ll).length ∧ err = 0 ∧ ∃ g', Jn w' j d live g' (many + ll.length) ∧ w'.ownsRow 0 5 1 g' (gl ++ framesL ll).length (bv (gl ++ framesL ll)) ∧
       (∀ k, g'.ownBlock = some k → g.ownBlock = some k ∨ w.heap.size ≤ k) ∧ Chg (fun k => k = j ∨ g.ownBlock = some k) w w'))
set_option maxHeartbeats 800000 in
set_option maxRecDepth 100000 in
theorem add_any2 (w : World) (j d : Nat) (live : Int) (g : Value) (gl : List Int) (many : Int) (h : Jn w j d live g many) (hg : w.ownsRow 0 5 1 g gl.length (bv gl)) (hgj : g.ownBlock ≠ some j) (V : DV) (A0 A1 : Option Addr) (k0 k1 c0 c1 : Nat) (hd : Dk w d V) (hr : 0 < V.room) (hr2 : V.room ≤ 1048576) (h0 : V.n0 = .slice A0 k0 c0) (h1 : V.n1 = .slice A1 k1 c1) (hk0 : k0 ≤ 1048576) (hk1 : k1 ≤ 1048576)
    (A : Option Addr) (ll : List (List Int)) (c : Nat) (hgl : gl.length ≤ 1000000000) (hll : ll.length ≤ 1000000) (hmn : 0 ≤ many ∧ many ≤ 1000000000000) (hrs : RdSS w A ll) (hws : ∀ l ∈ ll, WfB l) (hms : ∀ l ∈ ll, l.length ≤ maxLen) :
    Calls Try.prog 30 #[dp j, .slice A ll.length c] w (AddPost w j d live g gl many (V.room - k0 - k1) ll) := by
  have hk := jok w j d live _ many h
  have hfr := frames_any w j d live g many h V A0 A1 k0 k1 c0 c1 hd hr hr2 h0 h1 hk0 hk1 A ll c gl.length hgl hll hrs hws hms
  obtain ⟨Ag, cg, rfl, _⟩ := own_form hg
  have e2 := h.cell 2
  have e3 := h.cell 3
  simp at e2 e3
  have HK := Lib.hid h
  have hjl := h.lt
  clear h hd
  generalize V.room - k0 - k1 = L at *
  by_cases hall : ∀ l ∈ ll, okRec l
  · by_cases hfull : L < (gl.length : Int) + (framesL ll).length
    · have hf := hfr.mono (R' := fun e w' => ∃ A c, e = .returned (.tuple #[.slice A 0 c, .int .i64 11]) ∧ Below w.heap.size w w') (by
        rintro e w' ⟨A, c, err, he, hb, hp⟩
        rcases hp with ⟨x, _⟩ | ⟨_, _, rfl⟩ | ⟨_, x, _⟩
        · exact absurd hall x
        · exact ⟨A, c, he, hb⟩
        · exact absurd hfull x)
      have HA := Lib.hid hall
      have HF := Lib.hid hfull
      clear hall hfull hfr
      go_enter Try.func30, Try.ntmps30
      go_wp2_with (first
        | (go_at_call 47; refine hk.mono ?_; rintro e w' ⟨rfl, rfl⟩)
        | (go_at_call 51; go_must (refine hf.mono ?_; rintro e w1 ⟨A1', c1', rfl, hb⟩)))
      go_ret
      exact ⟨11, rfl, Or.inr (Or.inl ⟨HA.out, HF.out, rfl, hb⟩)⟩
    · have hf := hfr.mono (R' := fun e w' => ∃ A c, e = .returned (.tuple #[.slice A (framesL ll).length c, .int .i64 0]) ∧ Below w.heap.size w w' ∧ w'.ownsRow w.heap.size 5 1 (.slice A (framesL ll).length c) (framesL ll).length (bv (framesL ll))) (by
        rintro e w' ⟨A, c, err, he, hb, hp⟩
        rcases hp with ⟨x, _⟩ | ⟨_, x, _⟩ | ⟨_, _, rfl, ho⟩
        · exact absurd hall x
        · exact absurd x hfull
        · exact ⟨A, c, he, hb, ho⟩)
      have hlen := framesL_len ll hall
      have HA := Lib.hid hall
      have HF := Lib.hid hfull
      clear hall hfull hfr
      go_enter Try.func30, Try.ntmps30
      go_wp2_with (first
        | (go_at_call 47; refine hk.mono ?_; rintro e w' ⟨rfl, rfl⟩)
        | (go_at_call 51; go_must (refine hf.mono ?_; rintro e w1 ⟨A1', c1', rfl, hb, ho⟩; have hb2 : w1.cell? ⟨j, 2, none⟩ = _ := (hb.cell (p := ⟨j, 2, none⟩) hjl).trans e2))
        | (at_builtin; go_must (refine wpList_app_at rfl (.tmp 28) (.tmp 29) 22 rfl 0 5 (.int .u8 0) 1 Try.underlying22 info5 rfl (.slice Ag gl.length cg) gl.length (bv gl) rfl (own_below hg hb (Nat.le_refl _)) _ _ _ (bv (framesL ll)) rfl (bv_length _) (src_own ho) (by unfold maxLen; omega) (by omega) (Nat.zero_le _) ?_; intro v2 w2 o2 g2 p2; obtain ⟨A2, c2, rfl, _⟩ := own_form o2; have hkj : Jn w2 j d live (.slice Ag gl.length cg) many := (g2.block j (Nat.lt_of_lt_of_le hjl hb.size) (fun e => hgj e.symm)).trans (HK.out.below hb hjl); have q2 := hkj.cell 2; have q3 := hkj.cell 3; simp at q2 q3; have f2 := hkj.frozen 2; have f3 := hkj.frozen 3)))
      go_ret
      refine ⟨0, rfl, Or.inr (Or.inr ⟨HA.out, by have := HF.out; omega, rfl, .slice A2 (gl.length + (framesL ll).length) c2, ?_, ?_, ?_, ?_⟩)⟩
      · exact (hkj.set 2 _).set 3 _
      · have hnj : (Value.slice A2 (gl.length + (framesL ll).length) c2).ownBlock ≠ some j := by
          rcases p2 with p2 | p2
          · rw [p2]; exact hgj
          · rw [p2]; intro e; injection e with e; have := hb.size; omega
        have o3 := ownsRow_setCell_other (ownsRow_setCell_other o2 (a := ⟨j, 2, none⟩) hnj (.slice A2 (gl.length + (framesL ll).length) c2)) (a := ⟨j, 3, none⟩) hnj (.int .i64 (many + ll.length))
        have ebv : bv gl ++ bv (framesL ll) = bv (gl ++ framesL ll) := by simp [bv]
        rw [ebv] at o3
        rw [List.length_append]
        exact o3
      · intro k hk2
        rcases p2 with p2 | p2
        · rw [p2] at hk2; exact Or.inl hk2
        · rw [p2] at hk2; injection hk2 with e; exact Or.inr (by have := hb.size; omega)
      · exact (((Chg.of_below (S := fun k => k = j ∨ (Value.slice Ag gl.length cg).ownBlock = some k) hb).grown g2 (fun k _ e => Or.inr e)).setCell (p := ⟨j, 2, none⟩) (fun _ => Or.inl rfl) _).setCell (p := ⟨j, 3, none⟩) (fun _ => Or.inl rfl) _
  · have hf := hfr.mono (R' := fun e w' => ∃ A c, e = .returned (.tuple #[.slice A 0 c, .int .i64 1]) ∧ Below w.heap.size w w') (by
      rintro e w' ⟨A, c, err, he, hb, hp⟩
      rcases hp with ⟨_, rfl⟩ | ⟨x, _⟩ | ⟨x, _⟩
      · exact ⟨A, c, he, hb⟩
      · exact absurd x hall
      · exact absurd x hall)
    have HA := Lib.hid hall
    clear hall hfr
    go_enter Try.func30, Try.ntmps30
    go_wp2_with (first
      | (go_at_call 47; refine hk.mono ?_; rintro e w' ⟨rfl, rfl⟩)
      | (go_at_call 51; go_must (refine hf.mono ?_; rintro e w1 ⟨A1', c1', rfl, hb⟩)))
    go_ret
    exact ⟨1, rfl, Or.inl ⟨HA.out, rfl, hb⟩⟩
end Go.Proofs.Ytmchliaclnkbeaa.J
