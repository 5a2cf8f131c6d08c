/- The program's Scan gives the records that stand at the begin of some bytes, each in a row of its own. Condition: no more than a million bytes. -/
import Derived.Test.YtmchliaclnkbeaaJNext
import Derived.Lib.OwnKind
import Derived.Lib.SmallJoins
open Go Go.RowKit Go.Lib
namespace Go.Proofs.Ytmchliaclnkbeaa.J
set_option linter.unusedVariables false
set_option linter.unusedSimpArgs false
def nextOk (l : List Int) : Prop := 8 ≤ l.length ∧ 1 ≤ rd4 l ∧ rd4 l ≤ 16384 ∧ rd4 l ≤ (l.length : Int) - 8 ∧ crcC [l.take 4, (l.drop 8).take (rd4 l).toNat] = rd4 (l.drop 4)
instance (l : List Int) : Decidable (nextOk l) := by unfold nextOk; exact inferInstance
def nextL (l : List Int) : Option (List Int) := if nextOk l then some ((l.drop 8).take (rd4 l).toNat) else none
theorem RdB.some_of {w : World} {A : Option Addr} {l : List Int} (h : RdB w A l) (hl : 0 < l.length) : ∃ b o, A = some ⟨b, o, none⟩ := by
  obtain ⟨b, o, e, _⟩ := h 0 hl
  exact ⟨b, o, e⟩
theorem next_none (A : Option Addr) (l : List Int) (n c : Nat) (w : World) (hn : l.length = n) (hlc : l.length ≤ c) (hc : l.length ≤ 1000000 ∧ c ≤ 9223372036854775807) (hw : WfB l) (hr : RdB w A l) (h : nextL l = none) :
    Calls Try.prog 36 #[.slice A n c] w fun e w' => (∃ v, e = .returned (.tuple #[v, .bool false])) ∧ Below w.heap.size w w' := by
  subst hn
  by_cases h8 : l.length < 8
  · exact (next_short A l c w h8).mono fun e w' ⟨he, hw⟩ => by subst hw; exact ⟨⟨_, he⟩, Below.refl _ _⟩
  · obtain ⟨b, o, rfl⟩ := hr.some_of (by omega)
    by_cases hb : rd4 l < 1 ∨ 16384 < rd4 l ∨ (l.length : Int) - 8 < rd4 l
    · exact (next_bad b o c l w (by omega) hlc hc hw hr hb).mono fun e w' ⟨he, hw⟩ => by subst hw; exact ⟨⟨_, he⟩, Below.refl _ _⟩
    · refine (next_good b o c (rd4 l).toNat l w (by omega) hlc hc hw hr (by omega) (by omega) (by omega) (by omega)).mono fun e w' ⟨he, hw⟩ => ⟨⟨.slice (some ⟨b, o + 8, none⟩) (rd4 l).toNat (c - 8), ?_⟩, hw⟩
      have : (crcC [l.take 4, (l.drop 8).take (rd4 l).toNat] == rd4 (l.drop 4)) = false := by
        rw [beq_eq_false_iff_ne]
        intro e
        have : nextOk l := ⟨by omega, by omega, by omega, by omega, e⟩
        simp [nextL, this] at h
      rw [he, this]
theorem next_some (A : Option Addr) (l r : List Int) (n c : Nat) (w : World) (hn : l.length = n) (hlc : l.length ≤ c) (hc : l.length ≤ 1000000 ∧ c ≤ 9223372036854775807) (hw : WfB l) (hr : RdB w A l) (h : nextL l = some r) :
    Calls Try.prog 36 #[.slice A n c] w fun e w' => (∃ b o, A = some ⟨b, o, none⟩ ∧ e = .returned (.tuple #[.slice (some ⟨b, o + 8, none⟩) r.length (c - 8), .bool true])) ∧ Below w.heap.size w w' := by
  subst hn
  have hk : nextOk l := by
    by_cases hk : nextOk l
    · exact hk
    · simp [nextL, hk] at h
  have hr' : r = (l.drop 8).take (rd4 l).toNat := by simp [nextL, hk] at h; exact h.symm
  obtain ⟨k1, k2, k3, k4, k5⟩ := hk
  obtain ⟨b, o, rfl⟩ := hr.some_of (by omega)
  refine (next_good b o c (rd4 l).toNat l w (by omega) hlc hc hw hr (by omega) (by omega) (by omega) (by omega)).mono fun e w' ⟨he, hw⟩ => ⟨⟨b, o, rfl, ?_⟩, hw⟩
  have hrl : r.length = (rd4 l).toNat := by rw [hr']; simp; omega
  rw [he, hrl, k5]; simp
theorem nextL_some {l r : List Int} (h : nextL l = some r) : r = (l.drop 8).take r.length ∧ 1 ≤ r.length ∧ 8 + r.length ≤ l.length ∧ r.length ≤ 16384 := by
  have hk : nextOk l := by
    by_cases hk : nextOk l
    · exact hk
    · simp [nextL, hk] at h
  have hr' : r = (l.drop 8).take (rd4 l).toNat := by simp [nextL, hk] at h; exact h.symm
  obtain ⟨k1, k2, k3, k4, k5⟩ := hk
  have hrl : r.length = (rd4 l).toNat := by rw [hr']; simp; omega
  rw [hrl]
  exact ⟨hr', by omega, by omega, by omega⟩
def scanL (l : List Int) : List (List Int) × Nat :=
  match h : nextL l with
  | none => ([], 0)
  | some r => (r :: (scanL (l.drop (8 + r.length))).1, 8 + r.length + (scanL (l.drop (8 + r.length))).2)
termination_by l.length
decreasing_by all_goals (have := nextL_some h; simp; omega)
theorem scanL_none {l : List Int} (h : nextL l = none) : scanL l = ([], 0) := by
  unfold scanL; split
  · rfl
  · rename_i h2; rw [h] at h2; cases h2
theorem scanL_some {l r : List Int} (h : nextL l = some r) : scanL l = (r :: (scanL (l.drop (8 + r.length))).1, 8 + r.length + (scanL (l.drop (8 + r.length))).2) := by
  rw [scanL]; split
  · rename_i h2; rw [h] at h2; cases h2
  · rename_i h2; rw [h] at h2; cases h2; rfl
/-- 's[k:]' of bytes. -/
theorem cut_from (A : Option Addr) (l : List Int) (c k : Nat) (hA : A = none → l = [] ∧ c = 0) (hk : k ≤ l.length) (hlc : l.length ≤ c) (hc : l.length ≤ 1000000 ∧ c ≤ 9223372036854775807) :
    ∃ A', (∀ w, (Instr.sliceAt 22 (.slice A l.length c) (some (.int .i64 (k : Int))) none none).run Try.prog w = .ok (.slice A' (l.length - k) (c - k)) w) ∧ (A' = none → c - k = 0) ∧ ∀ w, RdB w A l → RdB w A' (l.drop k) := by
  obtain ⟨i0, hi0, hz0, hs0, hb0⟩ := info_parts info5
  have hel : Try.prog.elem 22 = 5 := by kernel_rfl
  refine ⟨if c = k then A else A.map (·.add (k * 1)), fun w => ?_, fun e => ?_, fun w hr => ?_⟩
  · have h1 := run_slice_l (P := Try.prog) (w := w) 22 A l.length c (by rw [hel]; exact Try.underlying22) .i64 (k : Int) (by omega) (by omega)
    have h2 : (Instr.sliceAt 22 (.slice A l.length c) (some (.int .i64 (k : Int))) none none).run Try.prog w = (Instr.slice 22 (.slice A l.length c) (some (.int .i64 (k : Int))) none none).run Try.prog w := by simp [Instr.sliceAt, run_underlying Try.underlying22]
    rw [h2, h1, hel]
    simp [sizeOf, typeInfo, hi0, hs0, Result.andThen, sliced]
  · by_cases h : c = k
    · omega
    · rw [if_neg h] at e
      cases A with
      | none => obtain ⟨rfl, rfl⟩ := hA rfl; omega
      | some a => cases e
  · by_cases hl : l.drop k = []
    · rw [hl]; exact RdB.nil _ _
    · have hlt : k < l.length := by
        rcases Nat.lt_or_ge k l.length with h | h
        · exact h
        · exact absurd (List.drop_eq_nil_of_le h) hl
      obtain ⟨b, o, rfl⟩ := hr.some_of (by omega)
      rw [if_neg (by omega)]
      have : (some (⟨b, o, none⟩ : Addr)).map (·.add (k * 1)) = some ⟨b, o + k, none⟩ := by simp [Addr.add]
      rw [this]
      exact hr.drop k
theorem info22 : (Try.prog.info? 22).map (fun i => (i.zero, i.size, i.bytes)) = some (some (.slice none 0 0), 1, 24) := by kernel_rfl
/-- Each value is a row of bytes that the call owns. -/
def OwnAll (w : World) (base : Nat) (vals : List Value) (ll : List (List Int)) : Prop := vals.length = ll.length ∧ ∀ i (h : i < ll.length), ∃ v, vals[i]? = some v ∧ w.ownsRow base 5 1 v ll[i].length (bv ll[i])
theorem OwnAll.below {w w' : World} {base B : Nat} {vals : List Value} {ll : List (List Int)} (h : OwnAll w base vals ll) (hb : Below B w w') (hB : w.heap.size ≤ B) : OwnAll w' base vals ll := by
  refine ⟨h.1, fun i hi => ?_⟩
  obtain ⟨v, hv, ho⟩ := h.2 i hi
  refine ⟨v, hv, ho.kept (row := none) ⟨hb.os, hb.tape, hb.output, hb.size, fun k hk _ => hb.block k (by omega)⟩ ?_⟩
  cases v.ownBlock <;> simp
theorem OwnAll.grown {w w' : World} {base b2 : Nat} {vals : List Value} {ll : List (List Int)} {v : Value} {n : Nat} {xs : List Value} (h : OwnAll w base vals ll) (hv : w.ownsRow b2 22 1 v n xs) (hg : w.grownBy w' v.ownBlock) : OwnAll w' base vals ll := by
  refine ⟨h.1, fun i hi => ?_⟩
  obtain ⟨u, hu, ho⟩ := h.2 i hi
  refine ⟨u, hu, ho.kept hg ?_⟩
  rcases hub : u.ownBlock with _ | g
  · exact Or.inl rfl
  · refine Or.inr fun e => ?_
    obtain ⟨c1, f1, h1⟩ := ownsRow_kind ho g hub
    obtain ⟨c2, f2, h2⟩ := ownsRow_kind hv g e.symm
    rw [h1] at h2
    simp at h2
theorem OwnAll.snoc {w : World} {base : Nat} {vals : List Value} {ll : List (List Int)} {v : Value} {l : List Int} (h : OwnAll w base vals ll) (hv : w.ownsRow base 5 1 v l.length (bv l)) : OwnAll w base (vals ++ [v]) (ll ++ [l]) := by
  refine ⟨by simp [h.1], fun i hi => ?_⟩
  by_cases hlt : i < ll.length
  · obtain ⟨u, hu, ho⟩ := h.2 i hlt
    refine ⟨u, by rw [List.getElem?_append_left (by rw [h.1]; exact hlt)]; exact hu, ?_⟩
    rw [List.getElem_append_left hlt]; exact ho
  · have : i = ll.length := by simp at hi; omega
    subst this
    refine ⟨v, by rw [← h.1]; simp, ?_⟩
    simpa using hv
theorem OwnAll.nil (w : World) (base : Nat) : OwnAll w base [] [] := ⟨rfl, fun i hi => absurd hi (by simp)⟩
theorem Src.one1 (w : World) (t : TypeId) (v : Value) (h : v.oneCell' = true) : Src (w.alloc (.cells #[v] t)) (some ⟨w.heap.size, 0, none⟩) 1 [v] := by
  refine ⟨(fun e => nomatch e), fun j u hu => ?_, fun u hu => ?_⟩
  · match j, hu with
    | 0, hu => simp at hu; subst hu; exact ⟨_, rfl, by simp [Addr.add]⟩
  · simp at hu; subst hu; exact h
theorem own_form {w : World} {base : Nat} {e : TypeId} {s : Nat} {v : Value} {n : Nat} {xs : List Value} (h : w.ownsRow base e s v n xs) : ∃ A c, v = .slice A n c ∧ (A = none → n = 0 ∧ c = 0) := by
  rcases h.2 with ⟨rfl, rfl⟩ | ⟨g, cap, cur, rfl, _⟩
  · exact ⟨_, _, rfl, fun _ => ⟨rfl, rfl⟩⟩
  · exact ⟨_, _, rfl, fun e => nomatch e⟩
theorem own_slice {w : World} {base : Nat} {e : TypeId} {s : Nat} {v : Value} {n : Nat} {xs : List Value} (h : w.ownsRow base e s v n xs) : v.oneCell' = true := by
  rcases h.2 with ⟨rfl, _⟩ | ⟨g, cap, cur, rfl, _⟩ <;> rfl
set_option maxHeartbeats 800000 in
set_option maxRecDepth 100000 in
theorem scan_any (A : Option Addr) (l : List Int) (c : Nat) (w : World) (hA : A = none → l = [] ∧ c = 0) (hlc : l.length ≤ c) (hc : l.length ≤ 1000000 ∧ c ≤ 9223372036854775807) (hw : WfB l) (hr : RdB w A l) :
    Calls Try.prog 8 #[.slice A l.length c] w fun e w' => (∃ v vals, e = .returned (.tuple #[v, .int .i64 (scanL l).2]) ∧ w'.ownsRow w.heap.size 22 1 v (scanL l).1.length vals ∧ OwnAll w' w.heap.size vals (scanL l).1) ∧ Below w.heap.size w w' := by
  generalize hscan : scanL l = res
  have HS := Lib.hid hscan
  clear hscan
  go_enter Try.func8, Try.ntmps8
  go_wp2
  go_loopw [4, 5] (fun v i wr => ∃ (acc : List (List Int)) (vals : List Value) (at' : Nat), i = .int .i64 at' ∧ at' ≤ l.length ∧ acc.length ≤ at' ∧ Hid (res = (acc ++ (scanL (l.drop at')).1, at' + (scanL (l.drop at')).2)) ∧ wr.ownsRow w.heap.size 22 1 v acc.length vals ∧ OwnAll wr w.heap.size vals acc ∧ Below w.heap.size w wr)
    (fun _ i _ => l.length - (intOf i).toNat)
  case atStart => exact ⟨[], [], 0, rfl, Nat.zero_le _, Nat.le_refl _, by show _ = _; rw [← HS.out]; simp, World.ownsRow_nil _ _ _ _, OwnAll.nil _ _, Below.refl _ _⟩
  case round =>
    obtain ⟨acc, vals, at', rfl, hat, hacc, hres, hown, hall, hb⟩ := hrel
    obtain ⟨A', hsl, hA', hrA'⟩ := cut_from A l c at' hA hat hlc hc
    have hrb := hrA' _ (hr.below hb (Nat.le_refl _))
    have hwd := hw.drop at'
    have hln : (l.drop at').length = l.length - at' := by simp
    rcases hnx : nextL (l.drop at') with _ | r
    · have hct := next_none A' (l.drop at') (l.length - at') (c - at') wr hln (by omega) (by rw [hln]; omega) hwd hrb hnx
      have HR : Hid (res = (acc, at')) := by show _ = _; rw [hres.out, scanL_none hnx]; simp
      have HL := Lib.hid hln
      clear hln hnx
      go_wp2_with (go_at_call 36; go_must (refine hct.mono ?_; rintro e w' ⟨⟨v, rfl⟩, hbx⟩))
      go_ret2
      exact ⟨⟨_, vals, by rw [HR.out]; rfl, by rw [HR.out]; exact (own_below hown hbx (Nat.le_refl _)), by rw [HR.out]; exact hall.below hbx (Nat.le_refl _)⟩, hb.trans (hbx.mono hb.size)⟩
    · obtain ⟨hr1, hr2, hr3, hr4⟩ := nextL_some hnx
      have hct := next_some A' (l.drop at') r (l.length - at') (c - at') wr hln (by omega) (by rw [hln]; omega) hwd hrb hnx
      obtain ⟨b, o, rfl⟩ := hrb.some_of (by omega)
      have hcl : ∀ W, RdB W (some ⟨b, o, none⟩) (l.drop at') → Calls Try.prog 37 #[.slice (some ⟨b, o + 8, none⟩) r.length (c - at' - 8)] W fun e w' => (∃ v, e = .returned v ∧ w'.ownsRow W.heap.size 5 1 v r.length (bv r)) ∧ Below W.heap.size W w' := by
        intro W hW
        refine clone_any _ _ _ _ (fun e => by cases e) (by omega) ?_
        have := (hW.drop 8).take r.length
        rwa [← hr1] at this
      have HR : Hid (res = ((acc ++ [r]) ++ (scanL (l.drop (at' + (8 + r.length)))).1, (at' + (8 + r.length)) + (scanL (l.drop (at' + (8 + r.length)))).2)) := by
        show _ = _
        rw [hres.out, scanL_some hnx, List.drop_drop]
        simp
        omega
      have hrl : 8 + r.length ≤ l.length - at' := by rw [← hln]; exact hr3
      have HR1 := Lib.hid hr1
      clear hln hnx hr1 hres hr3
      go_wp2_with (first
        | (go_at_call 36; go_must (refine hct.mono ?_; rintro e w' ⟨⟨b', o', hbo, rfl⟩, hbx⟩; cases hbo))
        | (go_at_call 37; go_must (refine (hcl _ (by exact hrb.below ‹_› (Nat.le_refl _))).mono ?_; rintro e w2 ⟨⟨v2, rfl, hown2⟩, hb2⟩; obtain ⟨A2, c2, rfl, _⟩ := own_form hown2))
        | (at_builtin; go_must (refine wpList_app rfl (.tmp 19) (.tmp 22) 29 rfl w.heap.size 22 (.slice none 0 0) 24 Try.underlying29 info22 rfl u4 acc.length vals rfl (by exact own_below (own_below (own_below hown ‹Below wr.heap.size wr _› (Nat.le_refl _)) ‹_› (Nat.le_refl _)) ((Below.refl _ _).alloc (Nat.le_refl _) _) (Nat.le_refl _)) (some ⟨_, 0, none⟩) 1 1 _ rfl rfl (Src.one1 _ _ _ rfl) (by unfold maxLen; omega) (by omega) (by have h1 := hb.size; have h2 := ‹Below wr.heap.size wr _›.size; have h3 := ‹Below _ _ w2›.size; simp; omega) ?_; intro v' w4 hown4 hg4)))
      go_roundw
      case rel =>
        have h1 := hb.size
        have h2 := hbx.size
        have h3 := hb2.size
        have ba := (Below.refl w2.heap.size w2).alloc (Nat.le_refl _) (Obj.cells #[Value.slice A2 r.length c2] 22)
        have o3 := own_below (own_below (own_below hown hbx (Nat.le_refl _)) hb2 (Nat.le_refl _)) ba (Nat.le_refl _)
        have a3 := (((hall.below hbx (Nat.le_refl _)).below hb2 (Nat.le_refl _)).below ba (Nat.le_refl _)).snoc (own_below (Joins.ownsRow_le hown2 (by omega)) ba (Nat.le_refl _))
        refine ⟨acc ++ [r], _, at' + (8 + r.length), by go_num, by omega, by simp; omega, HR.out, by simpa using hown4, a3.grown o3 hg4, ?_⟩
        exact Below.own ((hb.trans ((hbx.mono h1).trans (hb2.mono (by omega)))).alloc (by omega) _) o3 hg4 (by simp; omega) (Nat.le_refl _)
      case measure => simp [intOf]; omega
end Go.Proofs.Ytmchliaclnkbeaa.J
