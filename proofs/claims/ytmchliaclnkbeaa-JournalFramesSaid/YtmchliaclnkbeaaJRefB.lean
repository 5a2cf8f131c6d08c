/- The reference's frame of a record. Condition: the record reads. -/
import Derived.Test.YtmchliaclnkbeaaJRefA
open Go Go.RowKit Go.Lib
namespace Go.Proofs.Ytmchliaclnkbeaa.J
set_option linter.unusedVariables false
set_option linter.unusedSimpArgs false
theorem own_rdB {w : World} {base n : Nat} {v : Value} {l : List Int} (h : w.ownsRow base 5 1 v n (bv l)) : l.length = n ∧ ∃ A c, v = .slice A n c ∧ (A = none → c = 0) ∧ n ≤ c ∧ RdB w A l := by
  have hn : l.length = n := by have := h.1; rw [bv_length] at this; omega
  refine ⟨hn, ?_⟩
  rcases h.2 with ⟨rfl, h0⟩ | ⟨g, cap, cur, rfl, hb, hg, hc, hm, hs, ht⟩
  · subst h0
    have : l = [] := List.length_eq_zero_iff.1 hn
    subst this
    exact ⟨none, 0, rfl, fun _ => rfl, Nat.le_refl _, RdB.nil _ _⟩
  · refine ⟨_, _, rfl, (fun e => nomatch e), hc, ?_⟩
    have hk : Blk w g cur 5 := hg
    refine hk.rdB fun i hi => ?_
    have : (cur.toList.take (n * 1))[i]? = (bv l)[i]? := by rw [ht]
    rw [List.getElem?_take, if_pos (by omega)] at this
    rw [Nat.zero_add, ← Array.getElem?_toList, this]
    simp [bv, List.getElem?_eq_getElem hi]
theorem own_grown {w w' : World} {base b2 : Nat} {e : TypeId} {s : Nat} {v v2 : Value} {n : Nat} {xs : List Value} (h : w.ownsRow base e s v n xs) (hg : w.grownBy w' v2.ownBlock) (hlt : ∀ k, v.ownBlock = some k → k < b2) (h2 : ∀ k, v2.ownBlock = some k → b2 ≤ k) : w'.ownsRow base e s v n xs := by
  refine h.kept hg ?_
  rcases hv : v.ownBlock with _ | k
  · exact Or.inl rfl
  · refine Or.inr fun e => ?_
    have := hlt k hv
    have := h2 k e.symm
    omega
def frameR (l : List Int) : List Int := be4 l.length ++ be4 (crcR (be4 l.length ++ l)) ++ l
set_option maxHeartbeats 400000 in
theorem rframe_no (A : Option Addr) (l : List Int) (c : Nat) (w : World) (h : l.length < 1 ∨ 16384 < l.length) (hl : l.length ≤ maxLen) :
    Calls Try.prog 7 #[.slice A l.length c] w fun e w' => e = .returned (.tuple #[.slice none 0 0, .int .i64 1]) ∧ w = w' := by
  unfold maxLen at hl
  rcases h with h | h
  · have h1 : ¬ 16384 < l.length := by omega
    go_enter Try.func7, Try.ntmps7
    go_wp2
    go_ret2
    exact ⟨rfl, rfl⟩
  · go_enter Try.func7, Try.ntmps7
    go_wp2
    go_ret2
    exact ⟨rfl, rfl⟩
theorem crcR_range (l : List Int) : 0 ≤ crcR l ∧ crcR l < 4294967296 := bits32_range _ _ _
theorem rcrc_own (v : Value) (l : List Int) (base n : Nat) (w : World) (hn : n ≤ maxLen) (h : w.ownsRow base 5 1 v n (bv l)) (hw : WfB l) :
    Calls Try.prog 35 #[v] w fun e w' => e = .returned (.int .u32 (crcR l)) ∧ w = w' := by
  obtain ⟨rfl, A, c, rfl, hA, hc, hr⟩ := own_rdB h
  exact rcrc_any A l c w hn hw hr
theorem four_src (v : Int) (w : World) (hv : 0 ≤ v ∧ v < 4294967296) :
    Calls Try.prog 34 #[.int .u32 v] w fun e w' => e = .returned (.slice (some ⟨w.heap.size, 0, none⟩) 4 4) ∧ Src w' (some ⟨w.heap.size, 0, none⟩) 4 (bv (be4 v)) ∧ Below w.heap.size w w' ∧ w'.heap.size = w.heap.size + 1 := by
  refine (four_any v w hv).mono fun e w' ⟨he, hw⟩ => ?_
  subst hw
  refine ⟨he, Src.ofB ?_ (fun e => nomatch e), (Below.refl _ _).alloc (Nat.le_refl _) _, by simp⟩
  refine (Blk.new w (bv (be4 v)).toArray 5).rdB (fun i hi => ?_)
  match i, hi with
  | 0, _ | 1, _ | 2, _ | 3, _ => rfl
set_option maxHeartbeats 800000 in
set_option maxRecDepth 100000 in
theorem rframe_ok (A : Option Addr) (l : List Int) (c : Nat) (w : World) (h1 : 1 ≤ l.length) (h2 : l.length ≤ 16384) (hc : l.length ≤ c) (hw : WfB l) (hr : RdB w A l) :
    Calls Try.prog 7 #[.slice A l.length c] w fun e w' => (∃ v, e = .returned (.tuple #[v, .int .i64 0]) ∧ w'.ownsRow w.heap.size 5 1 v (frameR l).length (bv (frameR l))) ∧ Below w.heap.size w w' := by
  have hA : A = none → c = 0 := fun e => by obtain ⟨b, o, e2⟩ := hr.some_of (by omega); rw [e] at e2; cases e2
  have W1 : Blk (w.alloc (.cells (bv (be4 l.length)).toArray 5)) w.heap.size (bv (be4 l.length)).toArray 5 := Blk.new _ _ _
  have hB1 : Below w.heap.size w (w.alloc (.cells (bv (be4 l.length)).toArray 5)) := (Below.refl _ _).alloc (Nat.le_refl _) _
  have hs1 : (w.alloc (.cells (bv (be4 l.length)).toArray 5)).heap.size = w.heap.size + 1 := by simp
  generalize hw1 : w.alloc (.cells (bv (be4 l.length)).toArray 5) = w1 at *
  have hf4 : Calls Try.prog 34 #[.int .u32 l.length] w fun e w' => e = .returned (.slice (some ⟨w.heap.size, 0, none⟩) 4 4) ∧ w1 = w' := by rw [← hw1]; exact (four_any _ _ (by omega)).mono fun e w' h => ⟨h.1, h.2.symm⟩
  clear hw1
  have r4 : RdB w1 (some ⟨w.heap.size, 0, none⟩) (be4 l.length) := W1.rdB (fun i hi => by
    match i, hi with
    | 0, _ | 1, _ | 2, _ | 3, _ => rfl)
  have hl4 : (be4 (l.length : Int)).length = 4 := rfl
  have src4 : Src w1 (some ⟨w.heap.size, 0, none⟩) 4 (bv (be4 l.length)) := Src.ofB r4 (fun e => nomatch e)
  have w4 : WfB (be4 l.length) := be4_range _ (by omega)
  have hcr := crcR_range (be4 l.length ++ l)
  have own0 : w1.ownsRow w1.heap.size 5 1 (.slice none 0 0) 0 [] := World.ownsRow_nil _ _ _ _
  have ownS : w1.ownsRow w.heap.size 5 1 (.slice (some ⟨w.heap.size, 0, none⟩) 4 4) 4 (bv (be4 l.length)) := ⟨rfl, Or.inr ⟨_, _, _, rfl, Nat.le_refl _, W1, Nat.le_refl _, by simp [maxLen], rfl, rfl⟩⟩
  generalize hsz : be4 (l.length : Int) = sz at *
  have HSZ := Lib.hid hsz
  clear hsz
  go_enter Try.func7, Try.ntmps7
  go_wp2_with (first
    | (go_at_call 34; refine hf4.mono ?_; rintro e w' ⟨rfl, rfl⟩)
    | (at_builtin; with_reducible refine wpList_app rfl (.const (.slice none 0 0)) (.tmp 18) 22 rfl w1.heap.size 5 (.int .u8 0) 1 Try.underlying22 info5 rfl (.slice none 0 0) 0 [] rfl own0 _ 4 4 (bv sz) rfl (by rw [bv_length, hl4]) src4 (by unfold maxLen; omega) (by omega) (Nat.le_refl _) ?_; intro v1 wa o1 g1)
    | (at_builtin; go_must (refine wpList_app rfl (.tmp 19) (.tmp 20) 22 rfl w1.heap.size 5 (.int .u8 0) 1 Try.underlying22 info5 rfl v1 4 (bv sz) rfl (by simpa using o1) A l.length c (bv l) rfl (bv_length l) (Src.ofB (hr.below (hB1.grown g1 (by omega) (fun k hk => by cases hk)) (Nat.le_refl _)) hA) (by unfold maxLen; omega) (by omega) g1.size ?_; intro v2 wb o2 g2)))
  have ok1 : ∀ k, v1.ownBlock = some k → w1.heap.size ≤ k := fun k hk => (o1.lt k hk).1
  have ok2 : ∀ k, v2.ownBlock = some k → w1.heap.size ≤ k := fun k hk => (o2.lt k hk).1
  have Ba : Below w.heap.size w wa := hB1.grown g1 (by omega) (fun k hk => by cases hk)
  have Bb : Below w.heap.size w wb := Ba.grown g2 (by have := g1.size; omega) (fun k hk => by have := ok1 k hk; omega)
  have ownSa : wa.ownsRow w.heap.size 5 1 (.slice (some ⟨w.heap.size, 0, none⟩) 4 4) 4 (bv sz) := own_grown (b2 := w1.heap.size) ownS g1 (fun k hk => by simp [Value.ownBlock] at hk; omega) (fun k hk => by cases hk)
  have ownSb : wb.ownsRow w.heap.size 5 1 (.slice (some ⟨w.heap.size, 0, none⟩) 4 4) 4 (bv sz) := own_grown (b2 := w1.heap.size) ownSa g2 (fun k hk => by simp [Value.ownBlock] at hk; omega) ok1
  have hbb : w.heap.size ≤ wb.heap.size := Bb.size
  have hcat : bv sz ++ bv l = bv (sz ++ l) := by simp [bv]
  rw [hcat] at o2
  have hwcat : WfB (sz ++ l) := fun x hx => by rcases List.mem_append.1 hx with h | h; exact w4 x h; exact hw x h
  have hcc := rcrc_own v2 (sz ++ l) _ _ wb (by unfold maxLen; omega) o2 hwcat
  have hff := four_src (crcR (sz ++ l)) wb hcr
  have HC : Hid (frameR l = sz ++ be4 (crcR (sz ++ l)) ++ l) := by show _ = _; unfold frameR; rw [HSZ.out]
  have hl4' : (be4 (crcR (sz ++ l))).length = 4 := rfl
  clear hcat
  generalize crcR (sz ++ l) = cr at *
  generalize be4 cr = q at *
  go_wp2_with (first
    | (go_at_call 35; go_must (refine hcc.mono ?_; rintro e w' ⟨rfl, rfl⟩))
    | (go_at_call 34; go_must (refine hff.mono ?_; rintro e wc ⟨rfl, srcq, Bc, hsc⟩))
    | (at_builtin; with_reducible refine wpList_app rfl (.tmp 22) (.tmp 25) 22 rfl w.heap.size 5 (.int .u8 0) 1 Try.underlying22 info5 rfl (.slice (some ⟨w.heap.size, 0, none⟩) 4 4) 4 (bv sz) rfl (by exact own_below ownSb Bc (Nat.le_refl _)) (some ⟨wb.heap.size, 0, none⟩) 4 4 (bv q) rfl (by rw [bv_length, hl4']) srcq (by unfold maxLen; omega) (by omega) (by omega) ?_; intro v3 wd o3 g3)
    | (at_builtin; go_must (refine wpList_app rfl (.tmp 26) (.tmp 27) 22 rfl w.heap.size 5 (.int .u8 0) 1 Try.underlying22 info5 rfl v3 8 (bv sz ++ bv q) rfl (by exact o3) A l.length c (bv l) rfl (bv_length l) (Src.ofB (hr.below (Below.own (Bb.trans (Bc.mono hbb)) (own_below ownSb Bc (Nat.le_refl _)) g3 (by omega) (Nat.le_refl _)) (Nat.le_refl _)) hA) (by unfold maxLen; omega) (by omega) (by have := g3.size; omega) ?_; intro v4 we o4 g4)))
  go_ret2
  have hlen : (frameR l).length = 8 + l.length := by rw [HC.out]; simp [hl4, hl4']; omega
  have Bd := Below.own (Bb.trans (Bc.mono hbb)) (own_below ownSb Bc (Nat.le_refl _)) g3 (by omega) (Nat.le_refl _)
  refine ⟨⟨v4, rfl, ?_⟩, Below.own Bd o3 g4 (by have := g3.size; omega) (Nat.le_refl _)⟩
  rw [hlen]
  have : bv (frameR l) = bv sz ++ bv q ++ bv l := by rw [HC.out]; simp [bv]
  rw [this]; exact o4
end Go.Proofs.Ytmchliaclnkbeaa.J
