/- The journal's frames of records: all, or none with an error. Conditions: an opened journal; records that read. -/
import Derived.Test.YtmchliaclnkbeaaJOpsC
open Go Go.RowKit Go.Lib
namespace Go.Proofs.Ytmchliaclnkbeaa.J
set_option linter.unusedVariables false
set_option linter.unusedSimpArgs false
def okRec (l : List Int) : Prop := 1 ≤ l.length ∧ l.length ≤ 16384
instance (l : List Int) : Decidable (okRec l) := by unfold okRec; exact inferInstance
def framesL (ll : List (List Int)) : List Int := ll.flatMap frameL
theorem frameL_len (l : List Int) : (frameL l).length = 8 + l.length := by simp [frameL, be4]; omega
theorem framesL_snoc (ll : List (List Int)) (l : List Int) : framesL (ll ++ [l]) = framesL ll ++ frameL l := by simp [framesL]
theorem framesL_len (ll : List (List Int)) (h : ∀ l ∈ ll, okRec l) : (framesL ll).length ≤ ll.length * 16392 := by
  induction ll with
  | nil => simp [framesL]
  | cons x ll ih =>
    have h1 := (h x (by simp)).2
    have h2 := ih (fun l hl => h l (by simp [hl]))
    simp only [framesL, List.flatMap_cons, List.length_append, List.length_cons] at *
    rw [frameL_len]
    omega
def FramesPost (w : World) (n : Nat) (L : Int) (ll : List (List Int)) (e : Ending) (w' : World) : Prop :=
  ∃ A c err, e = .returned (.tuple #[.slice A (if err = 0 then (framesL ll).length else 0) c, .int .i64 err]) ∧ Below w.heap.size w w' ∧
    ((¬ (∀ l ∈ ll, okRec l) ∧ err = 1) ∨ ((∀ l ∈ ll, okRec l) ∧ L < (n : Int) + (framesL ll).length ∧ err = 11) ∨
     ((∀ l ∈ ll, okRec l) ∧ ¬ L < (n : Int) + (framesL ll).length ∧ err = 0 ∧ w'.ownsRow w.heap.size 5 1 (.slice A (framesL ll).length c) (framesL ll).length (bv (framesL ll))))
set_option maxHeartbeats 800000 in
set_option maxRecDepth 100000 in
theorem frames_any (w : World) (j d : Nat) (live : Int) (g : Value) (many : Int) (h : Jn w j d live g many) (V : DV) (A0 A1 : Option Addr) (k0 k1 c0 c1 : Nat) (hd : Dk w d V) (hr : 0 < V.room) (hr2 : V.room ≤ 1048576) (h0 : V.n0 = .slice A0 k0 c0) (h1 : V.n1 = .slice A1 k1 c1) (hk0 : k0 ≤ 1048576) (hk1 : k1 ≤ 1048576)
    (A : Option Addr) (ll : List (List Int)) (c n : Nat) (hn : n ≤ 1000000000) (hll : ll.length ≤ 1000000) (hrs : RdSS w A ll) (hws : ∀ l ∈ ll, WfB l) (hms : ∀ l ∈ ll, l.length ≤ maxLen) :
    Calls Try.prog 51 #[dp j, .slice A ll.length c, .int .i64 n] w (FramesPost w n (V.room - k0 - k1) ll) := by
  have hlf := fun W (hB : Below w.heap.size w W) => dleft W d V A0 A1 k0 k1 c0 c1 (hd.below hB hd.lt) hr hr2 h0 h1 hk0 hk1
  have e0 := h.cell 0
  simp at e0
  have hjl := h.lt
  clear h hd
  generalize V.room - k0 - k1 = L at *
  go_enter Try.func51, Try.ntmps51
  go_wp2
  go_loopw [8, 15] (fun v i wr => ∃ k : Nat, k ≤ ll.length ∧ i = .int .i64 k ∧ (∀ l ∈ ll.take k, okRec l) ∧ wr.ownsRow w.heap.size 5 1 v (framesL (ll.take k)).length (bv (framesL (ll.take k))) ∧ Below w.heap.size w wr) (fun _ i _ => ll.length - (intOf i).toNat)
  case atStart => exact ⟨0, Nat.zero_le _, rfl, by simp, World.ownsRow_nil _ _ _ _, Below.refl _ _⟩
  case round =>
    obtain ⟨k, hk, rfl, hpre, hown, hB⟩ := hrel
    have hlen := framesL_len (ll.take k) hpre
    have hlen2 : (ll.take k).length ≤ 1000000 := by simp; omega
    have HPRE := Lib.hid hpre
    clear hpre
    by_cases hlt : k < ll.length
    · obtain ⟨b, o, A', c', rfl, hcell, hlc, hrd⟩ := (hrs.below hB (Nat.le_refl _)) k hlt
      have hwl := hws _ (List.getElem_mem hlt)
      have hml := hms _ (List.getElem_mem hlt)
      have HM : Hid (ll[k] ∈ ll) := List.getElem_mem hlt
      have HT : Hid (ll.take (k + 1) = ll.take k ++ [ll[k]]) := List.take_succ_eq_append_getElem hlt
      generalize ll[k] = x at *
      by_cases hok : okRec x
      · have hfr := frame_ok A' x c' wr hok.1 hok.2 hlc hwl hrd
        have hx3 : (frameL x).length ≤ 16392 := by rw [frameL_len]; have := hok.2; omega
        have HOK := Lib.hid hok
        clear hok
        go_wp2_with (first
          | (go_at_call 6; go_must (refine hfr.mono ?_; rintro e w1 ⟨⟨v1, rfl, o1⟩, b1⟩; obtain ⟨_, A1', c1', rfl, hA1', _, r1⟩ := own_rdB o1))
          | (at_builtin; go_must (refine wpList_app rfl (.tmp 27) (.tmp 28) 22 rfl w.heap.size 5 (.int .u8 0) 1 Try.underlying22 info5 rfl _ _ _ rfl (own_below hown b1 (Nat.le_refl _)) _ _ _ (bv (frameL x)) rfl (bv_length _) (Src.ofB r1 hA1') (by unfold maxLen; omega) (by omega) (Nat.le_trans hB.size b1.size) ?_; intro v2 w2 o2 g2)))
        go_roundw
        case rel =>
          refine ⟨k + 1, by omega, by go_num, ?_, ?_, ?_⟩
          · rw [HT.out]
            intro l hl
            rcases List.mem_append.1 hl with hl | hl
            · exact HPRE.out l hl
            · simp at hl; subst hl; exact HOK.out
          · rw [HT.out, framesL_snoc]
            have : bv (framesL (ll.take k) ++ frameL x) = bv (framesL (ll.take k)) ++ bv (frameL x) := by simp [bv]
            rw [this, List.length_append]; exact o2
          · exact Below.own (hB.trans (b1.mono hB.size)) (own_below hown b1 (Nat.le_refl _)) g2 (Nat.le_trans hB.size b1.size) (Nat.le_refl _)
        case measure => simp [intOf]; omega
      · have hfr := frame_no A' x c' wr (by unfold okRec at hok; omega) hml
        have HN : Hid (¬ ∀ l ∈ ll, okRec l) := fun hh => hok (hh x HM.out)
        clear hok
        go_wp2_with (go_at_call 6; go_must (refine hfr.mono ?_; rintro e w1 ⟨rfl, rfl⟩))
        go_ret2
        exact ⟨none, 0, 1, rfl, hB, Or.inl ⟨HN.out, rfl⟩⟩
    · have hkk : ll.take k = ll := List.take_of_length_le (by omega)
      rw [hkk] at hown hlen hlen2 HPRE
      clear hkk
      obtain ⟨A2, c2, rfl, _⟩ := own_form hown
      have hlf2 := hlf wr hB
      have e0' : wr.cell? ⟨j, 0, none⟩ = some (dp d) := (hB.cell (p := ⟨j, 0, none⟩) hjl).trans e0
      by_cases hfull : L < (n : Int) + (framesL ll).length
      · go_wp2_with (go_at_call 50; refine hlf2.mono ?_; rintro e w' ⟨rfl, q, rfl⟩)
        go_ret2
        exact ⟨none, 0, 11, rfl, hB.drewN _, Or.inr (Or.inl ⟨HPRE.out, hfull, rfl⟩)⟩
      · go_wp2_with (go_at_call 50; refine hlf2.mono ?_; rintro e w' ⟨rfl, q, rfl⟩)
        go_ret2
        exact ⟨A2, c2, 0, rfl, hB.drewN _, Or.inr (Or.inr ⟨HPRE.out, by omega, rfl, own_below hown ((Below.refl wr.heap.size wr).drewN _) (Nat.le_refl _)⟩)⟩
end Go.Proofs.Ytmchliaclnkbeaa.J
