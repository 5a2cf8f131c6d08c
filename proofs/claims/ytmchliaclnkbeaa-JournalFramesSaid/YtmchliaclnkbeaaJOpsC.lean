/- The journal's ok, Group, Left and Size. Conditions: an opened journal of a disk that is on. -/
import Derived.Test.YtmchliaclnkbeaaJOpsB
open Go Go.RowKit Go.Lib
namespace Go.Proofs.Ytmchliaclnkbeaa.J
set_option linter.unusedVariables false
set_option linter.unusedSimpArgs false
theorem jok (w : World) (j d : Nat) (live : Int) (g : Value) (many : Int) (h : Jn w j d live g many) : Calls Try.prog 47 #[dp j] w fun e w' => e = .returned (.bool true) ∧ w = w' := by
  have c0 := h.cell 0
  simp at c0
  go_enter Try.func47, Try.ntmps47
  go_wp2
  go_ret
  exact ⟨rfl, rfl⟩
theorem jgroup (w : World) (j d : Nat) (live : Int) (A : Option Addr) (n c : Nat) (many : Int) (h : Jn w j d live (.slice A n c) many) : Calls Try.prog 20 #[dp j] w fun e w' => e = .returned (.int .i64 n) ∧ w = w' := by
  have hk := jok w j d live _ many h
  have c2 := h.cell 2
  simp at c2
  go_enter Try.func20, Try.ntmps20
  go_wp2_with (go_at_call 47; refine hk.mono ?_; rintro e w' ⟨rfl, rfl⟩)
  go_ret
  exact ⟨rfl, rfl⟩
theorem jleft (w : World) (j d : Nat) (live : Int) (g : Value) (many : Int) (h : Jn w j d live g many) (V : DV) (A0 A1 : Option Addr) (k0 k1 c0 c1 : Nat) (hd : Dk w d V) (hr : 0 < V.room) (hr2 : V.room ≤ 1048576) (h0 : V.n0 = .slice A0 k0 c0) (h1 : V.n1 = .slice A1 k1 c1) (hk0 : k0 ≤ 1048576) (hk1 : k1 ≤ 1048576) :
    Calls Try.prog 27 #[dp j] w fun e w' => e = .returned (.int .i64 (V.room - k0 - k1)) ∧ ∃ n, w' = w.drewN n := by
  have hk := jok w j d live _ many h
  have hl := dleft w d V A0 A1 k0 k1 c0 c1 hd hr hr2 h0 h1 hk0 hk1
  have e0 := h.cell 0
  simp at e0
  clear h hd
  go_enter Try.func27, Try.ntmps27
  go_wp2_with (first | (go_at_call 47; refine hk.mono ?_; rintro e w' ⟨rfl, rfl⟩) | (go_at_call 50; refine hl.mono ?_; rintro e w' ⟨rfl, q, rfl⟩))
  go_ret
  exact ⟨rfl, _, rfl⟩
def SizePost (w : World) (n : Nat) (e : Ending) (w' : World) : Prop := e = .returned (.int .i64 n) ∧ Below w.heap.size w w'
set_option maxHeartbeats 400000 in
theorem jsize (w : World) (j d : Nat) (live : Nat) (hi : live < 2) (g : Value) (many : Int) (h : Jn w j d live g many) (V : DV) (ln : List Int) (hd : Dk w d V) (hr : 0 < V.room) (ho : V.off = false) (hn : SlB w (V.now live) ln) (hl : ln.length ≤ 1048576) :
    Calls Try.prog 29 #[dp j] w (SizePost w ln.length) := by
  have hk := jok w j d live _ many h
  have hrd := fun q => read_any2 (w.drewN q) d V live hi ln (hd.drewN q) hr ho (hn.below ((Below.refl w.heap.size w).drewN q) (Nat.le_refl _)) hl
  have e0 := h.cell 0
  have e1 := h.cell 1
  simp at e0 e1
  clear h hd hn
  go_enter Try.func29, Try.ntmps29
  go_upto_region 3 with (go_at_call 47; refine hk.mono ?_; rintro e w' ⟨rfl, rfl⟩)
  go_cut [3, 4] from 8 to 19 (fun v3 v4 w3 => ∃ A c, v3 = .slice A ln.length c ∧ Below w.heap.size w w3)
  case first =>
    go_region_with (go_at_call 26; go_must (refine (hrd 1).mono ?_; rintro e w1 ⟨⟨v1, rfl, o1⟩, b1⟩; obtain ⟨A1, c1, rfl, _⟩ := own_form o1))
    all_goals
      go_wp2_with fail
      go_simp
      go_meet
      case rel => exact ⟨A1, c1, rfl, ((Below.refl w.heap.size w).drewN 1).trans b1⟩
  case rest =>
    obtain ⟨A1, c1, rfl, hB⟩ := hcut
    go_wp2
    go_ret
    exact ⟨rfl, hB⟩
end Go.Proofs.Ytmchliaclnkbeaa.J
