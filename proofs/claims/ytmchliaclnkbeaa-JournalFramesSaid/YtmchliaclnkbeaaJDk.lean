/- The disk's cells; its ok, file, Left and Fail. Conditions: a made disk; lengths within its room. -/
import Derived.Test.YtmchliaclnkbeaaJRefC
open Go Go.RowKit Go.Lib
namespace Go.Proofs.Ytmchliaclnkbeaa.J
set_option linter.unusedVariables false
set_option linter.unusedSimpArgs false
/-- The disk's cells. -/
structure DV where
  n0 : Value
  s0 : Value
  c0 : Int
  n1 : Value
  s1 : Value
  c1 : Int
  root : Int
  room : Int
  off : Bool
  fuse : Int
  beh : Bool
def DV.cells (V : DV) : Array Value := #[V.n0, V.s0, .int .i64 V.c0, V.n1, V.s1, .int .i64 V.c1, .int .i64 V.root, .int .i64 V.room, .bool V.off, .int .i64 V.fuse, .bool V.beh]
def Dk (w : World) (d : Nat) (V : DV) : Prop := Blk w d V.cells 87
theorem Dk.all {w : World} {d : Nat} {V : DV} (h : Dk w d V) :
    w.cell? ⟨d, 0, none⟩ = some V.n0 ∧ w.cell? ⟨d, 1, none⟩ = some V.s0 ∧ w.cell? ⟨d, 2, none⟩ = some (.int .i64 V.c0) ∧ w.cell? ⟨d, 3, none⟩ = some V.n1 ∧ w.cell? ⟨d, 4, none⟩ = some V.s1 ∧ w.cell? ⟨d, 5, none⟩ = some (.int .i64 V.c1) ∧
    w.cell? ⟨d, 6, none⟩ = some (.int .i64 V.root) ∧ w.cell? ⟨d, 7, none⟩ = some (.int .i64 V.room) ∧ w.cell? ⟨d, 8, none⟩ = some (.bool V.off) ∧ w.cell? ⟨d, 9, none⟩ = some (.int .i64 V.fuse) ∧ w.cell? ⟨d, 10, none⟩ = some (.bool V.beh) :=
  ⟨h.cell 0, h.cell 1, h.cell 2, h.cell 3, h.cell 4, h.cell 5, h.cell 6, h.cell 7, h.cell 8, h.cell 9, h.cell 10⟩
abbrev dp (d : Nat) : Value := .pointer (some ⟨d, 0, none⟩)
set_option maxHeartbeats 400000 in
theorem dok (w : World) (d : Nat) (V : DV) (h : Dk w d V) (hr : 0 < V.room) : Calls Try.prog 46 #[dp d] w fun e w' => e = .returned (.bool true) ∧ w = w' := by
  obtain ⟨d0, d1, d2, d3, d4, d5, d6, d7, d8, d9, d10⟩ := h.all
  go_enter Try.func46, Try.ntmps46
  go_wp2
  go_ret
  exact ⟨rfl, rfl⟩
set_option maxHeartbeats 400000 in
theorem dfile (w : World) (d : Nat) (V : DV) (i : Nat) (hi : i < 2) (h : Dk w d V) (hr : 0 < V.room) (ho : V.off = false) : Calls Try.prog 49 #[dp d, .int .i64 i] w fun e w' => e = .returned (.tuple #[.pointer (some ⟨d, 3 * i, none⟩), .int .i64 0]) ∧ w = w' := by
  have hk := dok w d V h hr
  obtain ⟨d0, d1, d2, d3, d4, d5, d6, d7, d8, d9, d10⟩ := h.all
  rw [ho] at d8
  rcases (by omega : i = 0 ∨ i = 1) with rfl | rfl
  all_goals
    go_enter Try.func49, Try.ntmps49
    go_wp2_with (go_at_call 46; refine hk.mono ?_; rintro e w' ⟨rfl, rfl⟩)
    go_ret2
    exact ⟨rfl, rfl⟩
set_option maxHeartbeats 400000 in
theorem dfile_off (w : World) (d : Nat) (V : DV) (i : Nat) (hi : i < 2) (h : Dk w d V) (hr : 0 < V.room) (ho : V.off = true) : Calls Try.prog 49 #[dp d, .int .i64 i] w fun e w' => e = .returned (.tuple #[.pointer none, .int .i64 12]) ∧ w = w' := by
  have hk := dok w d V h hr
  obtain ⟨d0, d1, d2, d3, d4, d5, d6, d7, d8, d9, d10⟩ := h.all
  rw [ho] at d8
  rcases (by omega : i = 0 ∨ i = 1) with rfl | rfl
  all_goals
    go_enter Try.func49, Try.ntmps49
    go_wp2_with (go_at_call 46; refine hk.mono ?_; rintro e w' ⟨rfl, rfl⟩)
    go_ret2
    exact ⟨rfl, rfl⟩
set_option maxHeartbeats 400000 in
theorem dleft (w : World) (d : Nat) (V : DV) (A0 A1 : Option Addr) (k0 k1 c0 c1 : Nat) (h : Dk w d V) (hr : 0 < V.room) (hr2 : V.room ≤ 1048576) (h0 : V.n0 = .slice A0 k0 c0) (h1 : V.n1 = .slice A1 k1 c1) (hk0 : k0 ≤ 1048576) (hk1 : k1 ≤ 1048576) :
    Calls Try.prog 50 #[dp d] w fun e w' => e = .returned (.int .i64 (V.room - k0 - k1)) ∧ ∃ n, w' = w.drewN n := by
  have hk := dok w d V h hr
  obtain ⟨d0, d1, d2, d3, d4, d5, d6, d7, d8, d9, d10⟩ := h.all
  rw [h0] at d0
  rw [h1] at d3
  generalize V.room = R at *
  have e1 : IntKind.i64.wrap (R - k0) = R - k0 := IntWalk.i64_in _ (by omega)
  have e2 : IntKind.i64.wrap (R - k0 - k1) = R - k0 - k1 := IntWalk.i64_in _ (by omega)
  go_enter Try.func50, Try.ntmps50
  go_wp2_with (go_at_call 46; refine hk.mono ?_; rintro e w' ⟨rfl, rfl⟩)
  go_quiet (fail)
  go_wp2
  go_ret
  exact ⟨rfl, _, rfl⟩
set_option maxHeartbeats 400000 in
theorem dfail (w : World) (d : Nat) (V : DV) (h : Dk w d V) (hr : 0 < V.room) :
    Calls Try.prog 22 #[dp d] w fun e w' => e = .returned (.tuple #[]) ∧ Dk w' d { V with off := true, fuse := -1 } ∧ Chg (fun k => k = d) w w' := by
  have hk := dok w d V h hr
  have HK := Lib.hid h
  have g8 := h.frozen 8
  have g9 := h.frozen 9
  obtain ⟨d0, d1, d2, d3, d4, d5, d6, d7, d8, d9, d10⟩ := h.all
  clear h
  go_enter Try.func22, Try.ntmps22
  go_wp2_with (go_at_call 46; refine hk.mono ?_; rintro e w' ⟨rfl, rfl⟩)
  go_end0
  refine ⟨rfl, ?_, ((Chg.refl (fun k => k = d) w).setCell (fun _ => rfl) _).setCell (fun _ => rfl) _⟩
  exact (HK.out.set 8 _).set 9 _
end Go.Proofs.Ytmchliaclnkbeaa.J
