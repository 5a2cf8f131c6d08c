/- Reading, and laying, four bytes of a number in a slice. Conditions: the four bytes are there. -/
import Derived.Test.YtmchliaclnkbeaaJSum
import Derived.LoopTactic
import Derived.Deep.LoopGhost
import Derived.Deep.QuietTactic
import Derived.BigQuiet
import Derived.RegionTactic
import Derived.Deep.RegionWith
import Derived.Outline
open Go Go.RowKit Go.Lib
namespace Go.Proofs.Ytmchliaclnkbeaa.J
set_option linter.unusedVariables false
set_option linter.unusedSimpArgs false
def or32 (n c : Int) : Int := bits .or .u32 (IntKind.u32.wrap (n * 256)) c
set_option maxHeartbeats 400000 in
theorem read_any (b o n cap : Nat) (x0 x1 x2 x3 : Int) (w : World) (h4 : 4 ≤ n) (hn : n ≤ cap) (hc : n ≤ 1000000 ∧ cap ≤ 9223372036854775807)
    (h0 : w.cell? ⟨b, o, none⟩ = some (.int .u8 x0)) (h1 : w.cell? ⟨b, o + 1, none⟩ = some (.int .u8 x1)) (h2 : w.cell? ⟨b, o + 2, none⟩ = some (.int .u8 x2)) (h3 : w.cell? ⟨b, o + 3, none⟩ = some (.int .u8 x3)) 
    (r0 : 0 ≤ x0 ∧ x0 < 256) (r1 : 0 ≤ x1 ∧ x1 < 256) (r2 : 0 ≤ x2 ∧ x2 < 256) (r3 : 0 ≤ x3 ∧ x3 < 256) :
    Calls Try.prog 57 #[.slice (some ⟨b, o, none⟩) n cap] w fun e w' => e = .returned (.int .u32 (or32 (or32 (or32 (or32 0 x0) x1) x2) x3)) ∧ w = w' := by
  go_enter Try.func57, Try.ntmps57
  go_wp2
  refine wp_loop_rounds 5 ?_
  iterate 5
    rw [rounds_succ]
    go_wp2
  go_ret
  exact ⟨rfl, rfl⟩
def put4 (cs : Array Value) (o : Nat) (v : Int) : Array Value :=
  (((cs.setIfInBounds o (.int .u8 (v / 16777216))).setIfInBounds (o + 1) (.int .u8 (v / 65536 % 256))).setIfInBounds (o + 2) (.int .u8 (v / 256 % 256))).setIfInBounds (o + 3) (.int .u8 (v % 256))
set_option maxHeartbeats 400000 in
theorem lay_any (b o n cap : Nat) (v : Int) (cs : Array Value) (w : World) (h4 : 4 ≤ n) (hn : n ≤ cap) (hc : n ≤ 1000000 ∧ cap ≤ 9223372036854775807) (hv : 0 ≤ v ∧ v < 4294967296)
    (hb : Blk w b cs 5) (hs : o + 4 ≤ cs.size) :
    Calls Try.prog 32 #[.slice (some ⟨b, o, none⟩) n cap, .int .u32 v] w fun e w' => e = .returned (.tuple #[]) ∧ Chg (fun k => k = b) w w' ∧ Blk w' b (put4 cs o v) 5 := by
  have c0 := hb.cell o
  have c1 := hb.cell (o + 1)
  have c2 := hb.cell (o + 2)
  have c3 := hb.cell (o + 3)
  rw [Array.getElem?_eq_getElem (by omega)] at c0 c1 c2 c3
  generalize cs[o] = y0 at *
  generalize cs[o + 1] = y1 at *
  generalize cs[o + 2] = y2 at *
  generalize cs[o + 3] = y3 at *
  have g0 := hb.frozen o
  have g1 := hb.frozen (o + 1)
  have g2 := hb.frozen (o + 2)
  have g3 := hb.frozen (o + 3)
  have hB := Lib.hid hb
  clear hb
  go_enter Try.func32, Try.ntmps32
  go_wp2
  refine wp_loop_rounds 5 ?_
  iterate 5
    rw [rounds_succ]
    go_wp2
  go_end0
  exact ⟨rfl, ((((Chg.refl (fun k => k = b) w).setCell (fun _ => rfl) _).setCell (fun _ => rfl) _).setCell (fun _ => rfl) _).setCell (fun _ => rfl) _, (((hB.out.set _ _).set _ _).set _ _).set _ _⟩
end Go.Proofs.Ytmchliaclnkbeaa.J
