/- The program's check sum of a list of slices of bytes, as a fold over the table of half bytes. Conditions: the lists fit in memory. -/
import Derived.Test.YtmchliaclnkbeaaJBase
import Derived.WalkKit
import Derived.Lib.Hide
import Derived.Below
import Derived.LoopTactic
import Derived.Deep.LoopGhost
import Derived.Deep.QuietTactic
import Derived.BigQuiet
import Derived.RegionTactic
import Derived.Outline
import Derived.WalkSmall
import Derived.Lib.EndianBits
open Go Go.RowKit Go.Lib
namespace Go.Proofs.Ytmchliaclnkbeaa.J
set_option linter.unusedVariables false
set_option linter.unusedSimpArgs false
def halfL : List Int := [0x00000000, 0x1DB71064, 0x3B6E20C8, 0x26D930AC, 0x76DC4190, 0x6B6B51F4, 0x4DB26158, 0x5005713C, 0xEDB88320, 0xF00F9344, 0xD6D6A3E8, 0xCB61B38C, 0x9B64C2B0, 0x86D3D2D4, 0xA00AE278, 0xBDBDF21C]
def half (n : Int) : Int := halfL.getD (n % 16).toNat 0
theorem and15 (n : Int) (h0 : 0 ≤ n) (h1 : n < 4294967296) : bits .and .u32 n 15 = n % 16 := bits_mask .u32 32 (by decide) wraps_u32 4 (by decide) n h0 h1
set_option maxHeartbeats 400000 in
theorem half_any (n : Int) (w : World) (h0 : 0 ≤ n) (h1 : n < 4294967296) :
    Calls Try.prog 70 #[.int .u32 n] w fun e w' => e = .returned (.int .u32 (half n)) ∧ Below w.heap.size w w' := by
  obtain ⟨m, hm, hm2, hm3⟩ : ∃ m : Nat, m < 16 ∧ bits .and .u32 n 15 = (m : Int) ∧ (n % 16).toNat = m := ⟨(n % 16).toNat, by omega, by rw [and15 n h0 h1]; omega, rfl⟩
  have H3 : Hid (half n = halfL.getD m 0) := by show half n = _; unfold half; rw [hm3]
  clear hm3
  go_enter Try.func70, Try.ntmps70
  go_wp2
  go_ret
  refine ⟨?_, (Below.refl _ _).alloc (Nat.le_refl _) _⟩
  rw [H3.out]
  clear hm2 H3
  rcases m with _ | _ | _ | _ | _ | _ | _ | _ | _ | _ | _ | _ | _ | _ | _ | _ | m
  all_goals first | rfl | (exfalso; omega)

def x32 (a b : Int) : Int := bits .xor .u32 a b
theorem x32_range (a b : Int) : 0 ≤ x32 a b ∧ x32 a b < 4294967296 := by
  unfold x32 bits
  have := IntKind.wrap_u32 ((BitVec.ofInt 32 a ^^^ BitVec.ofInt 32 b).toNat : Int)
  show 0 ≤ IntKind.u32.wrap ((BitVec.ofInt 32 a ^^^ BitVec.ofInt 32 b).toNat : Int) ∧ IntKind.u32.wrap ((BitVec.ofInt 32 a ^^^ BitVec.ofInt 32 b).toNat : Int) < 4294967296
  rw [this]; omega
def stepC (c x : Int) : Int := x32 (half (x32 (half (x32 c x)) (x32 c x / 16))) (x32 (half (x32 c x)) (x32 c x / 16) / 16)
def not32 (c : Int) : Int := x32 4294967295 c
def addC (c : Int) (l : List Int) : Int := not32 (l.foldl stepC (not32 c))
set_option maxHeartbeats 400000 in
theorem add_any (c m : Int) (A : Option Addr) (l : List Int) (cap : Nat) (w : World) (_hc : 0 ≤ c ∧ c < 4294967296) (hl : l.length ≤ maxLen) (hr : RdB w A l) (hw : WfB l) :
    Calls Try.prog 55 #[.agg #[.int .u32 c, .int .u64 m], .slice A l.length cap] w fun e w' => (∃ m', e = .returned (.agg #[.int .u32 (addC c l), .int .u64 m'])) ∧ Below w.heap.size w w' := by
  unfold maxLen at hl
  go_enter Try.func55, Try.ntmps55
  go_wp2
  go_quiet (fail)
  go_wp2
  generalize hW2 : ((w.alloc (Obj.cells #[Value.int IntKind.u32 c, Value.int IntKind.u64 m] 102)).alloc
      (Obj.cells #[Value.int IntKind.u32 0, Value.int IntKind.u64 0] 102)).drewN nq = W2
  have hS2 : W2.heap.size = w.heap.size + 2 := by rw [← hW2]; simp
  have hc0 : W2.cell? ⟨w.heap.size + 1, 0, none⟩ = some (.int .u32 0) := by rw [← hW2]; simp
  have hc1 : W2.cell? ⟨w.heap.size + 1, 1, none⟩ = some (.int .u64 0) := by rw [← hW2]; simp
  have hB2 : Below w.heap.size w W2 := by rw [← hW2]; exact below_drewN (((Below.refl _ _).alloc (Nat.le_refl _) _).alloc (by simp) _) _
  have hf0 : W2.frozen? ⟨w.heap.size + 1, 0, none⟩ = false := by rw [← hW2]; simp
  have hf1 : W2.frozen? ⟨w.heap.size + 1, 1, none⟩ = false := by rw [← hW2]; simp
  have hr2 : RdB W2 A l := hr.below hB2 (Nat.le_refl _)
  clear hW2
  go_loopw [5, 6, 17] (fun c5 m6 i wr => ∃ (k : Nat) (m' : Int), k ≤ l.length ∧ i = .int .i64 k ∧ c5 = .int .u32 ((l.take k).foldl stepC (not32 c)) ∧ m6 = .int .u64 m' ∧ Below (w.heap.size + 2) W2 wr)
    (fun _ _ i _ => l.length - (intOf i).toNat)
  case atStart => exact ⟨0, _, Nat.zero_le _, rfl, rfl, rfl, Below.refl _ _⟩
  case round =>
    obtain ⟨k, m', hk, rfl, rfl, rfl, hb⟩ := hrel
    have hz := hb.size
    have ha0 : wr.cell? ⟨w.heap.size + 1, 0, none⟩ = some (.int .u32 0) := (hb.cell (p := ⟨_, _, _⟩) (by simp)).trans hc0
    have ha1 : wr.cell? ⟨w.heap.size + 1, 1, none⟩ = some (.int .u64 0) := (hb.cell (p := ⟨_, _, _⟩) (by simp)).trans hc1
    have hg0 : wr.frozen? ⟨w.heap.size + 1, 0, none⟩ = false := (hb.frozen (p := ⟨_, _, _⟩) (by simp)).trans hf0
    have hg1 : wr.frozen? ⟨w.heap.size + 1, 1, none⟩ = false := (hb.frozen (p := ⟨_, _, _⟩) (by simp)).trans hf1
    clear hc0 hc1 hf0 hf1
    by_cases hlt : k < l.length
    · have hrk : ∃ b o, A = some ⟨b, o, none⟩ ∧ wr.cell? ⟨b, o + k, none⟩ = some (.int .u8 l[k]) := (hr2.below hb (by omega)) k hlt
      obtain ⟨b, o, rfl, hcell⟩ := hrk
      have hx := hw l[k] (List.getElem_mem _)
      have HF : Hid ((l.take (k + 1)).foldl stepC (not32 c) = stepC ((l.take k).foldl stepC (not32 c)) l[k]) := by
        show _ = _
        rw [List.take_succ_eq_append_getElem hlt, List.foldl_append]; rfl
      generalize hcc : (l.take k).foldl stepC (not32 c) = cc at *
      generalize hxx : l[k] = x at *
      have HCC := Lib.hid hcc
      have HXX := Lib.hid hxx
      clear hcc hxx
      have r1 : 0 ≤ bits .xor .u32 cc x ∧ bits .xor .u32 cc x < 4294967296 := x32_range cc x
      have r2 : 0 ≤ bits .xor .u32 (half (bits .xor .u32 cc x)) (bits .xor .u32 cc x / 16) ∧ bits .xor .u32 (half (bits .xor .u32 cc x)) (bits .xor .u32 cc x / 16) < 4294967296 := x32_range _ _
      go_wp2_with (go_at_call 70; refine (half_any _ _ (by omega) (by omega)).mono ?_; rintro e w' ⟨rfl, hbx⟩)
      go_roundw
      case rel =>
        have hb1 := ‹Below wr.heap.size wr _›
        have s1 := hb1.size
        exact ⟨k + 1, _, by omega, by go_num, by rw [HF.out]; rfl, rfl, (hb.trans (hb1.mono (by omega))).trans (hbx.mono (by omega))⟩
      case measure => simp [intOf]; omega
    · have HX : Hid (addC c l = x32 4294967295 ((l.take k).foldl stepC (not32 c))) := by show _ = _; unfold addC not32; rw [List.take_of_length_le (by omega)]
      go_wp2
      refine bodyPost_ret (v := .agg #[.int .u32 (addC c l), .int .u64 (bits BinOp.xor IntKind.u64 m' 14695981039346656037)]) ?_ rfl ?_
      · simp [results, Try.results55, go_sem, ha0, ha1]
        rw [HX.out]; rfl
      · refine ⟨⟨_, rfl⟩, ?_⟩
        exact (((hB2.trans (hb.mono (by omega))).setCell (p := ⟨_, _, _⟩) (by simp) _).setCell (p := ⟨_, _, _⟩) (by simp) _)
theorem addC_range (c : Int) (l : List Int) : 0 ≤ addC c l ∧ addC c l < 4294967296 := x32_range _ _
set_option maxHeartbeats 400000 in
theorem new_any (w : World) : Calls Try.prog 54 #[] w fun e w' => e = .returned (.agg #[.int .u32 0, .int .u64 0]) ∧ Below w.heap.size w w' := by
  go_enter Try.func54, Try.ntmps54
  go_wp2
  refine bodyPost_ret (v := .agg #[.int .u32 0, .int .u64 0]) (by simp [results, Try.results54, go_sem]) rfl ?_
  refine ⟨rfl, ?_⟩
  exact (Below.refl _ _).alloc (Nat.le_refl _) _
set_option maxHeartbeats 400000 in
theorem scrc_any (c m : Int) (w : World) : Calls Try.prog 56 #[.agg #[.int .u32 c, .int .u64 m]] w fun e w' => e = .returned (.int .u32 c) ∧ Below w.heap.size w w' := by
  go_enter Try.func56, Try.ntmps56
  go_wp2
  go_ret
  exact ⟨rfl, (Below.refl _ _).alloc (Nat.le_refl _) _⟩
/-- A list of slices of bytes. -/
def RdSS (w : World) (A : Option Addr) (ll : List (List Int)) : Prop := ∀ i (h : i < ll.length), ∃ b o A' c', A = some ⟨b, o, none⟩ ∧ w.cell? ⟨b, o + i, none⟩ = some (.slice A' ll[i].length c') ∧ ll[i].length ≤ c' ∧ RdB w A' ll[i]
theorem RdSS.below {w w' : World} {A : Option Addr} {l : List (List Int)} {B : Nat} (h : RdSS w A l) (hb : Below B w w') (hB : w.heap.size ≤ B) : RdSS w' A l := by
  intro i hi
  obtain ⟨b, o, A', c', e, hc, hl, hr⟩ := h i hi
  exact ⟨b, o, A', c', e, (hb.cell (p := ⟨_, _, _⟩) (Nat.lt_of_lt_of_le (block_lt_of_cell hc) hB)).trans hc, hl, hr.below hb hB⟩
def crcC (ll : List (List Int)) : Int := ll.foldl addC 0
theorem crcC_range (ll : List (List Int)) : 0 ≤ ll.foldl addC 0 ∧ ll.foldl addC 0 < 4294967296 := by
  rcases List.eq_nil_or_concat ll with rfl | ⟨l, x, rfl⟩
  · exact ⟨Int.le_refl _, by decide⟩
  · rw [List.concat_eq_append, List.foldl_append]; exact addC_range _ _
set_option maxHeartbeats 400000 in
theorem crc_any (A : Option Addr) (ll : List (List Int)) (cap : Nat) (w : World) (hl : ll.length ≤ maxLen) (hr : RdSS w A ll) (hw : ∀ l ∈ ll, WfB l) (hm : ∀ l ∈ ll, l.length ≤ maxLen) :
    Calls Try.prog 33 #[.slice A ll.length cap] w fun e w' => e = .returned (.int .u32 (crcC ll)) ∧ Below w.heap.size w w' := by
  unfold maxLen at hl
  go_enter Try.func33, Try.ntmps33
  go_wp2_with (first | (go_at_call 54; refine (new_any _).mono ?_; rintro e w' ⟨rfl, hb0⟩))
  have hN := hb0.size
  generalize hW2 : w'.alloc (Obj.cells #[Value.int IntKind.u32 0, Value.int IntKind.u64 0] 102) = W2
  have hk2 : Blk W2 w'.heap.size #[Value.int IntKind.u32 0, Value.int IntKind.u64 0] 102 := by rw [← hW2]; exact Blk.new _ _ _
  have hB2 : Below w.heap.size w W2 := by rw [← hW2]; exact hb0.alloc hN _
  have hr2 : RdSS W2 A ll := hr.below hB2 (Nat.le_refl _)
  have hB3 : Below w'.heap.size w' W2 := by rw [← hW2]; exact (Below.refl _ _).alloc (Nat.le_refl _) _
  have hr3 : RdSS w' A ll := hr.below hb0 (Nat.le_refl _)
  have hr4 : RdSS W2 A ll := hr2
  clear hW2
  generalize hNN : w'.heap.size = N at *
  go_loopw [9] (fun i wr => ∃ (k : Nat) (m' : Int), k ≤ ll.length ∧ i = .int .i64 k ∧ Blk wr N #[.int .u32 ((ll.take k).foldl addC 0), .int .u64 m'] 102 ∧ Below N W2 wr)
    (fun i _ => ll.length - (intOf i).toNat)
  case atStart => exact ⟨0, _, Nat.zero_le _, rfl, hk2, Below.refl _ _⟩
  case round =>
    obtain ⟨k, m', hk, rfl, hblk, hb⟩ := hrel
    have ha0 := hblk.cell 0
    have ha1 := hblk.cell 1
    have hg0 := hblk.frozen 0
    have hg1 := hblk.frozen 1
    simp at ha0 ha1
    have hNlt := hblk.lt
    by_cases hlt : k < ll.length
    · have hr4 : RdSS wr A ll := hr3.below (hB3.trans hb) (Nat.le_of_eq hNN)
      obtain ⟨b, o, A', c', rfl, hcell, hlen, hrd⟩ := hr4 k hlt
      have hx := hw _ (List.getElem_mem hlt)
      have hx2 := hm _ (List.getElem_mem hlt)
      have HF : Hid ((ll.take (k + 1)).foldl addC 0 = addC ((ll.take k).foldl addC 0) ll[k]) := by
        show _ = _
        rw [List.take_succ_eq_append_getElem hlt, List.foldl_append]; rfl
      have hr : 0 ≤ (ll.take k).foldl addC 0 ∧ (ll.take k).foldl addC 0 < 4294967296 := crcC_range _
      generalize hcc : (ll.take k).foldl addC 0 = cc at *
      generalize hxx : ll[k] = x at *
      clear hcc hxx
      go_wp2_with (go_at_call 55; refine (add_any _ _ _ _ _ _ hr (by assumption) (by assumption) (by assumption)).mono ?_; rintro e w' ⟨⟨m2, rfl⟩, hbx⟩; obtain ⟨hcB, hfB⟩ := bcell hbx)
      go_roundw
      case rel =>
        refine ⟨k + 1, m2, by omega, by go_num, ?_, ?_⟩
        · rw [HF.out]
          exact ((hblk.below hbx hNlt).set 0 _).set 1 _
        · exact ((hb.trans (hbx.mono (by omega))).setCell (p := ⟨_, _, _⟩) (by simp) _).setCell (p := ⟨_, _, _⟩) (by simp) _
      case measure => simp [intOf]; omega
    · have HX : Hid (crcC ll = (ll.take k).foldl addC 0) := by show _ = _; rw [List.take_of_length_le (by omega)]; rfl
      go_wp2_with (go_at_call 56; refine (scrc_any _ _ _).mono ?_; rintro e w' ⟨rfl, hbx⟩)
      go_ret
      refine ⟨by rw [HX.out]; rfl, ?_⟩
      exact (hB2.trans (hb.mono hN)).trans (hbx.mono (by omega))
end Go.Proofs.Ytmchliaclnkbeaa.J
