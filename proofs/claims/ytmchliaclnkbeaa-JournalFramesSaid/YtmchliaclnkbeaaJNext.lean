/- The program's next record, and bytes.Clone. Conditions: the bytes read, and fit in memory. -/
import Derived.Test.YtmchliaclnkbeaaJFrame
import Derived.WalkSpells
open Go Go.RowKit Go.Lib
namespace Go.Proofs.Ytmchliaclnkbeaa.J
set_option linter.unusedVariables false
set_option linter.unusedSimpArgs false
def rd4 (l : List Int) : Int := or32 (or32 (or32 (or32 0 (l.getD 0 0)) (l.getD 1 0)) (l.getD 2 0)) (l.getD 3 0)
theorem clone_nil (w : World) :
    Calls Try.prog 37 #[.slice none 0 0] w fun e w' => e = .returned (.slice none 0 0) ∧ w = w' := by
  have hq := fun w => Lib.run_eql_slice_nil (P := Try.prog) w 22 5 none 0 0 0 0 Try.underlying22
  go_enter Try.func37, Try.ntmps37
  go_wp2
  go_ret
  exact ⟨rfl, rfl⟩
set_option maxRecDepth 100000 in
theorem clone_some (ad : Addr) (l : List Int) (c : Nat) (w : World) (h2 : l.length ≤ 140737488355328) (hr : RdB w (some ad) l) :
    Calls Try.prog 37 #[.slice (some ad) l.length c] w fun e w' => (∃ v, e = .returned v ∧ w'.ownsRow w.heap.size 5 1 v l.length (bv l)) ∧ Below w.heap.size w w' := by
  have hq := fun w => Lib.run_eql_slice_nil (P := Try.prog) w 22 5 (some ad) l.length c 0 0 Try.underlying22
  have hown : (w.alloc (.cells #[] 5)).ownsRow w.heap.size 5 1 (.slice (some ⟨w.heap.size, 0, none⟩) 0 0) 0 [] := World.ownsRow_lit w #[] 0 (Nat.le_refl _) (Nat.zero_le _) rfl
  have hsrc : Src (w.alloc (.cells #[] 5)) (some ad) c (bv l) := Src.ofB (hr.alloc _) (fun e => by cases e)
  go_enter Try.func37, Try.ntmps37
  go_wp2_with (at_builtin; go_must (refine wpList_app rfl (.tmp 5) (.tmp 6) 22 rfl w.heap.size 5 (.int .u8 0) 1 Try.underlying22 info5 rfl _ _ _ rfl hown _ _ c (bv l) rfl (bv_length l) hsrc (by unfold maxLen; omega) (by omega) (by simp) ?_; intro v' w4 hown4 hg4))
  go_ret
  simp only [Nat.zero_add, List.nil_append] at hown4
  exact ⟨⟨v', rfl, hown4⟩, Below.own ((Below.refl _ _).alloc (Nat.le_refl _) _) hown hg4 (by simp) (Nat.le_refl _)⟩
theorem clone_any (A : Option Addr) (l : List Int) (c : Nat) (w : World) (hA : A = none → c = 0) (h2 : l.length ≤ 140737488355328) (hr : RdB w A l) :
    Calls Try.prog 37 #[.slice A l.length c] w fun e w' => (∃ v, e = .returned v ∧ w'.ownsRow w.heap.size 5 1 v l.length (bv l)) ∧ Below w.heap.size w w' := by
  cases A with
  | some ad => exact clone_some ad l c w h2 hr
  | none =>
    obtain rfl := hA rfl
    have hl : l = [] := by
      cases l with
      | nil => rfl
      | cons x l => obtain ⟨b, o, e2, _⟩ := hr 0 (by simp); cases e2
    subst hl
    exact (clone_nil w).mono fun e w' ⟨he, hw⟩ => by subst hw; exact ⟨⟨_, he, World.ownsRow_nil _ _ _ _⟩, Below.refl _ _⟩
set_option maxHeartbeats 400000 in
theorem next_short (A : Option Addr) (l : List Int) (c : Nat) (w : World) (h : l.length < 8) :
    Calls Try.prog 36 #[.slice A l.length c] w fun e w' => e = .returned (.tuple #[.slice none 0 0, .bool false]) ∧ w = w' := by
  go_enter Try.func36, Try.ntmps36
  go_wp2
  go_ret2
  exact ⟨rfl, rfl⟩
theorem or32_range (a b : Int) : 0 ≤ or32 a b ∧ or32 a b < 4294967296 := by
  unfold or32 bits
  show 0 ≤ IntKind.u32.wrap _ ∧ IntKind.u32.wrap _ < 4294967296
  rw [IntKind.wrap_u32]; omega
theorem rd4_range (l : List Int) : 0 ≤ rd4 l ∧ rd4 l < 4294967296 := or32_range _ _
theorem RdB.at {w : World} {b o : Nat} {l : List Int} (hr : RdB w (some ⟨b, o, none⟩) l) (i : Nat) (h : i < l.length) : w.cell? ⟨b, o + i, none⟩ = some (.int .u8 l[i]) := by
  obtain ⟨b', o', e, hc⟩ := hr i h
  cases e; exact hc
theorem RdB.drop {w : World} {b o : Nat} {l : List Int} (hr : RdB w (some ⟨b, o, none⟩) l) (k : Nat) : RdB w (some ⟨b, o + k, none⟩) (l.drop k) := by
  intro i hi
  simp at hi
  refine ⟨b, o + k, rfl, ?_⟩
  have := hr.at (k + i) (by omega)
  rw [Nat.add_assoc, this]
  simp
theorem RdB.take {w : World} {A : Option Addr} {l : List Int} (hr : RdB w A l) (k : Nat) : RdB w A (l.take k) := by
  intro i hi
  simp at hi
  obtain ⟨b, o, e, hc⟩ := hr i (by omega)
  exact ⟨b, o, e, by simpa using hc⟩
theorem WfB.drop {l : List Int} (h : WfB l) (k : Nat) : WfB (l.drop k) := fun x hx => h x (List.mem_of_mem_drop hx)
theorem WfB.take {l : List Int} (h : WfB l) (k : Nat) : WfB (l.take k) := fun x hx => h x (List.mem_of_mem_take hx)
theorem WfB.at {l : List Int} (h : WfB l) (i : Nat) (hi : i < l.length) : 0 ≤ l[i] ∧ l[i] < 256 := h _ (List.getElem_mem hi)
theorem read_l (b o c : Nat) (l : List Int) (w : World) (h4 : 4 ≤ l.length) (hlc : l.length ≤ c) (hw : WfB l) (hr : RdB w (some ⟨b, o, none⟩) l) (hc : l.length ≤ 1000000 ∧ c ≤ 9223372036854775807) :
    Calls Try.prog 57 #[.slice (some ⟨b, o, none⟩) l.length c] w fun e w' => e = .returned (.int .u32 (rd4 l)) ∧ w = w' := by
  have := read_any b o l.length c (l[0]) (l[1]) (l[2]) (l[3]) w h4 hlc hc (hr.at 0 (by omega)) (hr.at 1 (by omega)) (hr.at 2 (by omega)) (hr.at 3 (by omega)) (hw.at 0 (by omega)) (hw.at 1 (by omega)) (hw.at 2 (by omega)) (hw.at 3 (by omega))
  have e : rd4 l = or32 (or32 (or32 (or32 0 l[0]) l[1]) l[2]) l[3] := by
    unfold rd4
    simp only [List.getD_eq_getElem?_getD, List.getElem?_eq_getElem (show 0 < l.length by omega), List.getElem?_eq_getElem (show 1 < l.length by omega), List.getElem?_eq_getElem (show 2 < l.length by omega), List.getElem?_eq_getElem (show 3 < l.length by omega), Option.getD_some]
  rw [e]; exact this
set_option maxHeartbeats 400000 in
theorem next_bad (b o c : Nat) (l : List Int) (w : World) (h8 : 8 ≤ l.length) (hlc : l.length ≤ c) (hc : l.length ≤ 1000000 ∧ c ≤ 9223372036854775807) (hw : WfB l) (hr : RdB w (some ⟨b, o, none⟩) l) (hbad : rd4 l < 1 ∨ 16384 < rd4 l ∨ (l.length : Int) - 8 < rd4 l) :
    Calls Try.prog 36 #[.slice (some ⟨b, o, none⟩) l.length c] w fun e w' => e = .returned (.tuple #[.slice none 0 0, .bool false]) ∧ w = w' := by
  have hn := rd4_range l
  have hrd := read_l b o c l w (by omega) hlc hw hr hc
  generalize rd4 l = n at *
  rcases hbad with hbad | hbad | hbad
  · obtain rfl : n = 0 := by omega
    go_enter Try.func36, Try.ntmps36
    go_wp2_with (go_at_call 57; refine hrd.mono ?_; rintro e w' ⟨rfl, rfl⟩)
    go_ret2
    exact ⟨rfl, rfl⟩
  · have h0 : (n == 0) = false := by rw [beq_eq_false_iff_ne]; omega
    go_enter Try.func36, Try.ntmps36
    go_wp2_with (go_at_call 57; refine hrd.mono ?_; rintro e w' ⟨rfl, rfl⟩)
    go_ret2
    exact ⟨rfl, rfl⟩
  · by_cases h2 : 16384 < n
    all_goals
      have h0 : (n == 0) = false := by rw [beq_eq_false_iff_ne]; omega
      go_enter Try.func36, Try.ntmps36
      go_wp2_with (go_at_call 57; refine hrd.mono ?_; rintro e w' ⟨rfl, rfl⟩)
      go_ret2
      exact ⟨rfl, rfl⟩
theorem crc2l (N : Nat) (A1 A2 : Option Addr) (l1 l2 : List Int) (c1 c2 : Nat) (W : World) (hb : Blk W N #[.slice A1 l1.length c1, .slice A2 l2.length c2] 22) (hl1 : l1.length ≤ c1) (hl2 : l2.length ≤ c2)
    (h1 : RdB W A1 l1) (h2 : RdB W A2 l2) (hw1 : WfB l1) (hw2 : WfB l2) (hm1 : l1.length ≤ maxLen) (hm2 : l2.length ≤ maxLen) :
    Calls Try.prog 33 #[.slice (some ⟨N, 0, none⟩) 2 2] W fun e w' => e = .returned (.int .u32 (crcC [l1, l2])) ∧ Below W.heap.size W w' := by
  refine crc_any (some ⟨N, 0, none⟩) [l1, l2] 2 W (by simp [maxLen]) ?_ ?_ ?_
  · intro i hi
    match i, hi with
    | 0, _ => exact ⟨N, 0, _, _, rfl, hb.cell 0, hl1, h1⟩
    | 1, _ => exact ⟨N, 0, _, _, rfl, hb.cell 1, hl2, h2⟩
  · intro x hx
    simp at hx
    rcases hx with rfl | rfl <;> assumption
  · intro x hx
    simp at hx
    rcases hx with rfl | rfl <;> assumption
set_option maxHeartbeats 800000 in
theorem next_good (b o c n : Nat) (l : List Int) (w : World) (h8 : 8 ≤ l.length) (hlc : l.length ≤ c) (hc : l.length ≤ 1000000 ∧ c ≤ 9223372036854775807) (hw : WfB l) (hr : RdB w (some ⟨b, o, none⟩) l) (hn : rd4 l = n) (h1 : 1 ≤ n) (h2 : n ≤ 16384) (h3 : n + 8 ≤ l.length) :
    Calls Try.prog 36 #[.slice (some ⟨b, o, none⟩) l.length c] w fun e w' => e = .returned (.tuple #[.slice (some ⟨b, o + 8, none⟩) n (c - 8), .bool (crcC [l.take 4, (l.drop 8).take n] == rd4 (l.drop 4))]) ∧ Below w.heap.size w w' := by
  have hrd := read_l b o c l w (by omega) hlc hw hr hc
  rw [hn] at hrd
  have H := Lib.hid hn
  clear hn
  have h0 : ((n : Int) == 0) = false := by rw [beq_eq_false_iff_ne]; omega
  have l1 : (l.take 4).length = 4 := by simp; omega
  have l2 : ((l.drop 8).take n).length = n := by simp; omega
  have r1 := hr.take 4
  have r2 := (hr.drop 8).take n
  have r3 := hr.drop 4
  have hread : ∀ W : World, RdB W (some ⟨b, o + 4, none⟩) (l.drop 4) → Calls Try.prog 57 #[.slice (some ⟨b, o + 4, none⟩) (l.length - 4) (c - 4)] W fun e w' => e = .returned (.int .u32 (rd4 (l.drop 4))) ∧ W = w' := by
    intro W hW
    have := read_l b (o + 4) (c - 4) (l.drop 4) W (by simp; omega) (by simp; omega) (hw.drop _) hW (by simp; omega)
    rwa [List.length_drop] at this
  have hcrc : ∀ (W : World) (N : Nat), Blk W N #[.slice (some ⟨b, o, none⟩) 4 c, .slice (some ⟨b, o + 8, none⟩) n (c - 8)] 22 → RdB W (some ⟨b, o, none⟩) (l.take 4) → RdB W (some ⟨b, o + 8, none⟩) ((l.drop 8).take n) →
      Calls Try.prog 33 #[.slice (some ⟨N, 0, none⟩) 2 2] W fun e w' => e = .returned (.int .u32 (crcC [l.take 4, (l.drop 8).take n])) ∧ Below W.heap.size W w' := by
    intro W N hb h1 h2
    exact crc2l N _ _ (l.take 4) ((l.drop 8).take n) c (c - 8) W (by rw [l1, l2]; exact hb) (by omega) (by omega) h1 h2 (hw.take _) ((hw.drop _).take _) (by rw [l1]; simp [maxLen]) (by rw [l2]; unfold maxLen; omega)
  clear l1 l2
  generalize hv1 : crcC [l.take 4, (l.drop 8).take n] = v1 at *
  generalize hv2 : rd4 (l.drop 4) = v2 at *
  clear hv1 hv2
  generalize l.take 4 = la at *
  generalize (l.drop 8).take n = lb at *
  generalize l.drop 4 = lc at *
  have hc8 : ¬ c = 8 := by omega
  have hc4 : ¬ c = 4 := by omega
  go_enter Try.func36, Try.ntmps36
  go_upto_region 7 with (go_at_call 57; refine hrd.mono ?_; rintro e w' ⟨rfl, rfl⟩)
  simp only [Nat.add_sub_cancel_left]
  go_cut [2, 3] from 30 to 39 (fun q2 q3 w3 => q2 = .slice (some ⟨b, o + 8, none⟩) n (c - 8) ∧ q3 = .bool (v1 == v2) ∧ Below w.heap.size w w3)
  case first =>
    go_region_with (first
      | (go_at_call 33; go_must (refine (hcrc _ _ (by exact (Blk.new _ _ _).drew) (by repeat (first | exact r1 | apply RdB.alloc | apply RdB.drew)) (by repeat (first | exact r2 | apply RdB.alloc | apply RdB.drew))).mono ?_; rintro e w2 ⟨rfl, hb2⟩))
      | (go_at_call 57; go_must (refine (hread _ (by exact ((r3.alloc _).drew).below ‹_› (Nat.le_refl _))).mono ?_; rintro e w3 ⟨rfl, rfl⟩)))
    all_goals
      go_wp2_with fail
      go_simp
      go_meet
      case rel =>
        have s2 := ‹Below _ _ _›.size
        exact ⟨rfl, rfl, ((((Below.refl w.heap.size w).alloc (Nat.le_refl _) _).drew).trans (‹Below _ _ _›.mono (by simp)))⟩
  case rest =>
    obtain ⟨rfl, rfl, hB⟩ := hcut
    go_wp2_with fail
    go_ret2
    exact ⟨rfl, hB⟩
end Go.Proofs.Ytmchliaclnkbeaa.J
