/- The reference's sum bit by bit, its four bytes of a number, and its comparison of two lists of records. Conditions: the lists fit in memory. -/
import Derived.Test.YtmchliaclnkbeaaJScan
import Derived.Laws.BytesArg
open Go Go.RowKit Go.Lib
namespace Go.Proofs.Ytmchliaclnkbeaa.J
set_option linter.unusedVariables false
set_option linter.unusedSimpArgs false
theorem four_any (v : Int) (w : World) (hv : 0 ≤ v ∧ v < 4294967296) :
    Calls Try.prog 34 #[.int .u32 v] w fun e w' => e = .returned (.slice (some ⟨w.heap.size, 0, none⟩) 4 4) ∧ w' = w.alloc (.cells (bv (be4 v)).toArray 5) := by
  go_enter Try.func34, Try.ntmps34
  go_wp2
  go_ret
  exact ⟨rfl, rfl⟩
/-- One bit's step. -/
def bstep (x : Int) (s : Int) (k : Nat) : Int :=
  if (bits .and .u32 (bits .xor .u32 s (x / 2 ^ k % 4294967296)) 1 == 1) = true then bits .xor .u32 (s / 2) 3988292384 else s / 2
def byteR (s x : Int) : Int := (List.range 8).foldl (bstep x) s
def rfold (l : List Int) : Int := l.foldl byteR 4294967295
def crcR (l : List Int) : Int := bits .xor .u32 4294967295 (rfold l)
theorem bits32_range (op : BinOp) (a b : Int) : 0 ≤ bits op .u32 a b ∧ bits op .u32 a b < 4294967296 := by
  unfold bits
  show 0 ≤ IntKind.u32.wrap _ ∧ IntKind.u32.wrap _ < 4294967296
  rw [IntKind.wrap_u32]; omega
theorem bstep_range (x s : Int) (k : Nat) (h : 0 ≤ s ∧ s < 4294967296) : 0 ≤ bstep x s k ∧ bstep x s k < 4294967296 := by
  unfold bstep
  split
  · exact bits32_range _ _ _
  · omega
theorem bfold_range (x s : Int) (h : 0 ≤ s ∧ s < 4294967296) (m : Nat) : 0 ≤ (List.range m).foldl (bstep x) s ∧ (List.range m).foldl (bstep x) s < 4294967296 := by
  induction m with
  | zero => exact h
  | succ m ih => rw [List.range_succ, List.foldl_append]; exact bstep_range _ _ _ ih
theorem foldB_range (l : List Int) : ∀ s : Int, 0 ≤ s ∧ s < 4294967296 → 0 ≤ l.foldl byteR s ∧ l.foldl byteR s < 4294967296 := by
  induction l with
  | nil => exact fun s h => h
  | cons x l ih => exact fun s h => ih _ (bfold_range x s h 8)
theorem rfold_range (l : List Int) : 0 ≤ rfold l ∧ rfold l < 4294967296 := foldB_range l _ (by omega)
theorem rfold_nil : rfold [] = 4294967295 := rfl
theorem rfold_snoc (l : List Int) (x : Int) : rfold (l ++ [x]) = byteR (rfold l) x := by simp only [rfold, List.foldl_append, List.foldl_cons, List.foldl_nil]
set_option maxHeartbeats 400000 in
set_option maxRecDepth 100000 in
theorem rcrc_any (A : Option Addr) (l : List Int) (c : Nat) (w : World) (hl : l.length ≤ maxLen) (hw : WfB l) (hr : RdB w A l) :
    Calls Try.prog 35 #[.slice A l.length c] w fun e w' => e = .returned (.int .u32 (crcR l)) ∧ w = w' := by
  unfold maxLen at hl
  go_enter Try.func35, Try.ntmps35
  go_wp2
  go_loop [3, 4] (fun s i => ∃ k : Nat, k ≤ l.length ∧ i = .int .i64 k ∧ s = .int .u32 (rfold (l.take k))) (fun _ i => l.length - (intOf i).toNat)
  case atStart => exact ⟨0, Nat.zero_le _, rfl, by rw [List.take_zero, rfold_nil]⟩
  case round =>
    obtain ⟨k, hk, rfl, rfl⟩ := hrel
    by_cases hlt : k < l.length
    · obtain ⟨b, o, rfl, hcell⟩ := hr k hlt
      have hx := hw.at k hlt
      have hrng : 0 ≤ rfold (l.take k) ∧ rfold (l.take k) < 4294967296 := rfold_range (l.take k)
      have HF : Hid (rfold (l.take (k + 1)) = byteR (rfold (l.take k)) l[k]) := by
        show _ = _
        rw [List.take_succ_eq_append_getElem hlt, rfold_snoc]
      generalize hss : rfold (l.take k) = s at *
      generalize hxx : l[k] = x at *
      clear hss hxx hw
      go_wp2
      go_loop [3, 5] (fun sv j => ∃ m : Nat, m ≤ 8 ∧ j = .int .i64 m ∧ sv = .int .u32 ((List.range m).foldl (bstep x) s)) (fun _ j => 8 - (intOf j).toNat)
      case atStart => exact ⟨0, Nat.zero_le _, rfl, rfl⟩
      case round =>
        obtain ⟨m, hm, rfl, rfl⟩ := hrel
        by_cases hm8 : m < 8
        · have hmr : 0 ≤ (List.range m).foldl (bstep x) s ∧ (List.range m).foldl (bstep x) s < 4294967296 := bfold_range x s hrng m
          have HB : Hid ((List.range (m + 1)).foldl (bstep x) s = bstep x ((List.range m).foldl (bstep x) s) m) := by
            show _ = _
            rw [List.range_succ, List.foldl_append]; rfl
          generalize hs2 : (List.range m).foldl (bstep x) s = s2 at *
          clear hs2
          go_wp2
          · rename_i ht
            go_round
            case rel => exact ⟨m + 1, by omega, by go_num, by rw [HB.out, bstep, if_pos (by assumption)]⟩
            case measure => simp [intOf]; omega
          · rename_i hf
            go_round
            case rel => exact ⟨m + 1, by omega, by go_num, by rw [HB.out, bstep, if_neg (by rw [hf]; decide)]⟩
            case measure => simp [intOf]; omega
        · have HM : Hid ((List.range m).foldl (bstep x) s = byteR s x) := by
            show _ = _
            obtain rfl : m = 8 := by omega
            rfl
          go_wp2
          go_round
          case rel => exact ⟨k + 1, by omega, by go_num, by rw [HF.out, HM.out]⟩
          case measure => simp [intOf]; omega
    · have HX : Hid (crcR l = bits .xor .u32 4294967295 (rfold (l.take k))) := by show _ = _; unfold crcR; rw [List.take_of_length_le (by omega)]
      go_wp2
      go_ret
      exact ⟨by rw [HX.out]; rfl, rfl⟩
def strL (l : List Int) : ByteArray := strOfNums l
theorem conv_any (A : Option Addr) (l : List Int) (c : Nat) (w : World) (hr : RdB w A l) :
    (convert 22 9 (.slice A l.length c)).run Try.prog w = .ok (.string (strL l)) w := by
  cases A with
  | some a =>
    cases l with
    | nil =>
      obtain ⟨b, o, s⟩ := a
      have hl : (loadCells (⟨b, o, s⟩ : Addr) 0).run Try.prog w = .ok (([] : List Int).map (Value.int .u8)).toArray w := by simp [loadCells, loadCellsFrom]
      show (convert 22 9 (.slice (some ⟨b, o, s⟩) 0 c)).run Try.prog w = _
      rw [run_convert_bytes_string w 22 9 5 _ 0 c Try.underlying22 Try.underlying5 Try.underlying9, run_bytesToString w _ 0 c [] hl]
      rfl
    | cons x l =>
      obtain ⟨b, o, e⟩ := hr.some_of (by simp)
      cases e
      exact run_convert_bytes_arg w 22 5 Try.underlying22 Try.underlying5 b o _ c (x :: l) rfl (fun i hi => by rw [hr.at i hi]; simp [List.getD_eq_getElem?_getD, List.getElem?_eq_getElem hi]) 9 Try.underlying9
  | none =>
    have hl : l = [] := by
      cases l with
      | nil => rfl
      | cons x l => obtain ⟨b, o, e⟩ := hr.some_of (by simp); cases e
    subst hl
    exact run_convert_bytes_nil w 22 5 Try.underlying22 Try.underlying5 _ c 9 Try.underlying9
theorem strL_inj : ∀ {a b : List Int}, WfB a → WfB b → strL a = strL b → a = b := by
  intro a b ha hb h
  have h2 : a.map (fun n => UInt8.ofNat n.toNat) = b.map (fun n => UInt8.ofNat n.toNat) := by
    have := congrArg (fun s => s.data.toList) h
    simpa [strL, strOfNums_data] using this
  clear h
  induction a generalizing b with
  | nil =>
    cases b with
    | nil => rfl
    | cons y b => simp at h2
  | cons x a ih =>
    cases b with
    | nil => simp at h2
    | cons y b =>
      simp only [List.map_cons, List.cons.injEq] at h2
      have hx := ha x (by simp)
      have hy := hb y (by simp)
      have e : x = y := by
        have := congrArg UInt8.toNat h2.1
        simp at this
        omega
      rw [e, ih (fun z hz => ha z (by simp [hz])) (fun z hz => hb z (by simp [hz])) h2.2]
theorem strL_ne {a b : List Int} (ha : WfB a) (hb : WfB b) : (!((strL a).toList == (strL b).toList)) = !decide (a = b) := by
  by_cases h : a = b
  · subst h; simp
  · have : ¬ (strL a).toList = (strL b).toList := fun e => h (strL_inj ha hb (by
      rw [ByteArray.toList_eq, ByteArray.toList_eq] at e
      have e2 : (strL a).data = (strL b).data := Array.toList_inj.1 e
      generalize strL a = p at *
      generalize strL b = q at *
      cases p; cases q; simp at e2; rw [e2]))
    simp [h, this]
/-- The same list of texts? -/
theorem same_any (A B : Option Addr) (la lb : List (List Int)) (ca cb : Nat) (w : World) (ha : la.length ≤ maxLen) (hb : lb.length ≤ maxLen) (hra : RdSS w A la) (hrb : RdSS w B lb) (hwa : ∀ l ∈ la, WfB l) (hwb : ∀ l ∈ lb, WfB l) :
    Calls Try.prog 10 #[.slice A la.length ca, .slice B lb.length cb] w fun e w' => e = .returned (.bool (decide (la = lb))) ∧ Below w.heap.size w w' := by
  unfold maxLen at ha hb
  by_cases hl : la.length = lb.length
  · go_enter Try.func10, Try.ntmps10
    go_wp2
    go_loopw [5] (fun i wr => ∃ k : Nat, k ≤ la.length ∧ i = .int .i64 k ∧ la.take k = lb.take k ∧ Below w.heap.size w wr) (fun i _ => la.length - (intOf i).toNat)
    case atStart => exact ⟨0, Nat.zero_le _, rfl, by simp, Below.refl _ _⟩
    case round =>
      obtain ⟨k, hk, rfl, hpre, hB⟩ := hrel
      have HP := Lib.hid hpre
      clear hpre
      by_cases hlt : k < la.length
      · obtain ⟨b1, o1, A1, c1, rfl, hc1, hl1, hr1⟩ := (hra.below hB (Nat.le_refl _)) k hlt
        obtain ⟨b2, o2, A2, c2, rfl, hc2, hl2, hr2⟩ := (hrb.below hB (Nat.le_refl _)) k (by omega)
        have q1 := fun n => conv_any A1 la[k] c1 (wr.drewN n) hr1.drewN
        have q2 := fun n => conv_any A2 (lb[k]'(by omega)) c2 (wr.drewN n) hr2.drewN
        have w1 := hwa _ (List.getElem_mem hlt)
        have w2 := hwb _ (List.getElem_mem (show k < lb.length by omega))
        have HS : Hid (la.take (k + 1) = lb.take (k + 1) ↔ la[k] = lb[k]'(by omega)) := by
          show _ ↔ _
          have e1 : la.take (k + 1) = la.take k ++ [la[k]] := List.take_succ_eq_append_getElem hlt
          have e2 : lb.take (k + 1) = lb.take k ++ [lb[k]'(by omega)] := List.take_succ_eq_append_getElem (by omega)
          rw [e1, e2, HP.out]
          exact ⟨fun h => by have := List.append_cancel_left h; injection this, fun h => by rw [h]⟩
        have HN : Hid (la[k] ≠ lb[k]'(by omega) → decide (la = lb) = false) := by
          show _ → _
          intro hne
          rw [decide_eq_false_iff_not]
          intro e
          subst e
          exact hne rfl
        generalize la[k] = x1 at *
        generalize (lb[k]'(by omega)) = x2 at *
        by_cases hxx : x1 = x2
        · have hne : (!((strL x1).toList == (strL x2).toList)) = false := by rw [strL_ne w1 w2]; simp [hxx]
          have HX := Lib.hid hxx
          clear hxx
          go_wp2
          go_quiet (fail)
          go_wp2
          go_roundw
          case rel => exact ⟨k + 1, by omega, by go_num, HS.out.2 HX.out, hB.drewN _⟩
          case measure => simp [intOf]; omega
        · have hne : (!((strL x1).toList == (strL x2).toList)) = true := by rw [strL_ne w1 w2]; simp [hxx]
          have HX := Lib.hid hxx
          clear hxx
          go_wp2
          go_quiet (fail)
          go_wp2
          go_ret
          exact ⟨by rw [HN.out HX.out]; rfl, hB.drewN _⟩
      · have HE : Hid (decide (la = lb) = true) := by
          show _ = _
          rw [decide_eq_true_iff]
          have := HP.out
          rwa [List.take_of_length_le (by omega), List.take_of_length_le (by omega)] at this
        go_wp2
        go_ret
        exact ⟨by rw [HE.out]; rfl, hB⟩
  · go_enter Try.func10, Try.ntmps10
    go_wp2
    go_ret
    have : decide (la = lb) = false := by rw [decide_eq_false_iff_not]; intro e; rw [e] at hl; exact hl rfl
    exact ⟨by rw [this]; rfl, Below.refl _ _⟩
end Go.Proofs.Ytmchliaclnkbeaa.J
