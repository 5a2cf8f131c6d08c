/- The next record by the program's rule is the one by the reference's rule; the two frames are one. Condition: the bytes are bytes. -/
import Derived.Test.YtmchliaclnkbeaaJMath
open Go Go.RowKit Go.Lib
namespace Go.Proofs.Ytmchliaclnkbeaa.J
set_option linter.unusedVariables false
set_option linter.unusedSimpArgs false
def numR (l : List Int) : Int := (l.getD 0 0 * 256 + l.getD 1 0) * 65536 + l.getD 2 0 * 256 + l.getD 3 0
def nextRok (l : List Int) : Prop := 8 < l.length ∧ 1 ≤ numR l ∧ numR l ≤ 16384 ∧ numR l ≤ (l.length : Int) - 8 ∧ frameR ((l.drop 8).take (numR l).toNat) = l.take (8 + (numR l).toNat)
instance (l : List Int) : Decidable (nextRok l) := by unfold nextRok; exact inferInstance
def nextR (l : List Int) : Option (List Int) := if nextRok l then some ((l.drop 8).take (numR l).toNat) else none
theorem or32_eq (n c : Int) (h0 : 0 ≤ n) (h1 : n * 256 + c < 4294967296) (h2 : 0 ≤ c ∧ c < 256) : or32 n c = n * 256 + c := by
  obtain ⟨n, rfl⟩ := Int.eq_ofNat_of_zero_le h0
  obtain ⟨c, rfl⟩ := Int.eq_ofNat_of_zero_le h2.1
  unfold or32
  have e : IntKind.u32.wrap ((n : Int) * 256) = ((2 ^ 8 * n : Nat) : Int) := by rw [IntKind.wrap_u32]; omega
  rw [e]
  unfold bits
  show IntKind.u32.wrap (((BitVec.ofInt 32 ((2 ^ 8 * n : Nat) : Int)) ||| (BitVec.ofInt 32 (c : Int))).toNat : Int) = _
  rw [BitVec.ofInt_natCast, BitVec.ofInt_natCast]
  simp only [BitVec.toNat_or, BitVec.toNat_ofNat]
  rw [Nat.mod_eq_of_lt (by omega : 2 ^ 8 * n < 2 ^ 32), Nat.mod_eq_of_lt (by omega : c < 2 ^ 32), ← Nat.two_pow_add_eq_or_of_lt (by omega : c < 2 ^ 8), IntKind.wrap_u32]
  omega
theorem rd4_eq (l : List Int) (hw : WfB l) (h4 : 4 ≤ l.length) : rd4 l = numR l := by
  match l, h4 with
  | a :: b :: c :: d :: r, _ =>
    have ha := hw a (by simp)
    have hb := hw b (by simp)
    have hc := hw c (by simp)
    have hd := hw d (by simp)
    simp only [rd4, numR, List.getD_cons_zero, List.getD_cons_succ]
    rw [or32_eq 0 a (by omega) (by omega) ha, or32_eq _ b (by omega) (by omega) hb, or32_eq _ c (by omega) (by omega) hc, or32_eq _ d (by omega) (by omega) hd]
    omega
theorem be4_num (l : List Int) (hw : WfB l) (h4 : 4 ≤ l.length) : be4 (numR l) = l.take 4 := by
  match l, h4 with
  | a :: b :: c :: d :: r, _ =>
    have ha := hw a (by simp)
    have hb := hw b (by simp)
    have hc := hw c (by simp)
    have hd := hw d (by simp)
    simp only [be4, numR, List.getD_cons_zero, List.getD_cons_succ, List.take_succ_cons, List.take_zero]
    congr 1
    · omega
    congr 1
    · omega
    congr 1
    · omega
    congr 1
    omega
theorem be4_inj (u v : Int) (hu : 0 ≤ u ∧ u < 4294967296) (hv : 0 ≤ v ∧ v < 4294967296) (h : be4 u = be4 v) : u = v := by
  simp only [be4, List.cons.injEq, and_true] at h
  omega
theorem numR_range (l : List Int) (hw : WfB l) (h4 : 4 ≤ l.length) : 0 ≤ numR l ∧ numR l < 4294967296 := by
  rw [← rd4_eq l hw h4]; exact rd4_range l
theorem ok_iff (l : List Int) (hw : WfB l) : nextRok l ↔ nextOk l := by
  unfold nextRok nextOk
  by_cases h8 : 8 < l.length
  · have e1 := rd4_eq l hw (by omega)
    have e2 := rd4_eq (l.drop 4) (hw.drop 4) (by simp; omega)
    rw [e1, e2]
    have hr := numR_range l hw (by omega)
    have hb := be4_num l hw (by omega)
    have hb2 := be4_num (l.drop 4) (hw.drop 4) (by simp; omega)
    have hr2 := numR_range (l.drop 4) (hw.drop 4) (by simp; omega)
    generalize hn : numR l = n at *
    generalize hm : numR (l.drop 4) = m at *
    have key : 1 ≤ n → n ≤ 16384 → n ≤ (l.length : Int) - 8 → (frameR ((l.drop 8).take n.toNat) = l.take (8 + n.toNat) ↔ crcC [l.take 4, (l.drop 8).take n.toNat] = m) := by
      intro k1 k2 k3
      have hlen : (((l.drop 8).take n.toNat).length : Int) = n := by simp; omega
      have hsplit : l.take (8 + n.toNat) = l.take 4 ++ (l.drop 4).take 4 ++ (l.drop 8).take n.toNat := by
        have s1 : l.take (8 + n.toNat) = l.take 8 ++ (l.drop 8).take n.toNat := List.take_add ..
        have s2 : l.take 8 = l.take 4 ++ (l.drop 4).take 4 := List.take_add (i := 4) (j := 4) ..
        rw [s1, s2]
      rw [crc_eq _ _ (hw.take 4) ((hw.drop 8).take _)]
      unfold frameR
      rw [hlen, hsplit, hb, ← hb2]
      constructor
      · intro h
        have h := List.append_cancel_right h
        have h := List.append_cancel_left h
        exact be4_inj _ _ (crcR_range _) hr2 h
      · intro h
        rw [h]
    constructor
    · rintro ⟨k0, k1, k2, k3, k4⟩
      exact ⟨by omega, k1, k2, k3, (key k1 k2 k3).1 k4⟩
    · rintro ⟨k0, k1, k2, k3, k4⟩
      exact ⟨h8, k1, k2, k3, (key k1 k2 k3).2 k4⟩
  · constructor
    · rintro ⟨k0, _⟩; omega
    · rintro ⟨k0, k1, k2, k3, _⟩; omega
theorem nextR_eq (l : List Int) (h : WfB l) : nextR l = nextL l := by
  unfold nextR nextL
  by_cases hk : nextOk l
  · rw [if_pos hk, if_pos ((ok_iff l h).2 hk), rd4_eq l h (by have := hk.1; omega)]
  · rw [if_neg hk, if_neg (fun x => hk ((ok_iff l h).1 x))]
/-- The two frames are one. -/
theorem frame_eq (l : List Int) (h : WfB l) (hl : l.length ≤ 16384) : frameL l = frameR l := by
  unfold frameL frameR
  rw [crc_eq _ _ (be4_range _ (by omega)) h]
end Go.Proofs.Ytmchliaclnkbeaa.J
