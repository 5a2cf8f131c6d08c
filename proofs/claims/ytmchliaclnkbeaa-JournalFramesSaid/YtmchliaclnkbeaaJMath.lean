/- The sum by the table of half bytes is the sum bit by bit. No program in sight. Condition: the bytes are bytes. -/
import Derived.Test.YtmchliaclnkbeaaJRefB
open Go Go.RowKit Go.Lib
namespace Go.Proofs.Ytmchliaclnkbeaa.J
set_option linter.unusedVariables false
set_option linter.unusedSimpArgs false
def toI (b : BitVec 32) : Int := (b.toNat : Int)
theorem toI_range (b : BitVec 32) : 0 ≤ toI b ∧ toI b < 4294967296 := by
  have := b.isLt
  unfold toI; omega
theorem ofInt_toI (b : BitVec 32) : BitVec.ofInt 32 (toI b) = b := by
  unfold toI
  rw [BitVec.ofInt_natCast]
  simp
theorem toI_ofInt (s : Int) (h : 0 ≤ s ∧ s < 4294967296) : toI (BitVec.ofInt 32 s) = s := by
  obtain ⟨n, rfl⟩ := Int.eq_ofNat_of_zero_le h.1
  unfold toI
  rw [BitVec.ofInt_natCast, BitVec.toNat_ofNat]
  omega
theorem xor_toI (a b : BitVec 32) : bits .xor .u32 (toI a) (toI b) = toI (a ^^^ b) := by
  unfold bits
  show IntKind.u32.wrap (((BitVec.ofInt 32 (toI a)) ^^^ (BitVec.ofInt 32 (toI b))).toNat : Int) = _
  rw [ofInt_toI, ofInt_toI, IntKind.wrap_u32]
  have := (a ^^^ b).isLt
  unfold toI; omega
theorem and_toI (a b : BitVec 32) : bits .and .u32 (toI a) (toI b) = toI (a &&& b) := by
  unfold bits
  show IntKind.u32.wrap (((BitVec.ofInt 32 (toI a)) &&& (BitVec.ofInt 32 (toI b))).toNat : Int) = _
  rw [ofInt_toI, ofInt_toI, IntKind.wrap_u32]
  have := (a &&& b).isLt
  unfold toI; omega
theorem div_toI (a : BitVec 32) (k : Nat) : toI a / 2 ^ k = toI (a >>> k) := by
  unfold toI
  rw [BitVec.toNat_ushiftRight, Nat.shiftRight_eq_div_pow]
  norm_cast
def PV : BitVec 32 := 3988292384#32
def g (y : BitVec 32) : BitVec 32 := (y >>> 1) ^^^ (if y.getLsbD 0 then PV else 0#32)
theorem g_xor (a b : BitVec 32) : g (a ^^^ b) = g a ^^^ g b := by
  unfold g
  rw [BitVec.getLsbD_xor]
  apply BitVec.eq_of_getLsbD_eq
  intro i hi
  cases ha : a.getLsbD 0 <;> cases hb : b.getLsbD 0 <;> simp [BitVec.getLsbD_xor, BitVec.getLsbD_ushiftRight, ha, hb] <;> cases a.getLsbD (1 + i) <;> cases b.getLsbD (1 + i) <;> cases PV.getLsbD i <;> rfl
def T (r : BitVec 32) : BitVec 32 := g (g (g (g r)))
theorem T_xor (a b : BitVec 32) : T (a ^^^ b) = T a ^^^ T b := by unfold T; simp only [g_xor]
theorem g_even (h : BitVec 32) (e : h.getLsbD 0 = false) : g h = h >>> 1 := by unfold g; rw [e]; simp
theorem T_high (y : BitVec 32) : T ((y >>> 4) <<< 4) = y >>> 4 := by
  have e0 : ((y >>> 4) <<< 4).getLsbD 0 = false := by simp
  have e1 : (((y >>> 4) <<< 4) >>> 1).getLsbD 0 = false := by simp
  have e2 : ((((y >>> 4) <<< 4) >>> 1) >>> 1).getLsbD 0 = false := by simp
  have e3 : (((((y >>> 4) <<< 4) >>> 1) >>> 1) >>> 1).getLsbD 0 = false := by simp
  unfold T
  rw [g_even _ e0, g_even _ e1, g_even _ e2, g_even _ e3]
  apply BitVec.eq_of_getLsbD_eq
  intro i hi
  simp [BitVec.getLsbD_ushiftRight, BitVec.getLsbD_shiftLeft]
  intro h
  have := BitVec.lt_of_getLsbD h
  omega
theorem lit15 : ∀ i, i < 32 → (15#32).getLsbD i = decide (i < 4) := by decide
theorem T_split (y : BitVec 32) : T y = T (y &&& 15#32) ^^^ (y >>> 4) := by
  have : y = (y &&& 15#32) ^^^ ((y >>> 4) <<< 4) := by
    apply BitVec.eq_of_getLsbD_eq
    intro i hi
    rw [BitVec.getLsbD_xor, BitVec.getLsbD_and, lit15 i hi]
    by_cases h : i < 4
    · simp [h]
    · simp [h, BitVec.getLsbD_shiftLeft, BitVec.getLsbD_ushiftRight, hi, show 4 + (i - 4) = i by omega]
  rw [← T_high y, ← T_xor, ← this]
theorem tab : ∀ m, m < 16 → halfL.getD m 0 = toI (T (BitVec.ofNat 32 m)) := by decide
theorem half_toI (r : BitVec 32) : half (toI r) = toI (T (r &&& 15#32)) := by
  unfold half
  have h1 : (toI r % 16).toNat = r.toNat % 16 := by unfold toI; omega
  have h2 : r &&& 15#32 = BitVec.ofNat 32 (r.toNat % 16) := by
    apply BitVec.eq_of_toNat_eq
    simp only [BitVec.toNat_and, BitVec.toNat_ofNat]
    show r.toNat &&& (2 ^ 4 - 1) = r.toNat % 16 % 4294967296
    rw [Nat.and_two_pow_sub_one_eq_mod]
    omega
  rw [h1, h2, tab _ (by omega)]
theorem stepC_toI (s x : BitVec 32) : stepC (toI s) (toI x) = toI (T (T (s ^^^ x))) := by
  unfold stepC x32
  have d : ∀ a : BitVec 32, toI a / (16 : Int) = toI (a >>> 4) := fun a => div_toI a 4
  rw [xor_toI, half_toI, d, xor_toI, ← T_split, half_toI, d, xor_toI, ← T_split]
theorem bstep_toI (s x : BitVec 32) (k : Nat) : bstep (toI x) (toI s) k = toI ((s >>> 1) ^^^ (if (s ^^^ (x >>> k)).getLsbD 0 then PV else 0#32)) := by
  unfold bstep
  have h1 : toI x / 2 ^ k % 4294967296 = toI (x >>> k) := by
    rw [div_toI]
    have := toI_range (x >>> k)
    omega
  have h2 : bits .and .u32 (toI (s ^^^ (x >>> k))) 1 = toI ((s ^^^ (x >>> k)) &&& 1#32) := and_toI _ 1#32
  have h3 : toI s / (2 : Int) = toI (s >>> 1) := div_toI s 1
  have h4 : bits .xor .u32 (toI (s >>> 1)) 3988292384 = toI ((s >>> 1) ^^^ PV) := xor_toI _ PV
  rw [h1, xor_toI, h2, h3, h4]
  have h5 : (toI ((s ^^^ (x >>> k)) &&& 1#32) == 1) = (s ^^^ (x >>> k)).getLsbD 0 := by
    generalize s ^^^ (x >>> k) = y
    have : y &&& 1#32 = BitVec.ofNat 32 (y.toNat % 2) := by
      apply BitVec.eq_of_toNat_eq
      simp only [BitVec.toNat_and, BitVec.toNat_ofNat]
      show y.toNat &&& 1 = y.toNat % 2 % 4294967296
      rw [Nat.and_one_is_mod]
      omega
    rw [this]
    have e : y.getLsbD 0 = decide (y.toNat % 2 = 1) := by
      rw [BitVec.getLsbD, Nat.testBit_zero]
    rw [e, Bool.eq_iff_iff]
    unfold toI
    rw [BitVec.toNat_ofNat, beq_iff_eq, decide_eq_true_iff]
    omega
  rw [h5]
  split <;> simp
theorem gk (s x : BitVec 32) (k : Nat) : ((s >>> 1) ^^^ (if (s ^^^ (x >>> k)).getLsbD 0 then PV else 0#32)) ^^^ (x >>> (k + 1)) = g (s ^^^ (x >>> k)) := by
  unfold g
  have : (s ^^^ (x >>> k)) >>> 1 = (s >>> 1) ^^^ (x >>> (k + 1)) := by
    rw [BitVec.ushiftRight_xor_distrib, ← BitVec.shiftRight_add]
  rw [this, BitVec.xor_assoc, BitVec.xor_comm _ (x >>> (k + 1)), ← BitVec.xor_assoc]
def it (s x : BitVec 32) : Nat → BitVec 32
  | 0 => s
  | k + 1 => (it s x k >>> 1) ^^^ (if (it s x k ^^^ (x >>> k)).getLsbD 0 then PV else 0#32)
theorem fold_it (s x : BitVec 32) (m : Nat) : (List.range m).foldl (bstep (toI x)) (toI s) = toI (it s x m) := by
  induction m with
  | zero => rfl
  | succ m ih => rw [List.range_succ, List.foldl_append, ih]; show bstep _ _ _ = _; rw [bstep_toI]; rfl
def gi (y : BitVec 32) : Nat → BitVec 32
  | 0 => y
  | k + 1 => g (gi y k)
theorem it_g (s x : BitVec 32) (m : Nat) : it s x m ^^^ (x >>> m) = gi (s ^^^ x) m := by
  induction m with
  | zero => simp [it, gi]
  | succ m ih => show (_ ^^^ _) ^^^ _ = g (gi _ m); rw [← ih, gk]
theorem byteR_toI (s x : BitVec 32) (hx : x.toNat < 256) : byteR (toI s) (toI x) = toI (T (T (s ^^^ x))) := by
  unfold byteR
  rw [fold_it]
  have h := it_g s x 8
  have : x >>> 8 = 0#32 := by
    apply BitVec.eq_of_toNat_eq
    rw [BitVec.toNat_ushiftRight, Nat.shiftRight_eq_div_pow]
    show x.toNat / 2 ^ 8 = 0
    omega
  rw [this, BitVec.xor_zero] at h
  rw [h]; rfl
theorem step_eq (s x : Int) (hs : 0 ≤ s ∧ s < 4294967296) (hx : 0 ≤ x ∧ x < 256) : stepC s x = byteR s x := by
  have e1 := toI_ofInt s hs
  have e2 := toI_ofInt x (by omega)
  rw [← e1, ← e2, stepC_toI, byteR_toI]
  have : toI (BitVec.ofInt 32 x) < 256 := by rw [e2]; exact hx.2
  unfold toI at this
  omega
theorem fold_eq (l : List Int) (hw : WfB l) : ∀ s : Int, 0 ≤ s ∧ s < 4294967296 → l.foldl stepC s = l.foldl byteR s := by
  induction l with
  | nil => intro s _; rfl
  | cons x l ih =>
    intro s hs
    have hx := hw x (by simp)
    rw [List.foldl_cons, List.foldl_cons, step_eq s x hs hx]
    exact ih (fun y hy => hw y (by simp [hy])) _ (bfold_range x s hs 8)
theorem not_not (c : Int) (h : 0 ≤ c ∧ c < 4294967296) : not32 (not32 c) = c := by
  rw [← toI_ofInt c h]
  generalize BitVec.ofInt 32 c = b
  have e : (4294967295 : Int) = toI 4294967295#32 := rfl
  unfold not32 x32
  rw [e, xor_toI, xor_toI, ← BitVec.xor_assoc, BitVec.xor_self, BitVec.zero_xor]
theorem not_zero : not32 0 = 4294967295 := by decide
theorem stepC_range (s x : Int) : 0 ≤ stepC s x ∧ stepC s x < 4294967296 := x32_range _ _
theorem crc_eq (a b : List Int) (ha : WfB a) (hb : WfB b) : crcC [a, b] = crcR (a ++ b) := by
  have hm : (0 : Int) ≤ 4294967295 ∧ (4294967295 : Int) < 4294967296 := by omega
  have hab : WfB (a ++ b) := fun x hx => by rcases List.mem_append.1 hx with h | h; exact ha x h; exact hb x h
  show addC (addC 0 a) b = _
  unfold addC
  rw [not_zero]
  have hr : 0 ≤ a.foldl stepC 4294967295 ∧ a.foldl stepC 4294967295 < 4294967296 := by
    rw [fold_eq a ha _ hm]; exact foldB_range a _ hm
  rw [not_not _ hr, ← List.foldl_append, fold_eq _ hab _ hm]
  rfl
end Go.Proofs.Ytmchliaclnkbeaa.J
