/- The program's frame of a record: a new row with the bytes of size, sum and record; none outside the limits. Condition: the record reads. -/
import Derived.Test.YtmchliaclnkbeaaJFr
import Derived.OwnWalk
import Derived.Deep.DeepMust
import Derived.Deep.Cut
import Derived.Deep.CutRange
import Derived.Laws.AppendOwnNone
open Go Go.RowKit Go.Lib
namespace Go.Proofs.Ytmchliaclnkbeaa.J
set_option linter.unusedVariables false
set_option linter.unusedSimpArgs false
theorem info5 : (Try.prog.info? 5).map (fun i => (i.zero, i.size, i.bytes)) = some (some (.int .u8 0), 1, 1) := by kernel_rfl
def bv (l : List Int) : List Value := l.map (Value.int .u8)
theorem bv_length (l : List Int) : (bv l).length = l.length := by simp [bv]
/-- A slice, nil or not, that reads as one-cell values. -/
structure Src (w : World) (A : Option Addr) (c : Nat) (news : List Value) : Prop where
  nil : A = none → news = [] ∧ c = 0
  cells : ∀ j u, news[j]? = some u → ∃ ad, A = some ad ∧ w.cell? (ad.add j) = some u
  one : ∀ u ∈ news, u.oneCell' = true
theorem Src.ofB {w : World} {A : Option Addr} {c : Nat} {l : List Int} (hr : RdB w A l) (hc : A = none → c = 0) : Src w A c (bv l) := by
  refine ⟨fun e => ⟨?_, hc e⟩, ?_, ?_⟩
  · cases l with
    | nil => rfl
    | cons x l => obtain ⟨b, o, e2, _⟩ := hr 0 (by simp); rw [e] at e2; cases e2
  · intro j u hu
    simp only [bv, List.getElem?_map, Option.map_eq_some_iff] at hu
    obtain ⟨x, hx, rfl⟩ := hu
    obtain ⟨hj, rfl⟩ := List.getElem?_eq_some_iff.1 hx
    obtain ⟨b, o, e, hcell⟩ := hr j hj
    exact ⟨_, e, by unfold Addr.add; split <;> simp_all⟩
  · intro u hu
    simp only [bv, List.mem_map] at hu
    obtain ⟨x, _, rfl⟩ := hu
    rfl
/-- 'append' to what the call owns, of one-cell elements, from whatever slice is read. -/
theorem wpList_app {P : Program} {w : World} {ops : Array Oper} {rest : List Oper} {o : Oper} {a : Act} {Q : Exit → Act → World → Prop} (hgd : o.guard = none) (s x : Operand) (t : TypeId)
    (ho : o.op = .call { callee := .builtin .append, args := #[s, x], argTypes := #[t, t] })
    (base : Nat) (e : TypeId) (z : Value) (bytes : Nat) (ht : P.underlying t = some (.slice e)) (hi : (P.info? e).map (fun i => (i.zero, i.size, i.bytes)) = some (some z, 1, bytes)) (hzs : z.cells.size = 1)
    (v : Value) (n : Nat) (xs : List Value) (hs : a.eval s = v) (hown : w.ownsRow base e 1 v n xs)
    (A : Option Addr) (m c : Nat) (news : List Value) (hx : a.eval x = .slice A m c) (hm : news.length = m) (hsrc : Src w A c news)
    (h63 : n + m ≤ maxLen) (hbytes : (n + m) * bytes ≤ 140737488355328) (hbase : base ≤ w.heap.size)
    (h : ∀ v' w', w'.ownsRow base e 1 v' (n + m) (xs ++ news) → w.grownBy w' v.ownBlock → wpList P ops Q rest (a.put o.dst v') w') : wpList P ops Q (o :: rest) a w := by
  obtain ⟨i, hi0, hz, hsize, hby⟩ := info_parts hi
  cases A with
  | none =>
    obtain ⟨rfl, rfl⟩ := hsrc.nil rfl
    subst hm
    refine wpList_append_own_none hgd s x t ho base e i 1 ht hi0 v n xs hs hown hx ?_
    exact h v w (by simpa using hown) (World.grownBy.refl w _)
  | some ad =>
    refine wpList_append_own w hgd s x t ho base e i z 1 bytes ht hi0 hz hsize hby hzs (by decide) v n xs hs hown ad m c news hx (by omega) ?_ hsrc.one h63 hbytes hbase fun v' w' h2 h3 _ => h v' w' h2 h3
    intro j u hu
    obtain ⟨ad', e, hc⟩ := hsrc.cells j u hu
    cases e; exact hc
theorem Below.own {B : Nat} {a w w' : World} {v : Value} {base : Nat} {e : TypeId} {n : Nat} {xs : List Value} (h : Below B a w) (hown : w.ownsRow base e 1 v n xs) (hg : w.grownBy w' v.ownBlock) (hB : B ≤ w.heap.size) (hb : B ≤ base) : Below B a w' :=
  h.grown hg hB (fun k hk => Nat.le_trans hb (hown.lt k hk).1)
def be4 (v : Int) : List Int := [v / 16777216, v / 65536 % 256, v / 256 % 256, v % 256]
def frameL (l : List Int) : List Int := be4 l.length ++ be4 (crcC [be4 l.length, l]) ++ l
theorem put8 (cs : Array Value) (h : 8 ≤ cs.size) (a b : Int) : (put4 (put4 cs 0 a) 4 b).toList.take 8 = bv (be4 a ++ be4 b) := by
  rcases cs with ⟨l⟩
  match l, h with
  | x0 :: x1 :: x2 :: x3 :: x4 :: x5 :: x6 :: x7 :: tl, _ => rfl
theorem put4_size (cs : Array Value) (o : Nat) (v : Int) : (put4 cs o v).size = cs.size := by simp [put4]
set_option maxHeartbeats 400000 in
theorem frame_no (A : Option Addr) (l : List Int) (c : Nat) (w : World) (h : l.length < 1 ∨ 16384 < l.length) (hl : l.length ≤ maxLen) :
    Calls Try.prog 6 #[.slice A l.length c] w fun e w' => e = .returned (.tuple #[.slice none 0 0, .int .i64 1]) ∧ w = w' := by
  unfold maxLen at hl
  rcases h with h | h
  · have h0 : ((l.length : Int) == 0) = true := by rw [beq_iff_eq]; omega
    have h1 : ¬ 16384 < l.length := by omega
    go_enter Try.func6, Try.ntmps6
    go_wp2
    go_ret2
    exact ⟨rfl, rfl⟩
  · have h0 : ((l.length : Int) == 0) = false := by rw [beq_eq_false_iff_ne]; omega
    go_enter Try.func6, Try.ntmps6
    go_wp2
    go_ret2
    exact ⟨rfl, rfl⟩
theorem be4_range (v : Int) (h : 0 ≤ v ∧ v < 4294967296) : WfB (be4 v) := by
  intro x hx
  simp [be4] at hx
  omega
theorem crc2 (N g cg : Nat) (A : Option Addr) (l : List Int) (c : Nat) (v : Int) (W : World) (hv : 0 ≤ v ∧ v < 4294967296) (hb : Blk W N #[.slice (some ⟨g, 0, none⟩) 4 cg, .slice A l.length c] 22) (hc : 4 ≤ cg) (hl : l.length ≤ c)
    (h4 : RdB W (some ⟨g, 0, none⟩) (be4 v)) (hr : RdB W A l) (hw : WfB l) (hm : l.length ≤ maxLen) :
    Calls Try.prog 33 #[.slice (some ⟨N, 0, none⟩) 2 2] W fun e w' => e = .returned (.int .u32 (crcC [be4 v, l])) ∧ Below W.heap.size W w' := by
  refine crc_any (some ⟨N, 0, none⟩) [be4 v, l] 2 W (by simp [maxLen]) ?_ ?_ ?_
  · intro i hi
    match i, hi with
    | 0, _ => exact ⟨N, 0, _, _, rfl, hb.cell 0, hc, h4⟩
    | 1, _ => exact ⟨N, 0, _, _, rfl, hb.cell 1, hl, hr⟩
  · intro x hx
    simp at hx
    rcases hx with rfl | rfl
    · exact be4_range v hv
    · exact hw
  · intro x hx
    simp at hx
    rcases hx with rfl | rfl
    · simp [maxLen, be4]
    · exact hm
set_option maxHeartbeats 800000 in
set_option maxRecDepth 100000 in
theorem frame_ok (A : Option Addr) (l : List Int) (c : Nat) (w : World) (h1 : 1 ≤ l.length) (h2 : l.length ≤ 16384) (hc : l.length ≤ c) (hw : WfB l) (hr : RdB w A l) :
    Calls Try.prog 6 #[.slice A l.length c] w fun e w' => (∃ v, e = .returned (.tuple #[v, .int .i64 0]) ∧ w'.ownsRow w.heap.size 5 1 v (frameL l).length (bv (frameL l))) ∧ Below w.heap.size w w' := by
  have h0 : ((l.length : Int) == 0) = false := by rw [beq_eq_false_iff_ne]; omega
  obtain ⟨i0, hi0, hz0, hs0, hb0⟩ := info_parts info5
  have hmk := fun (w : World) => run_make (P := Try.prog) w 22 5 i0 (.int .u8 0) Try.underlying22 hi0 hz0 .i64 .i64 8 (8 + (l.length : Int)) (by omega) (by omega) (by rw [hb0]; omega) (by omega)
  rw [hs0] at hmk
  have hn : (8 + (l.length : Int)).toNat * 1 = 8 + l.length := by omega
  simp only [hn] at hmk
  have hn2 : (8 + (l.length : Int)).toNat = 8 + l.length := by omega
  simp only [hn2] at hmk
  generalize hcs : madeCells (Value.int .u8 0).cells (8 + l.length) = cs at hmk
  have hcsz : cs.size = 8 + l.length := by rw [← hcs]; exact size_madeCells _ _
  clear hcs
  go_enter Try.func6, Try.ntmps6
  go_upto_region 5 with (first | (go_at_call 32; refine (lay_any _ _ _ _ _ cs _ (by omega) (by omega) (by omega) (by omega) (Blk.new _ _ _) (by omega)).mono ?_; rintro e w1 ⟨rfl, hg1, hk1⟩))
  have hlt1 := hk1.lt
  have h4 : RdB w1 (some ⟨w.heap.size, 0, none⟩) (be4 l.length) := hk1.rdB (by
    intro i hi
    rcases cs with ⟨q⟩
    match q, i, hi with
    | x0 :: x1 :: x2 :: x3 :: tl, 0, _ | x0 :: x1 :: x2 :: x3 :: tl, 1, _ | x0 :: x1 :: x2 :: x3 :: tl, 2, _ | x0 :: x1 :: x2 :: x3 :: tl, 3, _ => rfl
    | [], _, _ | [_], _, _ | [_, _], _, _ | [_, _, _], _, _ => simp at hcsz; omega)
  have hB1 : Below w.heap.size w w1 := (((Chg.refl (fun k => k = w.heap.size) w).alloc _).trans hg1).fresh (fun k hk e => by omega)
  have hr1 : RdB w1 A l := hr.below hB1 (Nat.le_refl _)
  go_cut [] from 22 to 29 (fun w3 => Blk w3 w.heap.size (put4 (put4 cs 0 ↑l.length) 4 (crcC [be4 ↑l.length, l])) 5 ∧ Below w.heap.size w w3)
  case first =>
    go_region_with (first
      | (go_at_call 33; refine (crc2 _ _ _ _ l _ (l.length : Int) _ (by omega) (by exact (Blk.new _ _ _).drew) (by omega) hc (by repeat (first | exact h4 | apply RdB.alloc | apply RdB.drew)) (by repeat (first | exact hr1 | apply RdB.alloc | apply RdB.drew)) hw (by unfold maxLen; omega)).mono ?_; rintro e w2 ⟨rfl, hb2⟩)
      | (go_at_call 32; refine (lay_any _ _ _ _ _ (put4 cs 0 l.length) _ (by omega) (by omega) (by omega) (crcC_range _) (by exact (hk1.alloc _).drew.below ‹_› (Nat.lt_of_lt_of_le hlt1 (by simp))) (by rw [put4_size]; omega)).mono ?_; rintro e w3 ⟨rfl, hg3, hk3⟩))
    go_wp2_with fail
    go_meet
    case rel =>
      have s1 := hB1.size
      have s2 := hb2.size
      have hb3 : Below w.heap.size w w2 := hB1.trans ((((Below.refl w.heap.size w1).alloc (by omega) _).drew).trans (hb2.mono (by simp; omega)))
      exact ⟨hk3, (((Chg.of_below hb3).then hg3 (fun i hi e => by omega) : Chg (fun _ => False) w w3)).below⟩
  case rest =>
    obtain ⟨hk3, hB3⟩ := hcut
    have hf1 : RdB wc A l := hr.below hB3 (Nat.le_refl _)
    have hsz := hk3.lt
    have hown : wc.ownsRow w.heap.size 5 1 (.slice (some ⟨w.heap.size, 0, none⟩) 8 (8 + l.length)) (bv (be4 l.length ++ be4 (crcC [be4 l.length, l]))).length (bv (be4 l.length ++ be4 (crcC [be4 l.length, l]))) :=
      ⟨by simp, Or.inr ⟨_, _, _, rfl, Nat.le_refl _, hk3, by show 8 ≤ _; omega, by unfold maxLen; omega, by rw [put4_size, put4_size]; omega, put8 cs (by omega) _ _⟩⟩
    have hsrc : Src wc A c (bv l) := Src.ofB hf1 (fun e => by obtain ⟨b, o, e2, _⟩ := hr 0 (by omega); rw [e] at e2; cases e2)
    have hown' : wc.ownsRow w.heap.size 5 1 (.slice (some ⟨w.heap.size, 0, none⟩) 8 (8 + l.length)) 8 (bv (be4 l.length ++ be4 (crcC [be4 l.length, l]))) := hown
    clear hown
    go_wp2_with (at_builtin; go_must (refine wpList_app rfl (.tmp 30) (.tmp 31) 22 rfl w.heap.size 5 (.int .u8 0) 1 Try.underlying22 info5 rfl _ _ _ rfl hown' A l.length c (bv l) rfl (bv_length l) hsrc (by unfold maxLen; omega) (by omega) (by omega) ?_; intro v' w4 hown4 hg4))
    go_ret2
    have hfr : (frameL l).length = 8 + l.length := by simp [frameL, be4]; omega
    refine ⟨⟨v', rfl, ?_⟩, Below.own hB3 hown' hg4 (by omega) (Nat.le_refl _)⟩
    rw [hfr]
    have : bv (frameL l) = bv (be4 l.length ++ be4 (crcC [be4 l.length, l])) ++ bv l := by simp [frameL, bv, List.map_append]
    rw [this]; exact hown4
end Go.Proofs.Ytmchliaclnkbeaa.J
