/-
  YtoafoodgomnfeaaWordsIt: the iterator over a card's used words.
-/
import Derived.Test.YtoafoodgomnfeaaStore
import Derived.RangeFuncNested
import Derived.RangeFuncBound
import Derived.RangeFuncCalls
import Derived.RangeFuncLeaves
import Derived.Shelf.Abstract
import Derived.Shelf.RegionOpen
import Derived.OwnWalkIn
import Derived.TacticsInMore
import Derived.LoopNIn
import Derived.LoopIn
import Derived.Sort.QuietIn
namespace Go.Proofs.Ytoafoodgomnfeaa
open Go.RowKit Go.Shelf
set_option linter.unusedVariables false
attribute [local go_sem] Oper.semAt_some

theorem wide_fn (f : FuncId) : Fence.wide.fn f = True := rfl
attribute [local go_sem] wide_fn
/-- A word: a number of 64 bits. -/
abbrev U64 := { x : Int // 0 ≤ x ∧ x ≤ 18446744073709551615 }
/-- Blocks below N0 but mk lie as they lay. -/
def Kept (N0 mk : Nat) (W W' : World) : Prop := W.heap.size ≤ W'.heap.size ∧ ∀ k, k < N0 → k ≠ mk → W'.heap[k]? = W.heap[k]?
theorem Kept.refl (N0 mk : Nat) (W : World) : Kept N0 mk W W := ⟨Nat.le_refl _, fun _ _ _ => rfl⟩
theorem Kept.trans {N0 mk : Nat} {A B C : World} (h : Kept N0 mk A B) (k : Kept N0 mk B C) : Kept N0 mk A C := ⟨Nat.le_trans h.1 k.1, fun i h1 h2 => (k.2 i h1 h2).trans (h.2 i h1 h2)⟩
theorem Kept.drew {N0 mk : Nat} {A B : World} (h : Kept N0 mk A B) : Kept N0 mk A B.drew := h
theorem Kept.drewN {N0 mk : Nat} {A B : World} (h : Kept N0 mk A B) (q : Nat) : Kept N0 mk A (B.drewN q) := h
theorem Kept.cell {N0 mk : Nat} {W W' : World} (h : Kept N0 mk W W') {p : Addr} {v : Value} (hc : W.cell? p = some v) (h1 : p.block < N0) (h2 : p.block ≠ mk) : W'.cell? p = some v := by
  rw [World.cell?_of_block (w := W) (h.2 _ h1 h2)]; exact hc
theorem Kept.frozen {N0 mk : Nat} {W W' : World} (h : Kept N0 mk W W') {p : Addr} (h1 : p.block < N0) (h2 : p.block ≠ mk) : W'.frozen? p = W.frozen? p := World.frozen?_of_block (w := W) (h.2 _ h1 h2)
theorem MemAt.kept {N0 mk : Nat} {w w' : World} {mb sb n : Nat} {M : MemS} (h : MemAt w mb sb n M) (ho : Kept N0 mk w w') (h1 : mb < N0) (h1' : mb ≠ mk) (h2 : sb < N0) (h2' : sb ≠ mk) : MemAt w' mb sb n M :=
  ⟨ho.cell h.segs h1 h1', ho.cell h.count h1 h1', ho.cell h.free h1 h1', fun j => (ho.frozen (p := ⟨mb, j, none⟩) h1 h1').trans (h.fz j), h.ne,
    fun k hk j hj => ⟨ho.cell (h.body k hk j hj).1 h2 h2', (ho.frozen (p := ⟨sb, k * 72 + j, none⟩) h2 h2').trans (h.body k hk j hj).2⟩⟩

theorem MemAt.drewN {w : World} {mb sb n : Nat} {M : MemS} (h : MemAt w mb sb n M) (q : Nat) : MemAt (w.drewN q) mb sb n M := ⟨h.segs, h.count, h.free, h.fz, h.ne, h.body⟩

def cntW (N : Int) (c : Nat) : Nat := min 16 (N - 16 * c).toNat
def wU {s : SegS} (K : SegKc s) (j : Nat) : U64 := ⟨s.words j, K.word j⟩
/-- The first i words of card c. -/
def wordsUp {s : SegS} (K : SegKc s) (c i : Nat) : List U64 := (List.range i).map fun j => wU K (16 * c + j)
theorem wordsUp_len {s : SegS} (K : SegKc s) (c i : Nat) : (wordsUp K c i).length = i := by simp [wordsUp]
theorem wordsUp_succ {s : SegS} (K : SegKc s) (c i : Nat) : wordsUp K c (i + 1) = wordsUp K c i ++ [wU K (16 * c + i)] := by simp [wordsUp, List.range_succ]

set_option maxHeartbeats 2000000 in
set_option maxRecDepth 100000 in
theorem words_stops (m : Nat) (hm : 1 ≤ m) (N0 mk b1 b2 b3 cb pb mb sb n k c : Nat) {M : MemS} {C : Nat → Int} (w : World) (H : CardAt w cb pb mb sb n M C) (hn : n ≤ 1024) (hk : k < n) (hc : c < 4) (ht : (M.S k).taken ≠ 0) (hu0 : 0 ≤ (M.S k).n) (hu : (M.S k).n ≤ 64)
    (K : SegKc (M.S k)) (l1 : b1 < N0 ∧ b1 ≠ mk) (l2 : b2 < N0 ∧ b2 ≠ mk) (l3 : b3 < N0 ∧ b3 ≠ mk) (l4 : cb < N0 ∧ cb ≠ mk) (l5 : pb < N0 ∧ pb ≠ mk) (l6 : mb < N0 ∧ mb ≠ mk) (l7 : sb < N0 ∧ sb ≠ mk) (hN : N0 ≤ w.heap.size)
    (c1 : w.cell? ⟨b1, 0, none⟩ = some (.pointer (some ⟨cb, 0, none⟩))) (c2 : w.cell? ⟨b2, 0, none⟩ = some (.int .i64 k)) (c3 : w.cell? ⟨b3, 0, none⟩ = some (.int .i64 c)) :
    SeqStopsK Fence.wide m Try.prog 94 #[.pointer (some ⟨b1, 0, none⟩), .pointer (some ⟨b2, 0, none⟩), .pointer (some ⟨b3, 0, none⟩)] (fun x : U64 => #[.int .u64 x.1]) (Kept N0 mk)
      (fun xs => xs = wordsUp K c (cntW (M.S k).n c)) (fun _ => True) 16 w := fun l J Jx W hW hJ hJx hY h0 => by
  have H0 := Lib.hid H
  have hrd : ∀ W', MemAt W' mb sb n M → ∀ i : Nat, i < cntW (M.S k).n c → Calls Try.prog 21 #[.pointer (some ⟨mb, 0, none⟩), .int .i64 (k * 64 + c * 16 + i)] W' fun e w' => e = .returned (.tuple #[.int .u64 (wU K (16 * c + i)).1, .int .i64 0]) ∧ W' = w' := fun W' H i hi => by
    have hi2 : i < 16 ∧ 16 * c + i < (M.S k).n := by unfold cntW at hi; omega
    have e1 : (((k : Int) * 64 + c * 16 + i) / 64).toNat = k := by omega
    have e2 : (((k : Int) * 64 + c * 16 + i) % 64).toNat = 16 * c + i := by omega
    have hx : M.hasWord n ((k : Int) * 64 + c * 16 + i) := ⟨by omega, ⟨by omega, by omega, by rw [e1]; exact ht⟩, by rw [e1]; omega⟩
    have := read_some H hn ((k : Int) * 64 + c * 16 + i) (by omega) hx
    rw [e1, e2] at this
    exact this
  have hrn : ∀ W', MemAt W' mb sb n M → ∀ i : Nat, i < 16 → cntW (M.S k).n c ≤ i → Calls Try.prog 21 #[.pointer (some ⟨mb, 0, none⟩), .int .i64 (k * 64 + c * 16 + i)] W' fun e w' => e = .returned (.tuple #[.int .u64 0, .int .i64 18]) ∧ W' = w' := fun W' H i hi16 hi => by
    have hi2 : (M.S k).n ≤ 16 * c + i := by unfold cntW at hi; omega
    have e1 : (((k : Int) * 64 + c * 16 + i) / 64).toNat = k := by omega
    have hx : ¬ M.hasWord n ((k : Int) * 64 + c * 16 + i) := fun h => by
      have h3 := h.2.2
      rw [e1] at h3
      omega
    exact read_none H hn ((k : Int) * 64 + c * 16 + i) (by omega) hx
  have hcnt : cntW (M.S k).n c ≤ 16 := by unfold cntW; omega
  generalize cntW (M.S k).n c = cnt at hrd hrn hcnt ⊢
  have Hrd := Lib.hid hrd
  have Hrn := Lib.hid hrn
  have Kb : Kept N0 mk w W := ⟨hW.size, fun i hi _ => hW.block i (by omega)⟩
  have HY := Lib.hid hY
  clear hrd hrn hY H
  have q1 : (0 : Int) ≤ (k : Int) := by omega
  have q2 : (k : Int) ≤ 1024 := by omega
  have q3 : (0 : Int) ≤ (c : Int) := by omega
  have q4 : (c : Int) ≤ 4 := by omega
  refine callsIn_of_wp Try.func94 rfl trivial ?_ rfl
  simp only [Try.ntmps94, List.size_toArray, List.length_cons, List.length_nil, Nat.reduceAdd, Nat.reduceSub, Array.replicate_succ, Array.replicate_zero, List.push_toArray, List.append_toArray, List.nil_append, List.cons_append]
  gi_wp2
  gi_loopw [8] (fun v wr => ∃ i : Nat, i ≤ cnt ∧ v = .int .i64 i ∧ Kept N0 mk w wr ∧ J (wordsUp K c i) wr) (fun v _ => 17 - (intOf v).toNat)
  case atStart => exact ⟨0, by omega, rfl, Kb, h0⟩
  case round =>
    obtain ⟨i, hi, rfl, hK, hJi⟩ := hrel
    have d1 := hK.cell c1 l1.1 l1.2
    have d2 := hK.cell c2 l2.1 l2.2
    have d3 := hK.cell c3 l3.1 l3.2
    have d4 := hK.cell H0.out.ptr l4.1 l4.2
    have d5 := hK.cell H0.out.sp.ptr l5.1 l5.2
    have HM := Lib.hid (H0.out.sp.mem.kept hK l6.1 l6.2 l7.1 l7.2)
    have HK := Lib.hid hK
    have HJ := Lib.hid hJi
    clear hK hJi
    by_cases hlt : i < cnt
    · have hi16 : i < 16 := by omega
      have hq : ∀ m' q, CallsIn Fence.wide m' Try.prog 21 #[.pointer (some ⟨mb, 0, none⟩), .int .i64 (k * 64 + c * 16 + i)] (wr.drewN q) fun e w'' => e = .returned (.tuple #[.int .u64 (wU K (16 * c + i)).1, .int .i64 0]) ∧ ∃ m, w'' = wr.drewN m :=
        fun m' q => callsIn_wide.2 ((Hrd.out _ (HM.out.drewN q) i hlt).mono fun _ _ h => ⟨h.1, q, h.2.symm⟩)
      have Hq := Lib.hid hq
      clear hq
      gi_wp2
      gi_quiet ((gi_at_call 21; exact Hq.out _ _))
      have HK2 : Kept N0 mk w (wr.drewN nq) := HK.out.drewN nq
      have HJ2 : J (wordsUp K c i) (wr.drewN nq) := hJ _ _ _ none HJ.out ⟨rfl, rfl, rfl, Nat.le_refl _, fun _ _ _ => rfl⟩ (fun r e => by cases e)
      generalize wr.drewN nq = w2 at HK2 HJ2 ⊢
      obtain ⟨fn, tmps, assign, body, hy, hR⟩ := HY.out (wordsUp K c i) (wU K (16 * c + i)) w2 HJ2 (by rw [wordsUp_len]; omega)
      have HR := Lib.hid hR
      have HK3 := Lib.hid HK2
      clear hR d1 d2 d3 d4 d5 HM HJ HK HK2 HJ2 Hq
      gi_wp2
      refine HR.out.mono ?_
      rintro e W' (⟨rfl, hJ', hk⟩ | ⟨rfl, hJx'⟩)
      · have HJ' := Lib.hid hJ'
        have Hk' := Lib.hid (HK3.out.trans hk)
        clear hJ' hk hy
        gi_wp2
        go_roundw
        case rel => exact ⟨i + 1, by omega, by go_num, Hk'.out, by rw [wordsUp_succ]; exact HJ'.out⟩
        case measure => simp [intOf]; omega
      · gi_wp2
        refine bodyPost_ret (results_none rfl _ _ _) rfl ?_
        exact ⟨⟨_, rfl⟩, .inr ⟨_, trivial, hJx'⟩⟩
    · obtain rfl : i = cnt := by omega
      by_cases h16 : i < 16
      · have hq : ∀ m' q, CallsIn Fence.wide m' Try.prog 21 #[.pointer (some ⟨mb, 0, none⟩), .int .i64 (k * 64 + c * 16 + i)] (wr.drewN q) fun e w'' => e = .returned (.tuple #[.int .u64 0, .int .i64 18]) ∧ ∃ m, w'' = wr.drewN m :=
          fun m' q => callsIn_wide.2 ((Hrn.out _ (HM.out.drewN q) i h16 (Nat.le_refl _)).mono fun _ _ h => ⟨h.1, q, h.2.symm⟩)
        have Hq := Lib.hid hq
        clear hq
        gi_wp2
        gi_quiet ((gi_at_call 21; exact Hq.out _ _))
        have HJ2 : J (wordsUp K c i) (wr.drewN nq) := hJ _ _ _ none HJ.out ⟨rfl, rfl, rfl, Nat.le_refl _, fun _ _ _ => rfl⟩ (fun r e => by cases e)
        generalize wr.drewN nq = w2 at HJ2 ⊢
        clear d1 d2 d3 d4 d5 HM HJ HK Hq
        have HJ3 := Lib.hid HJ2
        clear HJ2
        gi_wp2
        refine bodyPost_ret (results_none rfl _ _ _) rfl ?_
        exact ⟨⟨_, rfl⟩, .inl ⟨_, rfl, HJ3.out⟩⟩
      · clear d1 d2 d3 d4 d5
        gi_wp2
        go_end0
        exact ⟨⟨_, rfl⟩, .inl ⟨_, rfl, HJ.out⟩⟩
end Go.Proofs.Ytoafoodgomnfeaa
