/-
  YtoafoodgomnfeaaSeg: what package seg's functions do to a memory, a contract a function and a case.
-/
import Derived.Test.YtoafoodgomnfeaaMem
namespace Go.Proofs.Ytoafoodgomnfeaa
open Go.RowKit
set_option linter.unusedVariables false

theorem free_any (mb : Nat) (fr : Int) (w : World) (h2 : w.cell? ⟨mb, 2, none⟩ = some (.int .i64 fr)) :
    Calls Try.prog 15 #[.pointer (some ⟨mb, 0, none⟩)] w fun e w' => e = .returned (.int .i64 fr) ∧ w = w' := by
  go_enter Try.func15, Try.ntmps15
  go_wp2
  go_ret
  exact ⟨rfl, rfl⟩

set_option maxHeartbeats 400000 in
theorem take_arg (mb sb n cap : Nat) (gen kind : Int) (w : World) (h0 : w.cell? ⟨mb, 0, none⟩ = some (.slice (some ⟨sb, 0, none⟩) n cap))
    (hn : 0 < n) (h : gen < 0 ∨ 4 < gen ∨ kind < 0 ∨ 3 < kind) :
    Calls Try.prog 16 #[.pointer (some ⟨mb, 0, none⟩), .int .i64 gen, .int .i64 kind] w fun e w' => e = .returned (.tuple #[.int .i64 0, .int .i64 1]) ∧ w = w' := by
  rcases h with h | h | h | h
  · go_enter Try.func16, Try.ntmps16
    go_wp2
    go_ret2
    exact ⟨rfl, rfl⟩
  · have h' : ¬ gen < 0 := by omega
    go_enter Try.func16, Try.ntmps16
    go_wp2
    go_ret2
    exact ⟨rfl, rfl⟩
  · by_cases h1 : gen < 0
    · go_enter Try.func16, Try.ntmps16
      go_wp2
      go_ret2
      exact ⟨rfl, rfl⟩
    by_cases h2 : 4 < gen
    · go_enter Try.func16, Try.ntmps16
      go_wp2
      go_ret2
      exact ⟨rfl, rfl⟩
    · go_enter Try.func16, Try.ntmps16
      go_wp2
      go_ret2
      exact ⟨rfl, rfl⟩
  · by_cases h1 : gen < 0
    · go_enter Try.func16, Try.ntmps16
      go_wp2
      go_ret2
      exact ⟨rfl, rfl⟩
    by_cases h2 : 4 < gen
    · go_enter Try.func16, Try.ntmps16
      go_wp2
      go_ret2
      exact ⟨rfl, rfl⟩
    · have h' : ¬ kind < 0 := by omega
      go_enter Try.func16, Try.ntmps16
      go_wp2
      go_ret2
      exact ⟨rfl, rfl⟩
set_option maxRecDepth 100000 in
set_option maxHeartbeats 1000000 in
theorem take_ok (mb sb n k : Nat) (gen kind : Int) (M : MemS) (w : World) (H : MemAt w mb sb n M) (hn1 : n ≤ 1024) (hg0 : 0 ≤ gen) (hg : gen ≤ 4) (hk0 : 0 ≤ kind) (hk : kind ≤ 3)
    (hkn : k < n) (hfr : 0 < M.free) (hfr2 : M.free ≤ 1024) (hc0 : 0 ≤ M.count) (hcnt : M.count ≤ 1000000) (hfree : (M.S k).taken = 0) (hall : ∀ i, i < k → 0 < (M.S i).taken) :
    Calls Try.prog 16 #[.pointer (some ⟨mb, 0, none⟩), .int .i64 gen, .int .i64 kind] w fun e w' => e = .returned (.tuple #[.int .i64 k, .int .i64 0]) ∧
      MemAt w' mb sb n (MemS.put { M with count := M.count + 1, free := M.free - 1 } k (fresh gen kind (M.count + 1))) ∧ Off [mb, sb] w w' := by
  have h0 := H.segs
  have h1 := H.count
  have h2 := H.free
  have f1 := H.fz 1
  have f2 := H.fz 2
  have e0 : ((n : Int) == 0) = false := beq_eq_false_iff_ne.2 (by omega)
  have e1 : (M.free == 0) = false := beq_eq_false_iff_ne.2 (by omega)
  have HH := Lib.hid H
  have Hall := Lib.hid hall
  have Hfree := Lib.hid hfree
  clear H hall hfree
  go_enter Try.func16, Try.ntmps16
  go_wp2
  go_loop [8] (fun i => ∃ j : Nat, j ≤ k ∧ i = .int .i64 j) (fun i => k - (intOf i).toNat)
  case atStart => exact ⟨0, by omega, rfl⟩
  case round =>
    obtain ⟨j, hj, rfl⟩ := hrel
    have ht := HH.out.taken (k := j) (by omega)
    by_cases hjk : j < k
    · have hp := Hall.out j hjk
      go_wp2
      go_round
      case rel => exact ⟨j + 1, by omega, by go_num⟩
      case measure => simp [intOf]; omega
    · obtain rfl : j = k := by omega
      rw [Hfree.out] at ht
      go_wp2
      refine region_tail 15 (by kernel_rfl) (by kernel_rfl) ?_
      intro w2 hw2
      simp only [List.take_succ_cons, List.take_zero, List.drop_succ_cons, List.drop_zero]
      have H2 : MemAt w2 mb sb n { M with count := M.count + 1, free := M.free - 1 } := by rw [← hw2]; exact ((HH.out.setCount _).setFree _).drew
      have O2 : Off [mb, sb] w w2 := by rw [← hw2]; exact (((Off.refl _ _).setCell (by simp) _).setCell (by simp) _).drew
      have g0 := H2.segs
      have g1 := H2.count
      have HH2 := Lib.hid H2
      clear H2
      simp only [] at g0 g1
      clear hw2 h0 h1 h2 f1 f2
      repeat still_step
      refine wpStill_nil ?_
      refine wpList_store_mid rfl 110 _ _ rfl sb (j * 72) _ rfl rfl ?_ (by kernel_rfl) (SegS.arr_one _) ?_
      · rw [SegS.arr_size]; exact HH2.out.body.there hkn
      go_wp2
      go_ret2
      exact ⟨rfl, HH2.out.setSeg hkn (fresh gen kind (M.count + 1)), O2.setCells sb (by simp) _ _⟩
set_option maxHeartbeats 400000 in
theorem take_full (mb sb n cap : Nat) (gen kind : Int) (w : World) (h0 : w.cell? ⟨mb, 0, none⟩ = some (.slice (some ⟨sb, 0, none⟩) n cap)) (h2 : w.cell? ⟨mb, 2, none⟩ = some (.int .i64 0))
    (hn : 0 < n) (hg0 : 0 ≤ gen) (hg : gen ≤ 4) (hk0 : 0 ≤ kind) (hk : kind ≤ 3) :
    Calls Try.prog 16 #[.pointer (some ⟨mb, 0, none⟩), .int .i64 gen, .int .i64 kind] w fun e w' => e = .returned (.tuple #[.int .i64 0, .int .i64 2]) ∧ w = w' := by
  have e0 : ((n : Int) == 0) = false := beq_eq_false_iff_ne.2 (by omega)
  go_enter Try.func16, Try.ntmps16
  go_wp2
  go_ret2
  exact ⟨rfl, rfl⟩

/-- 'at' of a segment that is taken. -/
theorem at_yes (mb sb n cap k : Nat) (t x : Int) (w : World) (hk : k < n) (hn : n ≤ 1024) (hx : x = k)
    (h0 : w.cell? ⟨mb, 0, none⟩ = some (.slice (some ⟨sb, 0, none⟩) n cap)) (ht : w.cell? ⟨sb, k * 72 + 7, none⟩ = some (.int .i64 t)) (h3 : (t == 0) = false) :
    Calls Try.prog 54 #[.pointer (some ⟨mb, 0, none⟩), .int .i64 x] w fun e w' => e = .returned (.pointer (some ⟨sb, k * 72, none⟩)) ∧ w = w' := by
  subst hx
  go_enter Try.func54, Try.ntmps54
  go_wp2
  go_ret
  exact ⟨rfl, rfl⟩

/-- 'at' of no segment, or of one that is free. -/
theorem at_no (mb sb n cap : Nat) (x : Int) (w : World) (hn : n ≤ 1024)
    (h0 : w.cell? ⟨mb, 0, none⟩ = some (.slice (some ⟨sb, 0, none⟩) n cap)) (h : x < 0 ∨ n ≤ x ∨ ∃ k : Nat, k < n ∧ x = k ∧ w.cell? ⟨sb, k * 72 + 7, none⟩ = some (.int .i64 0)) :
    Calls Try.prog 54 #[.pointer (some ⟨mb, 0, none⟩), .int .i64 x] w fun e w' => e = .returned (.pointer none) ∧ w = w' := by
  rcases h with h | h | ⟨k, hk, rfl, ht⟩
  · go_enter Try.func54, Try.ntmps54
    go_wp2
    go_ret
    exact ⟨rfl, rfl⟩
  · have h' : ¬ x < 0 := by omega
    go_enter Try.func54, Try.ntmps54
    go_wp2
    go_ret
    exact ⟨rfl, rfl⟩
  · go_enter Try.func54, Try.ntmps54
    go_wp2
    go_ret
    exact ⟨rfl, rfl⟩

theorem at_taken {mb sb n : Nat} {M : MemS} {w : World} (H : MemAt w mb sb n M) (hn : n ≤ 1024) (k : Nat) (hk : k < n) (ht : (M.S k).taken ≠ 0) (x : Int) (hx : x = k) :
    Calls Try.prog 54 #[.pointer (some ⟨mb, 0, none⟩), .int .i64 x] w fun e w' => e = .returned (.pointer (some ⟨sb, k * 72, none⟩)) ∧ w = w' :=
  at_yes mb sb n _ k _ x w hk hn hx H.segs (H.taken hk) (beq_eq_false_iff_ne.2 ht)
theorem at_none {mb sb n : Nat} {M : MemS} {w : World} (H : MemAt w mb sb n M) (hn : n ≤ 1024) (x : Int) (hx : ¬ M.isTaken n x) :
    Calls Try.prog 54 #[.pointer (some ⟨mb, 0, none⟩), .int .i64 x] w fun e w' => e = .returned (.pointer none) ∧ w = w' := by
  refine at_no mb sb n _ x w hn H.segs ?_
  by_cases h1 : x < 0
  · exact .inl h1
  by_cases h2 : (n : Int) ≤ x
  · exact .inr (.inl h2)
  refine .inr (.inr ⟨x.toNat, by omega, by omega, ?_⟩)
  rw [H.taken (by omega)]
  have : (M.S x.toNat).taken = 0 := Classical.byContradiction fun h => hx ⟨by omega, by omega, h⟩
  rw [this]


set_option maxHeartbeats 400000 in
theorem seg_no {mb sb n : Nat} {M : MemS} {w : World} (H : MemAt w mb sb n M) (hn0 : 0 < n) (hn : n ≤ 1024) (x : Int) (hx : ¬ M.isTaken n x) :
    Calls Try.prog 17 #[.pointer (some ⟨mb, 0, none⟩), .int .i64 x] w fun e w' => e = .returned (.tuple #[SegS.zero.told, .bool false]) ∧ Off [] w w' := by
  have Hh := Lib.hid H
  have hx' := Lib.hid hx
  clear H hx
  go_enter Try.func17, Try.ntmps17
  go_wp2_with (go_at_call 54; refine (at_none (Hh.out.off hn0 ((Off.refl [] _).alloc _) (by simp) (by simp)) hn _ hx'.out).mono ?_; rintro e w' ⟨rfl, rfl⟩)
  exact bodyPost_ret (v := .tuple #[SegS.zero.told, .bool false]) (by simp [results, Try.results17, go_sem, SegS.told, SegS.zero]) rfl ⟨rfl, (Off.refl _ _).alloc _⟩

set_option maxHeartbeats 400000 in
theorem seg_yes {mb sb n : Nat} {M : MemS} {w : World} (H : MemAt w mb sb n M) (hn : n ≤ 1024) (k : Nat) (hk : k < n) (ht : (M.S k).taken ≠ 0) (x : Int) (hx : x = k) :
    Calls Try.prog 17 #[.pointer (some ⟨mb, 0, none⟩), .int .i64 x] w fun e w' => e = .returned (.tuple #[(M.S k).told, .bool true]) ∧ Off [] w w' := by
  have Hh := Lib.hid H
  have hx' := Lib.hid hx
  have c0 := H.body k hk 0 (by omega)
  have c1 := H.body k hk 1 (by omega)
  have c2 := H.body k hk 2 (by omega)
  have c3 := H.body k hk 3 (by omega)
  have c4 := H.body k hk 4 (by omega)
  have c5 := H.body k hk 5 (by omega)
  have c6 := H.body k hk 6 (by omega)
  simp only [SegS.cellOf, Nat.add_zero] at c0 c1 c2 c3 c4 c5 c6
  have hsb := H.sb_lt (by omega)
  generalize hs : M.S k = s at *
  have ht' := Lib.hid ht
  have hs' := Lib.hid hs
  clear H hx ht hs
  go_enter Try.func17, Try.ntmps17
  go_wp2_with (go_at_call 54; refine (at_taken (Hh.out.off (by omega) ((Off.refl [] _).alloc _) (by simp) (by simp)) hn k hk (by rw [hs'.out]; exact ht'.out) _ hx'.out).mono ?_; rintro e w' ⟨rfl, rfl⟩)
  exact bodyPost_ret (v := .tuple #[s.told, .bool true]) (by simp [results, Try.results17, go_sem, SegS.told]) rfl ⟨rfl, (Off.refl _ _).alloc _⟩

theorem give_no {mb sb n : Nat} {M : MemS} {w : World} (H : MemAt w mb sb n M) (hn0 : 0 < n) (hn : n ≤ 1024) (x : Int) (hx : ¬ M.isTaken n x) :
    Calls Try.prog 18 #[.pointer (some ⟨mb, 0, none⟩), .int .i64 x] w fun e w' => e = .returned (.int .i64 19) ∧ w = w' := by
  have Hh := Lib.hid H
  have hx' := Lib.hid hx
  clear H hx
  go_enter Try.func18, Try.ntmps18
  go_wp2_with (go_at_call 54; refine (at_none Hh.out hn _ hx'.out).mono ?_; rintro e w' ⟨rfl, rfl⟩)
  go_ret
  exact ⟨rfl, rfl⟩

set_option maxHeartbeats 400000 in
theorem give_yes {mb sb n : Nat} {M : MemS} {w : World} (H : MemAt w mb sb n M) (hn : n ≤ 1024) (k : Nat) (hk : k < n) (ht : (M.S k).taken ≠ 0) (x : Int) (hx : x = k) (hf0 : 0 ≤ M.free) (hf : M.free ≤ 1024) :
    Calls Try.prog 18 #[.pointer (some ⟨mb, 0, none⟩), .int .i64 x] w fun e w' => e = .returned (.int .i64 0) ∧
      MemAt w' mb sb n { M.put k SegS.zero with free := M.free + 1 } ∧ Off [mb, sb] w w' := by
  have Hh := Lib.hid H
  have hx' := Lib.hid hx
  have ht' := Lib.hid ht
  clear H hx ht
  go_enter Try.func18, Try.ntmps18
  go_wp2_with (first | (go_at_call 54; refine (at_taken Hh.out hn k hk ht'.out _ hx'.out).mono ?_; rintro e w' ⟨rfl, rfl⟩) | (refine wpList_store_seg Hh.out hk SegS.zero rfl _ _ rfl rfl rfl ?_; intro w1 H1 O1; have g2 := H1.free; have f2 := H1.fz 2; simp only [MemS.put] at g2; have HH1 := Lib.hid H1; have OO1 := Lib.hid O1; clear H1 O1))
  go_ret
  exact ⟨rfl, HH1.out.setFree _, (OO1.out.mono (by simp)).setCell (by simp) _⟩
end Go.Proofs.Ytoafoodgomnfeaa
