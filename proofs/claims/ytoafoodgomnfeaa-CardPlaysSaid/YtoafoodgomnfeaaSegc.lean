/-
  YtoafoodgomnfeaaSegc: New and Mark of package seg.
-/
import Derived.Test.YtoafoodgomnfeaaSegb
namespace Go.Proofs.Ytoafoodgomnfeaa
open Go.RowKit
set_option linter.unusedVariables false

theorem new_arg (x : Int) (w : World) (h : x < 8 ∨ 1024 < x) :
    Calls Try.prog 13 #[.int .i64 x] w fun e w' => e = .returned (.tuple #[.pointer none, .int .i64 1]) ∧ w = w' := by
  by_cases h1 : x < 8
  · go_enter Try.func13, Try.ntmps13
    go_wp2
    go_ret2
    exact ⟨rfl, rfl⟩
  · have h2 : 1024 < x := by omega
    go_enter Try.func13, Try.ntmps13
    go_wp2
    go_ret2
    exact ⟨rfl, rfl⟩

theorem info110z : (Try.prog.info? 110).map (fun i => (i.zero, i.size, i.bytes)) = some (some (.agg SegS.zero.arr), 72, 576) := by kernel_rfl
theorem made_seg (k j : Nat) (hj : j < 72) (n : Nat) (hk : k < n) : (madeCells SegS.zero.arr (n * 72))[k * 72 + j]? = some (SegS.zero.cellOf j) := by
  unfold madeCells
  rw [Array.getElem?_map, Array.getElem?_range, if_pos (by omega)]
  simp only [Option.map_some, SegS.arr_size]
  rw [show (k * 72 + j) % 72 = j by omega]
  simp [SegS.arr, SegS.cells, hj]

def MemS.made (n : Nat) : MemS := { S := fun _ => SegS.zero, count := 0, free := n, cap := n }

theorem MemAt.made (w : World) (n : Nat) (t t' : TypeId) :
    MemAt ((w.alloc (.cells (madeCells SegS.zero.arr (n * 72)) t)).alloc (.cells #[.slice (some ⟨w.heap.size, 0, none⟩) n n, .int .i64 0, .int .i64 n] t')) (w.heap.size + 1) w.heap.size n (MemS.made n) := by
  have hA := heap_alloc2_old w (.cells (madeCells SegS.zero.arr (n * 72)) t) (.cells #[.slice (some ⟨w.heap.size, 0, none⟩) n n, .int .i64 0, .int .i64 n] t')
  have hB := heap_alloc2_new w (.cells (madeCells SegS.zero.arr (n * 72)) t) (.cells #[.slice (some ⟨w.heap.size, 0, none⟩) n n, .int .i64 0, .int .i64 n] t')
  refine ⟨?_, ?_, ?_, fun j => frozen_of_row _ _ j _ _ hB, by omega, fun k hk j hj => ⟨?_, frozen_of_row _ _ _ _ _ hA⟩⟩
  · rw [cell_of_row _ _ 0 _ _ _ hB]; rfl
  · rw [cell_of_row _ _ 1 _ _ _ hB]; rfl
  · rw [cell_of_row _ _ 2 _ _ _ hB]; rfl
  · rw [cell_of_row _ _ _ _ _ _ hA]; exact made_seg k j hj n hk

set_option maxRecDepth 100000 in
theorem new_ok (x : Int) (n : Nat) (w : World) (hx : x = n) (h1 : 8 ≤ n) (h2 : n ≤ 1024) :
    Calls Try.prog 13 #[.int .i64 x] w fun e w' => e = .returned (.tuple #[.pointer (some ⟨w.heap.size + 1, 0, none⟩), .int .i64 0]) ∧
      MemAt w' (w.heap.size + 1) w.heap.size n (MemS.made n) ∧ Off [] w w' := by
  subst hx
  obtain ⟨i0, hi, hz0, hz1, hz2⟩ := info_parts info110z
  have hmk := run_makeSlice (P := Try.prog) w 55 110 i0 _ Try.underlying55 hi hz0 .i64 .i64 n n (by omega) (by omega) (by rw [hz1]; omega) (by rw [hz2]; omega) (by omega)
  rw [hz1] at hmk
  simp only [Int.toNat_natCast, Value.cells] at hmk
  have hm := MemAt.made w n 110 57
  have hmh := Lib.hid hm
  clear hm hi hz0 hz1 hz2
  go_enter Try.func13, Try.ntmps13
  go_wp2
  go_ret2
  exact ⟨rfl, hmh.out, ((Off.refl _ _).alloc _).alloc _⟩

theorem mark_no {mb sb n : Nat} {M : MemS} {w : World} (H : MemAt w mb sb n M) (hn : n ≤ 1024) (x c m : Int) (hx : ¬ M.isTaken n x) :
    Calls Try.prog 28 #[.pointer (some ⟨mb, 0, none⟩), .int .i64 x, .int .i64 c, .int .i64 m] w fun e w' => e = .returned (.int .i64 19) ∧ w = w' := by
  have Hh := Lib.hid H
  have hx' := Lib.hid hx
  clear H hx
  go_enter Try.func28, Try.ntmps28
  go_wp2_with (go_at_call 54; refine (at_none Hh.out hn _ hx'.out).mono ?_; rintro e w' ⟨rfl, rfl⟩)
  go_ret
  exact ⟨rfl, rfl⟩

set_option maxHeartbeats 400000 in
theorem mark_arg {mb sb n : Nat} {M : MemS} {w : World} (H : MemAt w mb sb n M) (hn : n ≤ 1024) (k : Nat) (hk : k < n) (ht : (M.S k).taken ≠ 0) (x c m : Int) (hx : x = k) (h : c < 0 ∨ 4 ≤ c ∨ m < 0 ∨ 5 < m) :
    Calls Try.prog 28 #[.pointer (some ⟨mb, 0, none⟩), .int .i64 x, .int .i64 c, .int .i64 m] w fun e w' => e = .returned (.int .i64 1) ∧ w = w' := by
  have Hh := Lib.hid H
  have hx' := Lib.hid hx
  have ht' := Lib.hid ht
  clear H hx ht
  by_cases a1 : c < 0
  · go_enter Try.func28, Try.ntmps28
    go_wp2_with (go_at_call 54; refine (at_taken Hh.out hn k hk ht'.out _ hx'.out).mono ?_; rintro e w' ⟨rfl, rfl⟩)
    go_ret
    exact ⟨rfl, rfl⟩
  by_cases a2 : 4 ≤ c
  · go_enter Try.func28, Try.ntmps28
    go_wp2_with (go_at_call 54; refine (at_taken Hh.out hn k hk ht'.out _ hx'.out).mono ?_; rintro e w' ⟨rfl, rfl⟩)
    go_ret
    exact ⟨rfl, rfl⟩
  by_cases a3 : m < 0
  · go_enter Try.func28, Try.ntmps28
    go_wp2_with (go_at_call 54; refine (at_taken Hh.out hn k hk ht'.out _ hx'.out).mono ?_; rintro e w' ⟨rfl, rfl⟩)
    go_ret
    exact ⟨rfl, rfl⟩
  · have a4 : 5 < m := by omega
    go_enter Try.func28, Try.ntmps28
    go_wp2_with (go_at_call 54; refine (at_taken Hh.out hn k hk ht'.out _ hx'.out).mono ?_; rintro e w' ⟨rfl, rfl⟩)
    go_ret
    exact ⟨rfl, rfl⟩

def SegS.putCard (s : SegS) (c m : Int) : SegS := { s with c0 := if c = 0 then m else s.c0, c1 := if c = 1 then m else s.c1, c2 := if c = 2 then m else s.c2, c3 := if c = 3 then m else s.c3 }

set_option maxHeartbeats 400000 in
theorem mark_yes {mb sb n : Nat} {M : MemS} {w : World} (H : MemAt w mb sb n M) (hn : n ≤ 1024) (k : Nat) (hk : k < n) (ht : (M.S k).taken ≠ 0) (x c m : Int) (hx : x = k) (hc0 : 0 ≤ c) (hc : c < 4) (hm0 : 0 ≤ m) (hm : m ≤ 5) :
    Calls Try.prog 28 #[.pointer (some ⟨mb, 0, none⟩), .int .i64 x, .int .i64 c, .int .i64 m] w fun e w' => e = .returned (.int .i64 0) ∧
      MemAt w' mb sb n (M.put k ((M.S k).putCard c m)) ∧ Off [sb] w w' := by
  obtain ⟨j, rfl⟩ := Int.eq_ofNat_of_zero_le hc0
  have hj4 : j < 4 := by omega
  have hcj : (M.S k).cellOf (3 + j) = .int .i64 (match j with | 0 => (M.S k).c0 | 1 => (M.S k).c1 | 2 => (M.S k).c2 | _ => (M.S k).c3) := by
    match j, hj4 with
    | 0, _ | 1, _ | 2, _ | 3, _ => rfl
  have hcell := (H.body k hk (3 + j) (by omega)).1
  have hf := (H.body k hk (3 + j) (by omega)).2
  rw [hcj] at hcell
  generalize (match j with | 0 => (M.S k).c0 | 1 => (M.S k).c1 | 2 => (M.S k).c2 | _ => (M.S k).c3) = old at hcell
  rw [← Nat.add_assoc] at hcell hf
  have HS := H.setField hk ((M.S k).putCard j m) (3 + j) (by omega) (.int .i64 m) (by
      match j, hj4 with
      | 0, _ | 1, _ | 2, _ | 3, _ => rfl)
    (fun i hi hne => by
      match i with
      | 0 | 1 | 2 | 7 => rfl
      | 3 => simp only [SegS.cellOf, SegS.putCard]; rw [if_neg (by omega)]
      | 4 => simp only [SegS.cellOf, SegS.putCard]; rw [if_neg (by omega)]
      | 5 => simp only [SegS.cellOf, SegS.putCard]; rw [if_neg (by omega)]
      | 6 => simp only [SegS.cellOf, SegS.putCard]; rw [if_neg (by omega)]
      | j + 8 => rfl)
  rw [← Nat.add_assoc] at HS
  have HSh := Lib.hid HS
  have Hh := Lib.hid H
  have hx' := Lib.hid hx
  have ht' := Lib.hid ht
  clear H hx ht HS hcj
  go_enter Try.func28, Try.ntmps28
  go_wp2_with (go_at_call 54; refine (at_taken Hh.out hn k hk ht'.out _ hx'.out).mono ?_; rintro e w' ⟨rfl, rfl⟩)
  go_ret
  exact ⟨rfl, HSh.out, (Off.refl _ _).setCell (by simp) _⟩

end Go.Proofs.Ytoafoodgomnfeaa
