/-
  YtoafoodgomnfeaaSmade: both spaces are made; a space's copy; the chapter's examples; are calls too many?
-/
import Derived.Test.YtoafoodgomnfeaaSwords
namespace Go.Proofs.Ytoafoodgomnfeaa
open Go.RowKit
set_option linter.unusedVariables false

theorem rsnew_arg (x : Int) (w : World) (h : x < 8 ∨ 1024 < x) : Calls Try.prog 32 #[.int .i64 x] w fun e w' => e = .returned (.pointer none) ∧ w = w' := by
  have hh := Lib.hid h
  clear h
  go_enter Try.func32, Try.ntmps32
  go_wp2_with fail
  refine (rnew_arg x w hh.out).mono ?_
  rintro e w1 ⟨rfl, rfl⟩
  go_wp2_with fail
  go_ret
  exact ⟨rfl, rfl⟩
theorem cells20 (w : World) (v : Value) (z : Int) (t : TypeId) : ∀ i, i < 20 → (w.alloc (.cells #[v, .int .i64 z, .int .i64 z, .int .i64 z, .int .i64 z, .int .i64 z, .int .i64 z, .int .i64 z, .int .i64 z, .int .i64 z, .int .i64 z, .int .i64 z, .int .i64 z, .int .i64 z, .int .i64 z, .int .i64 z, .int .i64 z, .int .i64 z, .int .i64 z, .int .i64 z, .int .i64 z] t)).cell? ⟨w.heap.size, 1 + i, none⟩ = some (.int .i64 z) := fun i hi => by
  rw [cell_of_row _ _ _ _ _ _ (heap_alloc_new w _), Nat.add_comm]
  match i, hi with
  | 0, _ | 1, _ | 2, _ | 3, _ | 4, _ | 5, _ | 6, _ | 7, _ | 8, _ | 9, _ | 10, _ | 11, _ | 12, _ | 13, _ | 14, _ | 15, _ | 16, _ | 17, _ | 18, _ | 19, _ => rfl
  | j + 20, h => exact absurd h (by omega)
theorem CRel.new (w : World) (v : Value) (z : Int) (t : TypeId) : CRel (w.alloc (.cells #[v, .int .i64 z, .int .i64 z, .int .i64 z, .int .i64 z, .int .i64 z, .int .i64 z, .int .i64 z, .int .i64 z, .int .i64 z, .int .i64 z, .int .i64 z, .int .i64 z, .int .i64 z, .int .i64 z, .int .i64 z, .int .i64 z, .int .i64 z, .int .i64 z, .int .i64 z, .int .i64 z] t)) (w.alloc (.cells #[v, .int .i64 z, .int .i64 z, .int .i64 z, .int .i64 z, .int .i64 z, .int .i64 z, .int .i64 z, .int .i64 z, .int .i64 z, .int .i64 z, .int .i64 z, .int .i64 z, .int .i64 z, .int .i64 z, .int .i64 z, .int .i64 z, .int .i64 z, .int .i64 z, .int .i64 z, .int .i64 z] t)) w.heap.size v (fun _ => z) :=
  ⟨Off.refl _ _, by rw [cell_of_row _ _ 0 _ _ _ (heap_alloc_new w _)]; rfl, cells20 w v z t, fun j => frozen_of_row _ _ j _ _ (heap_alloc_new w _)⟩
theorem frC_nil5 (C : Nat → Int) (z : Int) : ∀ i, i < 20 → frC [] z C 5 0 i = z := fun i hi => by
  simp only [frC]
  rw [if_pos (show i / 4 < 5 by omega)]
  simp
theorem rsnew_ok (n : Nat) (w : World) (h1 : 8 ≤ n) (h2 : n ≤ 1024) (M : MemS) (V : Nat → Value) :
    Calls Try.prog 32 #[.int .i64 n] w fun e w' => ∃ qb rb, e = .returned (.pointer (some ⟨qb, 0, none⟩)) ∧ RefAt w' rb n M [] V (.slice none 0 0) ∧ w'.cell? ⟨qb, 0, none⟩ = some (.pointer (some ⟨rb, 0, none⟩)) ∧
      (∀ i, i < 20 → w'.cell? ⟨qb, 1 + i, none⟩ = some (.int .i64 (-1))) ∧ (∀ j, w'.frozen? ⟨qb, j, none⟩ = false) ∧ Off [] w w' ∧ w.heap.size ≤ rb ∧ w.heap.size ≤ qb ∧ rb ≠ qb ∧ qb < w'.heap.size := by
  go_enter Try.func32, Try.ntmps32
  go_wp2_with fail
  refine (rnew_ok n w h1 h2 M V).mono ?_
  rintro e w1 ⟨rfl, hR, O⟩
  have HR := Lib.hid hR
  have OO := Lib.hid O
  have hlt := hR.lt (.inl rfl)
  have hC := CRel.new w1 (.pointer (some ⟨w.heap.size, 0, none⟩)) 0 129
  have HC := Lib.hid (CRel.congr hC (frC_start [] (-1) (fun _ => 0)))
  have hR2 := Lib.hid (hR.off ((Off.refl [] w1).alloc (.cells #[.pointer (some ⟨w.heap.size, 0, none⟩), .int .i64 0, .int .i64 0, .int .i64 0, .int .i64 0, .int .i64 0, .int .i64 0, .int .i64 0, .int .i64 0, .int .i64 0, .int .i64 0, .int .i64 0, .int .i64 0, .int .i64 0, .int .i64 0, .int .i64 0, .int .i64 0, .int .i64 0, .int .i64 0, .int .i64 0, .int .i64 0] 129)) (by simp))
  have O2 := Lib.hid (O.alloc (.cells #[.pointer (some ⟨w.heap.size, 0, none⟩), .int .i64 0, .int .i64 0, .int .i64 0, .int .i64 0, .int .i64 0, .int .i64 0, .int .i64 0, .int .i64 0, .int .i64 0, .int .i64 0, .int .i64 0, .int .i64 0, .int .i64 0, .int .i64 0, .int .i64 0, .int .i64 0, .int .i64 0, .int .i64 0, .int .i64 0, .int .i64 0] 129))
  have hsz := O.size
  clear hR O hC
  go_wp2_with fail
  generalize w1.alloc _ = w2 at *
  generalize hqb : w1.heap.size = qb at *
  refine (dfresh_any (X := []) HC.out (by simp) (GensAt.nil w2 []) (by simp)).mono ?_
  rintro e w3 ⟨rfl, hF⟩
  have O3 : Off [] w w3 := O2.out.trans_new hF.1 (fun x hx => .inr (by simp only [List.mem_cons, List.not_mem_nil, or_false] at hx; omega))
  have hR3 := hR2.out.off hF.1 (fun b hb => by
    rcases hb with rfl | hb | ⟨k, hk, _⟩
    · simp only [List.mem_cons, List.not_mem_nil, or_false]; omega
    · simp [Value.ownBlock] at hb
    · simp at hk)
  have hq := World.block_lt_of_cell? _ _ hF.2.1
  have FIN := Lib.hid (show RefAt w3 w.heap.size n M [] V (.slice none 0 0) ∧ w3.cell? ⟨qb, 0, none⟩ = some (.pointer (some ⟨w.heap.size, 0, none⟩)) ∧
      (∀ i, i < 20 → w3.cell? ⟨qb, 1 + i, none⟩ = some (.int .i64 (-1))) ∧ (∀ j, w3.frozen? ⟨qb, j, none⟩ = false) ∧ Off [] w w3 ∧ w.heap.size ≤ w.heap.size ∧ w.heap.size ≤ qb ∧ w.heap.size ≠ qb ∧ qb < w3.heap.size from
    ⟨hR3, hF.2.1, fun i hi => by rw [hF.2.2.1 i hi, frC_nil5 _ _ i hi], hF.2.2.2, O3, Nat.le_refl _, by omega, by omega, hq⟩)
  clear hF O3 hR3 hq
  go_wp2_with fail
  go_ret
  exact ⟨_, _, rfl, FIN.out⟩

/-- Both are made. -/
theorem SBoth.made {w w1 w2 : World} {pb mb sb qb rb n : Nat} {X : List Nat} (h : SpaceAt w1 pb mb sb n (MemS.made n) (fun _ => 0)) (h1 : 8 ≤ n) (h2 : n ≤ 1024) (O : Off [] w1 w2) (hr : RefAt w2 rb n (MemS.made n) [] (fun _ => .slice none 0 0) (.slice none 0 0))
    (q0 : w2.cell? ⟨qb, 0, none⟩ = some (.pointer (some ⟨rb, 0, none⟩))) (q1 : ∀ i, i < 20 → w2.cell? ⟨qb, 1 + i, none⟩ = some (.int .i64 (-1))) (q2 : ∀ j, w2.frozen? ⟨qb, j, none⟩ = false) (hrb : w1.heap.size ≤ rb) (hqb : w1.heap.size ≤ qb) (hrq : rb ≠ qb)
    (hX : ∀ b, b ∈ X → b < w.heap.size) (hp : w.heap.size ≤ pb) (hm : w.heap.size ≤ mb) (hs : w.heap.size ≤ sb) (hsz : w.heap.size ≤ w1.heap.size) : SBoth w2 pb mb sb qb rb n (MemS.made n) (MemS.made n) (fun _ => 0) (fun _ => 0) 0 X := by
  have m1 := h.mem.mb_lt
  have m2 := h.mem.sb_lt (by omega)
  have m3 := h.pb_lt
  have e1 := h.nm
  have e2 := h.ns
  have hqlt := World.block_lt_of_cell? _ _ q0
  have hsz2 := O.size
  have S2 := h.off (by omega) O (by simp) (by simp) (by simp)
  refine ⟨⟨S2.mem, Wf.made n, Wf.made n, ⟨[], _, _, hr, ⟨fun k => ?_, List.Pairwise.nil⟩, fun b hb => ?_⟩, fun b hb => ?_, by omega, h2⟩, S2.ptr, fun i hi => ?_, S2.fz, q0, q1, q2, by omega, fun hx => by have := hX _ hx; omega, fun hx => by have := hX _ hx; omega, CurOk.none _ _, CurOk.none _ _, Kc.made n⟩
  · simp [selB, MemS.made, SegS.zero]
  · rcases hb with rfl | hb | ⟨k, hk, _⟩
    · refine ⟨by omega, by omega, fun hx => ?_⟩
      simp only [List.mem_cons] at hx
      rcases hx with e | e | e
      · omega
      · exact hrq e
      · have := hX _ e; omega
    · simp [Value.ownBlock] at hb
    · simp at hk
  · simp only [List.mem_cons] at hb
    rcases hb with rfl | rfl | hb
    · exact ⟨by omega, by omega, by omega⟩
    · exact ⟨by omega, by omega, by omega⟩
    · have := hX b hb; exact ⟨by omega, by omega, by omega⟩
  · have := S2.cur (i / 4) (i % 4) (by omega) (by omega)
    rw [show 1 + i / 4 * 4 + i % 4 = 1 + i by omega] at this
    exact this
end Go.Proofs.Ytoafoodgomnfeaa
