/-
  YtoafoodgomnfeaaBox: a segment's told numbers stored into a variable of seven cells, cell by cell.
-/
import Derived.Test.YtoafoodgomnfeaaGen
namespace Go.Proofs.Ytoafoodgomnfeaa
open Go.RowKit
set_option linter.unusedVariables false

/-- Seven cells turned. -/
def set7 (w : World) (B : Nat) (v0 v1 v2 v3 v4 v5 v6 : Value) : World :=
  ((((((w.setCell ⟨B, 0, none⟩ v0).setCell ⟨B, 1, none⟩ v1).setCell ⟨B, 2, none⟩ v2).setCell ⟨B, 3, none⟩ v3).setCell ⟨B, 4, none⟩ v4).setCell ⟨B, 5, none⟩ v5).setCell ⟨B, 6, none⟩ v6
theorem Off.set7 {L : List Nat} {a w : World} (h : Off L a w) {B : Nat} (hB : a.heap.size ≤ B) (v0 v1 v2 v3 v4 v5 v6 : Value) :
    Off L a (((((((w.setCell ⟨B, 0, none⟩ v0).setCell ⟨B, 1, none⟩ v1).setCell ⟨B, 2, none⟩ v2).setCell ⟨B, 3, none⟩ v3).setCell ⟨B, 4, none⟩ v4).setCell ⟨B, 5, none⟩ v5).setCell ⟨B, 6, none⟩ v6) :=
  ((((((h.setCell (p := ⟨B, 0, none⟩) (.inr hB) _).setCell (p := ⟨B, 1, none⟩) (.inr hB) _).setCell (p := ⟨B, 2, none⟩) (.inr hB) _).setCell (p := ⟨B, 3, none⟩) (.inr hB) _).setCell (p := ⟨B, 4, none⟩) (.inr hB) _).setCell (p := ⟨B, 5, none⟩) (.inr hB) _).setCell (p := ⟨B, 6, none⟩) (.inr hB) _

/-- A variable of seven cells: what lies there. -/
structure Told (w : World) (B : Nat) (g k n c0 c1 c2 c3 : Int) : Prop where
  t0 : w.cell? ⟨B, 0, none⟩ = some (.int .i64 g)
  t1 : w.cell? ⟨B, 1, none⟩ = some (.int .i64 k)
  t2 : w.cell? ⟨B, 2, none⟩ = some (.int .i64 n)
  t3 : w.cell? ⟨B, 3, none⟩ = some (.int .i64 c0)
  t4 : w.cell? ⟨B, 4, none⟩ = some (.int .i64 c1)
  t5 : w.cell? ⟨B, 5, none⟩ = some (.int .i64 c2)
  t6 : w.cell? ⟨B, 6, none⟩ = some (.int .i64 c3)
theorem Told.off {L : List Nat} {w w' : World} {B : Nat} {g k n c0 c1 c2 c3 : Int} (h : Told w B g k n c0 c1 c2 c3) (O : Off L w w') (hB : B ∉ L) : Told w' B g k n c0 c1 c2 c3 :=
  ⟨O.cell h.t0 hB, O.cell h.t1 hB, O.cell h.t2 hB, O.cell h.t3 hB, O.cell h.t4 hB, O.cell h.t5 hB, O.cell h.t6 hB⟩
theorem Told.new (w : World) (t : TypeId) (g k n c0 c1 c2 c3 : Int) : Told (w.alloc (.cells #[.int .i64 g, .int .i64 k, .int .i64 n, .int .i64 c0, .int .i64 c1, .int .i64 c2, .int .i64 c3] t)) w.heap.size g k n c0 c1 c2 c3 := by
  have hA : (w.alloc (.cells #[.int .i64 g, .int .i64 k, .int .i64 n, .int .i64 c0, .int .i64 c1, .int .i64 c2, .int .i64 c3] t)).heap[w.heap.size]? = some _ := Array.getElem?_push_size
  exact ⟨by rw [cell_of_row _ _ 0 _ _ _ hA]; rfl, by rw [cell_of_row _ _ 1 _ _ _ hA]; rfl, by rw [cell_of_row _ _ 2 _ _ _ hA]; rfl, by rw [cell_of_row _ _ 3 _ _ _ hA]; rfl, by rw [cell_of_row _ _ 4 _ _ _ hA]; rfl, by rw [cell_of_row _ _ 5 _ _ _ hA]; rfl, by rw [cell_of_row _ _ 6 _ _ _ hA]; rfl⟩
theorem Told.new_fz (w : World) (t : TypeId) (g k n c0 c1 c2 c3 : Int) (j : Nat) : (w.alloc (.cells #[.int .i64 g, .int .i64 k, .int .i64 n, .int .i64 c0, .int .i64 c1, .int .i64 c2, .int .i64 c3] t)).frozen? ⟨w.heap.size, j, none⟩ = false :=
  frozen_of_row _ _ j _ _ Array.getElem?_push_size
theorem Told.set {w : World} {B : Nat} {g k n c0 c1 c2 c3 : Int} (h : Told w B g k n c0 c1 c2 c3) (g' k' n' d0 d1 d2 d3 : Int) :
    Told (((((((w.setCell ⟨B, 0, none⟩ (.int .i64 g')).setCell ⟨B, 1, none⟩ (.int .i64 k')).setCell ⟨B, 2, none⟩ (.int .i64 n')).setCell ⟨B, 3, none⟩ (.int .i64 d0)).setCell ⟨B, 4, none⟩ (.int .i64 d1)).setCell ⟨B, 5, none⟩ (.int .i64 d2)).setCell ⟨B, 6, none⟩ (.int .i64 d3)) B g' k' n' d0 d1 d2 d3 := by
  have o : ∀ (w : World) (i j : Nat) (v : Value), i ≠ j → (w.setCell ⟨B, j, none⟩ v).cell? ⟨B, i, none⟩ = w.cell? ⟨B, i, none⟩ := fun w i j v hij => World.cell?_setCell_other _ _ _ _ (by simp only [ne_eq, Addr.mk.injEq, true_and, and_true]; omega)
  have s : ∀ (w : World) (i : Nat) (v u : Value), w.cell? ⟨B, i, none⟩ = some u → (w.setCell ⟨B, i, none⟩ v).cell? ⟨B, i, none⟩ = some v := fun w i v u hu => World.cell?_setCell_same _ _ _ hu
  refine ⟨?_, ?_, ?_, ?_, ?_, ?_, ?_⟩
  · rw [o _ 0 6 _ (by omega), o _ 0 5 _ (by omega), o _ 0 4 _ (by omega), o _ 0 3 _ (by omega), o _ 0 2 _ (by omega), o _ 0 1 _ (by omega)]
    exact s _ 0 _ _ h.t0
  · rw [o _ 1 6 _ (by omega), o _ 1 5 _ (by omega), o _ 1 4 _ (by omega), o _ 1 3 _ (by omega), o _ 1 2 _ (by omega)]
    exact s _ 1 _ (.int .i64 k) (by rw [o _ 1 0 _ (by omega)]; exact h.t1)
  · rw [o _ 2 6 _ (by omega), o _ 2 5 _ (by omega), o _ 2 4 _ (by omega), o _ 2 3 _ (by omega)]
    exact s _ 2 _ (.int .i64 n) (by rw [o _ 2 1 _ (by omega), o _ 2 0 _ (by omega)]; exact h.t2)
  · rw [o _ 3 6 _ (by omega), o _ 3 5 _ (by omega), o _ 3 4 _ (by omega)]
    exact s _ 3 _ (.int .i64 c0) (by rw [o _ 3 2 _ (by omega), o _ 3 1 _ (by omega), o _ 3 0 _ (by omega)]; exact h.t3)
  · rw [o _ 4 6 _ (by omega), o _ 4 5 _ (by omega)]
    exact s _ 4 _ (.int .i64 c1) (by rw [o _ 4 3 _ (by omega), o _ 4 2 _ (by omega), o _ 4 1 _ (by omega), o _ 4 0 _ (by omega)]; exact h.t4)
  · rw [o _ 5 6 _ (by omega)]
    exact s _ 5 _ (.int .i64 c2) (by rw [o _ 5 4 _ (by omega), o _ 5 3 _ (by omega), o _ 5 2 _ (by omega), o _ 5 1 _ (by omega), o _ 5 0 _ (by omega)]; exact h.t5)
  · exact s _ 6 _ (.int .i64 c3) (by rw [o _ 6 5 _ (by omega), o _ 6 4 _ (by omega), o _ 6 3 _ (by omega), o _ 6 2 _ (by omega), o _ 6 1 _ (by omega), o _ 6 0 _ (by omega)]; exact h.t6)
/-- Behind a call: the variable as it was, and not frozen. -/
structure Fresh7 (w : World) (B : Nat) : Prop where
  told : Told w B 0 0 0 0 0 0 0
  fz : ∀ j, j < 7 → w.frozen? ⟨B, j, none⟩ = false
theorem Fresh7.new (w : World) (t : TypeId) : Fresh7 (w.alloc (.cells #[.int .i64 0, .int .i64 0, .int .i64 0, .int .i64 0, .int .i64 0, .int .i64 0, .int .i64 0] t)) w.heap.size := ⟨Told.new _ _ _ _ _ _ _ _ _, fun j _ => Told.new_fz _ _ _ _ _ _ _ _ _ j⟩
theorem Fresh7.off {w w' : World} {B : Nat} (h : Fresh7 w B) (O : Off [] w w') : Fresh7 w' B :=
  ⟨h.told.off O (by simp), fun j hj => (O.frozen (p := ⟨B, j, none⟩) (show B < w.heap.size from World.block_lt_of_cell? _ _ h.told.t0) (by simp)).trans (h.fz j hj)⟩
theorem Fresh7.facts {w : World} {B : Nat} (h : Fresh7 w B) : (w.cell? ⟨B, 0, none⟩ = some (.int .i64 0) ∧ w.cell? ⟨B, 1, none⟩ = some (.int .i64 0) ∧ w.cell? ⟨B, 2, none⟩ = some (.int .i64 0) ∧ w.cell? ⟨B, 3, none⟩ = some (.int .i64 0) ∧
    w.cell? ⟨B, 4, none⟩ = some (.int .i64 0) ∧ w.cell? ⟨B, 5, none⟩ = some (.int .i64 0) ∧ w.cell? ⟨B, 6, none⟩ = some (.int .i64 0)) ∧ (w.frozen? ⟨B, 0, none⟩ = false ∧ w.frozen? ⟨B, 1, none⟩ = false ∧ w.frozen? ⟨B, 2, none⟩ = false ∧
    w.frozen? ⟨B, 3, none⟩ = false ∧ w.frozen? ⟨B, 4, none⟩ = false ∧ w.frozen? ⟨B, 5, none⟩ = false ∧ w.frozen? ⟨B, 6, none⟩ = false) :=
  ⟨⟨h.told.t0, h.told.t1, h.told.t2, h.told.t3, h.told.t4, h.told.t5, h.told.t6⟩, ⟨h.fz 0 (by omega), h.fz 1 (by omega), h.fz 2 (by omega), h.fz 3 (by omega), h.fz 4 (by omega), h.fz 5 (by omega), h.fz 6 (by omega)⟩⟩
end Go.Proofs.Ytoafoodgomnfeaa
