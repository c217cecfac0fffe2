/-
  YtoafoodgomnfeaaCopy: Copy of a memory of segments.
-/
import Derived.Test.YtoafoodgomnfeaaReff
namespace Go.Proofs.Ytoafoodgomnfeaa
open Go.RowKit
set_option linter.unusedVariables false
@[go_sem] theorem eq55 (a : Addr) (n c : Nat) (w : World) : Sem.run Try.prog (binOp BinOp.eql 55 (.slice (some a) n c) (.slice none 0 0)) w = Result.ok (.bool false) w := by
  kernel_rfl
theorem empty_row (w : World) (t : TypeId) (size : Nat) : (w.alloc (.cells #[] t)).ownsRow 0 t size (.slice (some ⟨w.heap.size, 0, none⟩) 0 0) 0 [] := by
  refine ⟨by simp, .inr ⟨w.heap.size, 0, #[], rfl, Nat.zero_le _, ?_, Nat.le_refl _, by unfold maxLen; omega, by simp, by simp⟩⟩
  exact Array.getElem?_push_size
/-- The segments' cells in a row. -/
def segRow (S : Nat → SegS) (n : Nat) : List Value := (List.range (n * 72)).map fun q => (S (q / 72)).cellOf (q % 72)
theorem segRow_len (S : Nat → SegS) (n : Nat) : (segRow S n).length = n * 72 := by simp [segRow]
theorem segRow_get (S : Nat → SegS) (n q : Nat) (hq : q < n * 72) : (segRow S n)[q]? = some ((S (q / 72)).cellOf (q % 72)) := by simp [segRow, hq]
theorem segRow_one (S : Nat → SegS) (n : Nat) : ∀ u ∈ segRow S n, u.oneCell' = true := by
  intro u hu
  unfold segRow at hu
  rw [List.mem_map] at hu
  obtain ⟨q, _, rfl⟩ := hu
  match q % 72 with
  | 0 | 1 | 2 | 3 | 4 | 5 | 6 | 7 => rfl
  | j + 8 => rfl
theorem SegsAt.news {w : World} {sb n : Nat} {S : Nat → SegS} (h : SegsAt w sb n S) : ∀ j u, (segRow S n)[j]? = some u → w.cell? ((⟨sb, 0, none⟩ : Addr).add j) = some u := by
  intro j u hu
  have hlt : j < n * 72 := by
    rcases Nat.lt_or_ge j (n * 72) with h' | h'
    · exact h'
    · rw [List.getElem?_eq_none (by rw [segRow_len]; exact h')] at hu; cases hu
  rw [segRow_get S n j hlt] at hu
  cases hu
  have hadd : (⟨sb, 0, none⟩ : Addr).add j = ⟨sb, j, none⟩ := by unfold Addr.add; split <;> simp_all
  rw [hadd]
  have := (h (j / 72) (by omega) (j % 72) (by omega)).1
  rw [show j / 72 * 72 + j % 72 = j by omega] at this
  exact this
theorem SegsAt.of_row {w : World} {g n cap : Nat} {S : Nat → SegS} (h : w.ownsRow 0 110 72 (.slice (some ⟨g, 0, none⟩) n cap) n (segRow S n)) : SegsAt w g n S := by
  intro k hk j hj
  have hlt : k * 72 + j < n * 72 := by omega
  refine ⟨?_, h.frozenAt _⟩
  rw [h.cellAt _ hlt, segRow_get S n _ hlt, show (k * 72 + j) / 72 = k by omega, show (k * 72 + j) % 72 = j by omega]
theorem SegsAt.off {L : List Nat} {w w' : World} {sb n : Nat} {S : Nat → SegS} (h : SegsAt w sb n S) (hn0 : 0 < n) (O : Off L w w') (hL : sb ∉ L) : SegsAt w' sb n S := by
  have hlt : sb < w.heap.size := World.block_lt_of_cell? w ⟨sb, 0 * 72 + 0, none⟩ (h 0 hn0 0 (by omega)).1
  exact fun k hk j hj => ⟨O.cell (h k hk j hj).1 hL, (O.frozen (p := ⟨sb, k * 72 + j, none⟩) hlt hL).trans (h k hk j hj).2⟩
set_option maxRecDepth 100000 in
theorem clone_some {sb n c : Nat} {S : Nat → SegS} {w : World} (h : SegsAt w sb n S) (hn0 : 0 < n) (hn : n ≤ 1024) :
    Calls Try.prog 62 #[.slice (some ⟨sb, 0, none⟩) n c] w fun e w' => ∃ g cap, e = .returned (.slice (some ⟨g, 0, none⟩) n cap) ∧ SegsAt w' g n S ∧ Off [] w w' ∧ w.heap.size ≤ g ∧ g < w'.heap.size := by
  obtain ⟨i0, hi, hz0, hz1, hz2⟩ := info_parts info110z
  have hsz : (Value.agg SegS.zero.arr).cells.size = 72 := SegS.arr_size _
  have O1 := (Off.refl [] w).alloc (.cells #[] 110)
  have hnew := (h.off hn0 O1 (by simp)).news
  have hrow := empty_row w 110 72
  have HN := Lib.hid hnew
  have HR := Lib.hid hrow
  have HO := Lib.hid O1
  have hi' := Lib.hid hi
  have hz0' := Lib.hid hz0
  have hz1' := Lib.hid hz1
  have hz2' := Lib.hid hz2
  have hsz' := Lib.hid hsz
  clear hi hz0 hz1 hz2 hnew hrow O1 hsz h
  go_enter Try.func62, Try.ntmps62
  go_wp2_with (at_builtin; refine wpList_append_lies _ rfl _ _ 55 rfl 0 110 i0 (.agg SegS.zero.arr) 72 576 Try.underlying55 hi'.out hz0'.out hz1'.out hz2'.out hsz'.out (by decide) _ 0 _ rfl HR.out _ n _ _ rfl (segRow_len S n) HN.out (segRow_one S n) hn0 ?c3 ?c4 ?c5 (w.heap.size + 1) ?c6 ?_)
  case c3 => unfold maxLen; omega
  case c4 => omega
  case c5 => omega
  case c6 => simp
  intro g cap w8 hown hgrow hat hlt
  have hfin : SegsAt w8 g n S ∧ Off [] w w8 ∧ w.heap.size ≤ g ∧ g < w8.heap.size := by
    refine ⟨SegsAt.of_row hown, HO.out.grownL hgrow (fun k hk => ?_), ?_, hlt⟩
    · simp only [Value.ownBlock, Option.some.injEq] at hk
      exact .inr (by omega)
    · rcases hat with e | e
      · simp only [Value.ownBlock, Option.some.injEq] at e; omega
      · omega
  have HF := Lib.hid hfin
  clear hfin hown hgrow hat hlt
  go_wp2
  go_ret
  exact ⟨_, _, rfl, HF.out.1, HF.out.2.1, HF.out.2.2.1, HF.out.2.2.2⟩

theorem MemAt.copied {w w1 : World} {n g cap : Nat} {M : MemS} {t : TypeId} (hS : SegsAt w1 g n M.S) (O : Off [] w w1) (hg : g < w1.heap.size) :
    MemAt (w1.alloc (.cells #[.slice (some ⟨g, 0, none⟩) n cap, .int .i64 M.count, .int .i64 M.free] t)) w1.heap.size g n { M with cap := cap } := by
  have hB : (w1.alloc (.cells #[.slice (some ⟨g, 0, none⟩) n cap, .int .i64 M.count, .int .i64 M.free] t)).heap[w1.heap.size]? = some _ := Array.getElem?_push_size
  have O1 := (Off.refl [] w1).alloc (.cells #[.slice (some ⟨g, 0, none⟩) n cap, .int .i64 M.count, .int .i64 M.free] t)
  refine ⟨by rw [cell_of_row _ _ 0 _ _ _ hB]; rfl, by rw [cell_of_row _ _ 1 _ _ _ hB]; rfl, by rw [cell_of_row _ _ 2 _ _ _ hB]; rfl, fun j => frozen_of_row _ _ j _ _ hB, by omega, fun k hk j hj => ⟨O1.cell (hS k hk j hj).1 (by simp), ?_⟩⟩
  exact (O1.frozen (p := ⟨g, k * 72 + j, none⟩) hg (by simp)).trans (hS k hk j hj).2

set_option maxRecDepth 100000 in
set_option maxHeartbeats 1000000 in
/-- Copy: a memory of its own, that says the same. -/
theorem copy_all {mb sb n : Nat} {M : MemS} {w : World} (H : MemAt w mb sb n M) (hn0 : 0 < n) (hn : n ≤ 1024) :
    Calls Try.prog 26 #[.pointer (some ⟨mb, 0, none⟩)] w fun e w' => ∃ mb' sb' cap, e = .returned (.pointer (some ⟨mb', 0, none⟩)) ∧ MemAt w' mb' sb' n { M with cap := cap } ∧ Off [] w w' ∧ w.heap.size ≤ mb' ∧ w.heap.size ≤ sb' := by
  have h0 := H.segs
  have h1 := H.count
  have h2 := H.free
  have HC : Hid (∀ w1, Off [] w w1 → Calls Try.prog 62 #[.slice (some ⟨sb, 0, none⟩) n M.cap] w1 fun e w' => ∃ g cap, e = .returned (.slice (some ⟨g, 0, none⟩) n cap) ∧ SegsAt w' g n M.S ∧ Off [] w w' ∧ w.heap.size ≤ g ∧ g < w'.heap.size) := Lib.hid (fun w1 O => by
    refine (clone_some (c := M.cap) (H.off hn0 O (by simp) (by simp)).body hn0 hn).mono ?_
    rintro e w' ⟨g, cap, e1, h1, h2, h3, h4⟩
    exact ⟨g, cap, e1, h1, O.trans h2, Nat.le_trans O.size h3, h4⟩)
  have keep : ∀ w', Off [] w w' → Off [] w w' ∧ w'.cell? ⟨mb, 0, none⟩ = some (.slice (some ⟨sb, 0, none⟩) n M.cap) ∧ w'.cell? ⟨mb, 1, none⟩ = some (.int .i64 M.count) ∧ w'.cell? ⟨mb, 2, none⟩ = some (.int .i64 M.free) := fun w' O => ⟨O, O.cell h0 (by simp), O.cell h1 (by simp), O.cell h2 (by simp)⟩
  have hO0 := Off.refl [] w
  clear H h0 h1 h2
  go_enter Try.func26, Try.ntmps26
  go_wp2_with fail
  go_region_held3 (fun w' => Off [] w w' ∧ w'.cell? ⟨mb, 0, none⟩ = some (.slice (some ⟨sb, 0, none⟩) n M.cap) ∧ w'.cell? ⟨mb, 1, none⟩ = some (.int .i64 M.count) ∧ w'.cell? ⟨mb, 2, none⟩ = some (.int .i64 M.free))
    (first | with_reducible assumption | with_reducible exact keep _ (Off.drew hO0) | with_reducible exact keep _ (‹Off [] w _›) | with_reducible exact keep _ (Off.alloc (‹Off [] w _›) _) | (trace_state; fail))
    (first
      | (go_at_call 62; refine (HC.out _ (‹Off [] w _ ∧ _›).1).mono ?_; rintro e w' ⟨g, cap, rfl, hS, O, hg1, hg2⟩)
      | fail)
  have hfin := MemAt.copied (M := M) (n := n) (cap := cap) (t := 57) hS O hg2
  have hsz := O.size
  have HF := Lib.hid hfin
  have HO := Lib.hid (O.alloc (.cells #[.slice (some ⟨g, 0, none⟩) n cap, .int .i64 M.count, .int .i64 M.free] 57))
  have HG := Lib.hid hg1
  clear hfin hS O hg1 hg2
  rename_i hh1
  clear hh1
  go_wp2
  go_ret
  exact ⟨_, g, cap, rfl, HF.out, HO.out, hsz, HG.out⟩
end Go.Proofs.Ytoafoodgomnfeaa
