/-
  YtoafoodgomnfeaaMem: the memory of package seg as plain data: what lies in its two blocks, and what stays as it was.
-/
import Derived.Test.YtoafoodgomnfeaaRows
import Derived.WalkKit
import Derived.WalkSpells
import Derived.WalkLawsBesides
import Derived.Deep.MidRow
import Derived.Lib.Hide
import Derived.StillTailTactics
import Derived.BigRegion
import Derived.BigQuiet
import Derived.Outline
namespace Go.Proofs.Ytoafoodgomnfeaa
open Go.RowKit
set_option linter.unusedVariables false

/-- Every block of w that is not in L is in w' as it was; the streams too. -/
structure Off (L : List Nat) (w w' : World) : Prop where
  os : w'.os = w.os
  tape : w'.tape = w.tape
  output : w'.output = w.output
  size : w.heap.size ≤ w'.heap.size
  block : ∀ k, k < w.heap.size → k ∉ L → w'.heap[k]? = w.heap[k]?

theorem Off.refl (L : List Nat) (w : World) : Off L w w := ⟨rfl, rfl, rfl, Nat.le_refl _, fun _ _ _ => rfl⟩
theorem Off.trans {L : List Nat} {a b c : World} (h : Off L a b) (k : Off L b c) : Off L a c :=
  ⟨k.os.trans h.os, k.tape.trans h.tape, k.output.trans h.output, Nat.le_trans h.size k.size, fun i hi hn => (k.block i (Nat.lt_of_lt_of_le hi h.size) hn).trans (h.block i hi hn)⟩
theorem Off.mono {L L' : List Nat} {w w' : World} (h : Off L w w') (hL : ∀ k, k ∈ L → k ∈ L') : Off L' w w' :=
  ⟨h.os, h.tape, h.output, h.size, fun k hk hn => h.block k hk (fun e => hn (hL k e))⟩
theorem Off.drew {L : List Nat} {a w : World} (h : Off L a w) : Off L a w.drew := ⟨h.os, h.tape, h.output, h.size, h.block⟩
theorem Off.drewN {L : List Nat} {a w : World} (h : Off L a w) (n : Nat) : Off L a (w.drewN n) := ⟨h.os, h.tape, h.output, h.size, h.block⟩
theorem Off.alloc {L : List Nat} {a w : World} (h : Off L a w) (o : Obj) : Off L a (w.alloc o) :=
  h.trans ⟨rfl, rfl, rfl, by simp, fun k hk _ => Below.heap_alloc _ _ _ hk⟩
theorem Off.setCell {L : List Nat} {a w : World} (h : Off L a w) {p : Addr} (hp : p.block ∈ L ∨ a.heap.size ≤ p.block) (u : Value) : Off L a (w.setCell p u) := by
  refine ⟨h.os, h.tape, h.output, by simpa [World.setCell] using h.size, fun k hk hn => ?_⟩
  rw [Below.heap_setCell _ _ _ _ (fun e => by rcases hp with hp | hp; exact hn (e ▸ hp); omega)]
  exact h.block k hk hn
theorem Off.setCells {L : List Nat} {a : World} (b : Nat) (hp : b ∈ L ∨ a.heap.size ≤ b) : ∀ (vs : List Value) (o : Nat) {w : World}, Off L a w → Off L a (w.setCells b o vs)
  | [], _, _, h => h
  | _ :: r, o, _, h => Off.setCells b hp r (o + 1) (h.setCell (p := ⟨b, o, none⟩) hp _)
theorem Off.below {L : List Nat} {B : Nat} {w w' : World} (h : Off L w w') (hL : ∀ k, k ∈ L → B ≤ k) (hB : B ≤ w.heap.size) : Below B w w' :=
  ⟨h.os, h.tape, h.output, h.size, fun k hk => h.block k (by omega) (fun e => by have := hL k e; omega)⟩
theorem Off.of_below {B : Nat} {w w' : World} (h : Below B w w') (hB : w.heap.size ≤ B) (L : List Nat) : Off L w w' :=
  ⟨h.os, h.tape, h.output, h.size, fun k hk _ => h.block k (by omega)⟩
theorem Off.cell {L : List Nat} {w w' : World} (h : Off L w w') {p : Addr} {v : Value} (hc : w.cell? p = some v) (hn : p.block ∉ L) : w'.cell? p = some v := by
  rw [World.cell?_of_block (w := w) (h.block p.block (World.block_lt_of_cell? w _ hc) hn)]; exact hc
theorem Off.frozen {L : List Nat} {w w' : World} (h : Off L w w') {p : Addr} (hc : p.block < w.heap.size) (hn : p.block ∉ L) : w'.frozen? p = w.frozen? p :=
  World.frozen?_of_block (w := w) (h.block p.block hc hn)

/-- A segment: what is told of it, when it was taken (0: it is free), its words. -/
structure SegS where
  gen : Int
  kind : Int
  n : Int
  c0 : Int
  c1 : Int
  c2 : Int
  c3 : Int
  taken : Int
  words : Nat → Int

def SegS.zero : SegS := ⟨0, 0, 0, 0, 0, 0, 0, 0, fun _ => 0⟩

/-- Cell j of a segment's 72. -/
def SegS.cellOf (s : SegS) : Nat → Value
  | 0 => .int .i64 s.gen
  | 1 => .int .i64 s.kind
  | 2 => .int .i64 s.n
  | 3 => .int .i64 s.c0
  | 4 => .int .i64 s.c1
  | 5 => .int .i64 s.c2
  | 6 => .int .i64 s.c3
  | 7 => .int .i64 s.taken
  | j + 8 => .int .u64 (s.words j)

def SegS.cells (s : SegS) : List Value := (List.range 72).map s.cellOf
theorem SegS.cells_length (s : SegS) : s.cells.length = 72 := by simp [SegS.cells]

/-- The block of all segments. -/
def SegsAt (w : World) (sb n : Nat) (S : Nat → SegS) : Prop :=
  ∀ k, k < n → ∀ j, j < 72 → w.cell? ⟨sb, k * 72 + j, none⟩ = some ((S k).cellOf j) ∧ w.frozen? ⟨sb, k * 72 + j, none⟩ = false

structure MemS where
  S : Nat → SegS
  count : Int
  free : Int
  /-- the capacity of the slice of segments: nobody asks for it -/
  cap : Nat

structure MemAt (w : World) (mb sb n : Nat) (M : MemS) : Prop where
  segs : w.cell? ⟨mb, 0, none⟩ = some (.slice (some ⟨sb, 0, none⟩) n M.cap)
  count : w.cell? ⟨mb, 1, none⟩ = some (.int .i64 M.count)
  free : w.cell? ⟨mb, 2, none⟩ = some (.int .i64 M.free)
  fz : ∀ j, w.frozen? ⟨mb, j, none⟩ = false
  ne : mb ≠ sb
  body : SegsAt w sb n M.S

theorem MemAt.gen {w : World} {mb sb n : Nat} {M : MemS} (h : MemAt w mb sb n M) {k : Nat} (hk : k < n) : w.cell? ⟨sb, k * 72, none⟩ = some (.int .i64 (M.S k).gen) := (h.body k hk 0 (by omega)).1
theorem MemAt.kind {w : World} {mb sb n : Nat} {M : MemS} (h : MemAt w mb sb n M) {k : Nat} (hk : k < n) : w.cell? ⟨sb, k * 72 + 1, none⟩ = some (.int .i64 (M.S k).kind) := (h.body k hk 1 (by omega)).1
theorem MemAt.used {w : World} {mb sb n : Nat} {M : MemS} (h : MemAt w mb sb n M) {k : Nat} (hk : k < n) : w.cell? ⟨sb, k * 72 + 2, none⟩ = some (.int .i64 (M.S k).n) := (h.body k hk 2 (by omega)).1
theorem MemAt.taken {w : World} {mb sb n : Nat} {M : MemS} (h : MemAt w mb sb n M) {k : Nat} (hk : k < n) : w.cell? ⟨sb, k * 72 + 7, none⟩ = some (.int .i64 (M.S k).taken) := (h.body k hk 7 (by omega)).1
theorem MemAt.word {w : World} {mb sb n : Nat} {M : MemS} (h : MemAt w mb sb n M) {k : Nat} (hk : k < n) {j : Nat} (hj : j < 64) : w.cell? ⟨sb, k * 72 + 8 + j, none⟩ = some (.int .u64 ((M.S k).words j)) := by
  have := (h.body k hk (8 + j) (by omega)).1
  rw [← Nat.add_assoc, Nat.add_comm 8 j] at this
  exact this

theorem MemAt.mb_lt {w : World} {mb sb n : Nat} {M : MemS} (h : MemAt w mb sb n M) : mb < w.heap.size := World.block_lt_of_cell? w _ h.segs
theorem MemAt.sb_lt {w : World} {mb sb n : Nat} {M : MemS} (h : MemAt w mb sb n M) (hn : 0 < n) : sb < w.heap.size := World.block_lt_of_cell? w _ (h.gen hn)

/-- A world in which neither block has turned. -/
theorem MemAt.off {w w' : World} {mb sb n : Nat} {M : MemS} {L : List Nat} (h : MemAt w mb sb n M) (hn : 0 < n) (ho : Off L w w') (h1 : mb ∉ L) (h2 : sb ∉ L) : MemAt w' mb sb n M :=
  ⟨ho.cell h.segs h1, ho.cell h.count h1, ho.cell h.free h1, fun j => (ho.frozen (p := ⟨mb, j, none⟩) h.mb_lt h1).trans (h.fz j), h.ne,
    fun k hk j hj => ⟨ho.cell (h.body k hk j hj).1 h2, (ho.frozen (p := ⟨sb, k * 72 + j, none⟩) (h.sb_lt hn) h2).trans (h.body k hk j hj).2⟩⟩

/-! ### 'segment{..}': one law for each way to build a segment, ahead of any unfolding -/
def segBuild (x y : Value) : Sem Next := do pure (.value (← Instr.build 110 #[(0, x), (1, y)]))
def segBuild0 : Sem Next := do pure (.value (← Instr.build 110 #[]))
@[go_sem ↓] theorem execOp_build_seg (ρ : Operand → Value) (dst : Option Tmp) (x y : Operand) (ty : TypeId) (pos : String) (after : Array Edge) (guard : Option (Nat × Bool)) :
    execOp ρ { dst, op := .build 110 #[(0, x), (1, y)], type := ty, pos, after, guard } = segBuild (ρ x) (ρ y) := by
  simp [execOp, segBuild]
@[go_sem ↓] theorem execOp_build_seg0 (ρ : Operand → Value) (dst : Option Tmp) (ty : TypeId) (pos : String) (after : Array Edge) (guard : Option (Nat × Bool)) :
    execOp ρ { dst, op := .build 110 #[], type := ty, pos, after, guard } = segBuild0 := by
  simp [execOp, segBuild0]
def SegS.arr (s : SegS) : Array Value := s.cells.toArray
theorem SegS.arr_size (s : SegS) : s.arr.size = 72 := by simp [SegS.arr, SegS.cells]
theorem SegS.arr_one (s : SegS) : s.arr.all (·.oneCell') = true := by
  refine all_oneCell_toArray fun v hv => ?_
  obtain ⟨j, hj, rfl⟩ := List.mem_map.1 hv
  match j with
  | 0 | 1 | 2 | 3 | 4 | 5 | 6 | 7 => rfl
  | j + 8 => rfl
@[go_sem] theorem run_segBuild (g k n c0 c1 c2 c3 t : Int) (w : World) :
    (segBuild (.agg #[.int .i64 g, .int .i64 k, .int .i64 n, .int .i64 c0, .int .i64 c1, .int .i64 c2, .int .i64 c3]) (.int .i64 t)).run Try.prog w = .ok (.value (.agg (SegS.arr ⟨g, k, n, c0, c1, c2, c3, t, fun _ => 0⟩))) w := by
  kernel_rfl
@[go_sem] theorem run_segBuild0 (w : World) : segBuild0.run Try.prog w = .ok (.value (.agg SegS.zero.arr)) w := by
  kernel_rfl

/-- A region that draws its order, all but its last operations only read: the world behind the draw is a variable. -/
theorem region_tail {P : Program} {id : Nat} {Q : Exit → Act → World → Prop} {a : Act} {w : World} {l : List Oper} (n : Nat) (hm : P.follows .mixedOrders = true) (hB : Region.lexTailB .any l.toArray n = true)
    (h : ∀ w', w.drew = w' → wpStill P l.toArray w' (fun a' => wpList P l.toArray Q (l.drop n) a' w') (l.take n) a) : (Code.region id l.toArray true).wp P Q a w :=
  wp_region_still_tail n hm hB (h _ rfl)


theorem MemAt.drew {w : World} {mb sb n : Nat} {M : MemS} (h : MemAt w mb sb n M) : MemAt w.drew mb sb n M := ⟨h.segs, h.count, h.free, h.fz, h.ne, h.body⟩
theorem MemAt.setCount {w : World} {mb sb n : Nat} {M : MemS} (h : MemAt w mb sb n M) (c : Int) : MemAt (w.setCell ⟨mb, 1, none⟩ (.int .i64 c)) mb sb n { M with count := c } :=
  ⟨by rw [World.cell?_setCell_other _ _ _ _ (by simp)]; exact h.segs, World.cell?_setCell_same _ _ _ h.count, by rw [World.cell?_setCell_other _ _ _ _ (by simp)]; exact h.free,
    fun j => by rw [World.frozen?_setCell]; exact h.fz j, h.ne, fun k hk j hj => ⟨by rw [World.cell?_setCell_other _ _ _ _ (by simp [h.ne])]; exact (h.body k hk j hj).1, by rw [World.frozen?_setCell]; exact (h.body k hk j hj).2⟩⟩
theorem MemAt.setFree {w : World} {mb sb n : Nat} {M : MemS} (h : MemAt w mb sb n M) (c : Int) : MemAt (w.setCell ⟨mb, 2, none⟩ (.int .i64 c)) mb sb n { M with free := c } :=
  ⟨by rw [World.cell?_setCell_other _ _ _ _ (by simp)]; exact h.segs, by rw [World.cell?_setCell_other _ _ _ _ (by simp)]; exact h.count, World.cell?_setCell_same _ _ _ h.free,
    fun j => by rw [World.frozen?_setCell]; exact h.fz j, h.ne, fun k hk j hj => ⟨by rw [World.cell?_setCell_other _ _ _ _ (by simp [h.ne])]; exact (h.body k hk j hj).1, by rw [World.frozen?_setCell]; exact (h.body k hk j hj).2⟩⟩

def MemS.put (M : MemS) (k : Nat) (s : SegS) : MemS := { M with S := fun i => if i = k then s else M.S i }
theorem SegsAt.there {w : World} {sb n : Nat} {S : Nat → SegS} (h : SegsAt w sb n S) {k : Nat} (hk : k < n) : w.there sb (k * 72) 72 := fun j hj => ⟨by rw [(h k hk j hj).1]; rfl, (h k hk j hj).2⟩
/-- A segment stored whole. -/
theorem MemAt.setSeg {w : World} {mb sb n : Nat} {M : MemS} (h : MemAt w mb sb n M) {k : Nat} (hk : k < n) (s : SegS) : MemAt (w.setCells sb (k * 72) s.cells) mb sb n (M.put k s) := by
  have hne := h.ne
  refine ⟨?_, ?_, ?_, fun j => by rw [World.frozen?_setCells]; exact h.fz j, h.ne, fun i hi j hj => ⟨?_, by rw [World.frozen?_setCells]; exact (h.body i hi j hj).2⟩⟩
  · rw [World.cell?_setCells_out _ _ _ _ _ (fun e => absurd e hne)]; exact h.segs
  · rw [World.cell?_setCells_out _ _ _ _ _ (fun e => absurd e hne)]; exact h.count
  · rw [World.cell?_setCells_out _ _ _ _ _ (fun e => absurd e hne)]; exact h.free
  · by_cases e : i = k
    · subst e
      have := World.cell?_setCells_in sb s.cells (i * 72) w (fun j hj => by rw [SegS.cells_length] at hj; exact (h.body.there hi j hj).1) j (by rw [SegS.cells_length]; exact hj)
      rw [this]
      simp [MemS.put, SegS.cells]
    · rw [World.cell?_setCells_out _ _ _ _ _ (fun _ _ => ?_)]
      · simp only [MemS.put, e, if_false]; exact (h.body i hi j hj).1
      · rw [SegS.cells_length]
        show i * 72 + j < k * 72 ∨ k * 72 + 72 ≤ i * 72 + j
        omega

def fresh (g k c : Int) : SegS := ⟨g, k, 0, 5, 5, 5, 5, c, fun _ => 0⟩

theorem info110 : (Try.prog.info? 110).map (·.size) = some 72 := by kernel_rfl
theorem info_seg (s : SegS) : (Try.prog.info? 110).map (·.size) = some s.arr.size := by rw [SegS.arr_size]; exact info110

/-- A segment stored whole: the world behind it is a variable, of which the memory is known. -/
theorem wpList_store_seg {ops : Array Oper} {rest : List Oper} {op : Oper} {a : Act} {w : World} {Q : Exit → Act → World → Prop} {mb sb n : Nat} {M : MemS} (H : MemAt w mb sb n M) {k : Nat} (hk : k < n) (s : SegS)
    (hgd : op.guard = none) (x y : Operand) (ho : op.op = .store 110 x y) (hx : a.eval x = .pointer (some ⟨sb, k * 72, none⟩)) (hy : a.eval y = .agg s.arr)
    (h : ∀ w1, MemAt w1 mb sb n (M.put k s) → Off [sb] w w1 → wpList Try.prog ops Q rest (a.put op.dst undef) w1) : wpList Try.prog ops Q (op :: rest) a w :=
  wpList_store_mid hgd 110 x y ho sb (k * 72) s.arr hx hy (by rw [SegS.arr_size]; exact H.body.there hk) (info_seg s) (SegS.arr_one s) (h _ (H.setSeg hk s) ((Off.refl _ _).setCells sb (by simp) _ _))

/-- A segment is taken: there is such a one, and when it was taken is no 0. -/
def MemS.isTaken (M : MemS) (n : Nat) (x : Int) : Prop := 0 ≤ x ∧ x < n ∧ (M.S x.toNat).taken ≠ 0
/-- What is told of a segment, as a value. -/
def SegS.told (s : SegS) : Value := .agg #[.int .i64 s.gen, .int .i64 s.kind, .int .i64 s.n, .int .i64 s.c0, .int .i64 s.c1, .int .i64 s.c2, .int .i64 s.c3]

/-- One cell of a segment turned: what the segment is behind it. -/
theorem MemAt.setField {w : World} {mb sb n : Nat} {M : MemS} (h : MemAt w mb sb n M) {k : Nat} (hk : k < n) (s : SegS) (i : Nat) (hi : i < 72) (v : Value) (hv : s.cellOf i = v) (hs : ∀ j, j < 72 → j ≠ i → s.cellOf j = (M.S k).cellOf j) :
    MemAt (w.setCell ⟨sb, k * 72 + i, none⟩ v) mb sb n (M.put k s) := by
  have hne := h.ne
  refine ⟨?_, ?_, ?_, fun j => by rw [World.frozen?_setCell]; exact h.fz j, h.ne, fun k' hk' j hj => ⟨?_, by rw [World.frozen?_setCell]; exact (h.body k' hk' j hj).2⟩⟩
  · rw [World.cell?_setCell_other _ _ _ _ (by simp)]; exact h.segs
  · rw [World.cell?_setCell_other _ _ _ _ (by simp)]; exact h.count
  · rw [World.cell?_setCell_other _ _ _ _ (by simp)]; exact h.free
  · by_cases e : k' = k
    · subst e
      simp only [MemS.put, if_true]
      by_cases ej : j = i
      · subst ej
        rw [World.cell?_setCell_same _ _ _ (h.body k' hk j hj).1, hv]
      · rw [World.cell?_setCell_other _ _ _ _ (by simp only [ne_eq, Addr.mk.injEq, true_and, and_true]; omega), hs j hj ej]
        exact (h.body k' hk j hj).1
    · rw [World.cell?_setCell_other _ _ _ _ (by simp only [ne_eq, Addr.mk.injEq, true_and, and_true]; omega)]
      simp only [MemS.put, e, if_false]
      exact (h.body k' hk' j hj).1

end Go.Proofs.Ytoafoodgomnfeaa
