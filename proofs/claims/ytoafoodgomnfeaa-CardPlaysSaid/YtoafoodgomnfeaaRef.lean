/-
  YtoafoodgomnfeaaRef: the document's memory as it lies: its list of segments, in the order in which they were taken, and their words.
-/
import Derived.Test.YtoafoodgomnfeaaVainP
namespace Go.Proofs.Ytoafoodgomnfeaa
open Go.RowKit
set_option linter.unusedVariables false

/-- Cell j of the nine of segment k. -/
def cellR (M : MemS) (V : Nat → Value) (k : Nat) : Nat → Value
  | 0 => .int .i64 (k : Int)
  | 1 => .int .i64 (M.S k).gen
  | 2 => .int .i64 (M.S k).kind
  | 3 => .int .i64 (M.S k).n
  | 4 => .int .i64 (M.S k).c0
  | 5 => .int .i64 (M.S k).c1
  | 6 => .int .i64 (M.S k).c2
  | 7 => .int .i64 (M.S k).c3
  | _ => V k
def rowR (M : MemS) (V : Nat → Value) (T : List Nat) : List Value := (List.range (T.length * 9)).map fun q => cellR M V (T.getD (q / 9) 0) (q % 9)
def wordsR (M : MemS) (k : Nat) : List Value := (List.range (M.S k).n.toNat).map fun j => .int .u64 ((M.S k).words j)

structure RefAt (w : World) (rb N : Nat) (M : MemS) (T : List Nat) (V : Nat → Value) (v : Value) : Prop where
  n0 : w.cell? ⟨rb, 0, none⟩ = some (.int .i64 N)
  l : w.cell? ⟨rb, 1, none⟩ = some v
  fz : w.frozen? ⟨rb, 1, none⟩ = false
  row : w.ownsRow 0 125 9 v T.length (rowR M V T)
  wrow : ∀ k, k ∈ T → w.ownsRow 0 29 1 (V k) (M.S k).n.toNat (wordsR M k)
  apv : v.ownBlock ≠ some rb
  ap1 : ∀ k, k ∈ T → ∀ b, (V k).ownBlock = some b → v.ownBlock ≠ some b ∧ b ≠ rb
  ap2 : ∀ k, k ∈ T → ∀ k', k' ∈ T → k ≠ k' → ∀ b, (V k).ownBlock = some b → (V k').ownBlock ≠ some b

/-- A block is the document's. -/
def RefOwn (rb : Nat) (T : List Nat) (V : Nat → Value) (v : Value) (b : Nat) : Prop := b = rb ∨ v.ownBlock = some b ∨ ∃ k, k ∈ T ∧ (V k).ownBlock = some b

theorem ownsRow_off2 {L : List Nat} {w w' : World} {base : Nat} {e : TypeId} {size : Nat} {v : Value} {n : Nat} {xs : List Value} (h : w.ownsRow base e size v n xs) (O : Off L w w') (hL : ∀ b, v.ownBlock = some b → b ∉ L) : w'.ownsRow base e size v n xs := by
  refine ⟨h.1, ?_⟩
  rcases h.2 with h2 | ⟨g, cap, cur, a, b, c, d⟩
  · exact .inl h2
  · subst a
    exact .inr ⟨g, cap, cur, rfl, b, (O.block g (Array.getElem?_eq_some_iff.1 c).1 (hL g rfl)).trans c, d⟩
theorem RefAt.off {L : List Nat} {w w' : World} {rb N : Nat} {M : MemS} {T : List Nat} {V : Nat → Value} {v : Value} (h : RefAt w rb N M T V v) (O : Off L w w') (hL : ∀ b, RefOwn rb T V v b → b ∉ L) : RefAt w' rb N M T V v :=
  ⟨O.cell h.n0 (hL rb (.inl rfl)), O.cell h.l (hL rb (.inl rfl)), (O.frozen (p := ⟨rb, 1, none⟩) (World.block_lt_of_cell? _ _ h.l) (hL rb (.inl rfl))).trans h.fz,
    ownsRow_off2 h.row O (fun b hb => hL b (.inr (.inl hb))), fun k hk => ownsRow_off2 (h.wrow k hk) O (fun b hb => hL b (.inr (.inr ⟨k, hk, hb⟩))), h.apv, h.ap1, h.ap2⟩
theorem RefAt.lt {w : World} {rb N : Nat} {M : MemS} {T : List Nat} {V : Nat → Value} {v : Value} (h : RefAt w rb N M T V v) {b : Nat} (hb : RefOwn rb T V v b) : b < w.heap.size := by
  rcases hb with rfl | hb | ⟨k, hk, hb⟩
  · exact World.block_lt_of_cell? _ _ h.l
  · exact (h.row.lt b hb).2
  · exact ((h.wrow k hk).lt b hb).2

theorem ownsRow_form {w : World} {e : TypeId} {size : Nat} {v : Value} {n : Nat} {xs : List Value} (h : w.ownsRow 0 e size v n xs) :
    ∃ (a : Option Addr) (cap g : Nat), v = .slice a n cap ∧ (0 < n → a = some ⟨g, 0, none⟩ ∧ v.ownBlock = some g) ∧ ∀ q, q < n * size → w.cell? ⟨g, q, none⟩ = xs[q]? ∧ w.frozen? ⟨g, q, none⟩ = false := by
  rcases h.2 with ⟨rfl, hn⟩ | ⟨g, cap, cur, rfl, _, _⟩
  · subst hn
    exact ⟨none, 0, 0, rfl, fun h => absurd h (by omega), fun q hq => by omega⟩
  · exact ⟨_, cap, g, rfl, fun _ => ⟨rfl, rfl⟩, fun q hq => ⟨h.cellAt q hq, h.frozenAt q⟩⟩

theorem rowR_get (M : MemS) (V : Nat → Value) (T : List Nat) (i j : Nat) (hi : i < T.length) (hj : j < 9) : (rowR M V T)[i * 9 + j]? = some (cellR M V (T.getD i 0) j) := by
  unfold rowR
  rw [List.getElem?_map, List.getElem?_range (by omega)]
  simp only [Option.map_some]
  rw [show (i * 9 + j) / 9 = i by omega, show (i * 9 + j) % 9 = j by omega]
theorem wordsR_get (M : MemS) (k j : Nat) (hj : (j : Int) < (M.S k).n) : (wordsR M k)[j]? = some (.int .u64 ((M.S k).words j)) := by
  unfold wordsR
  rw [List.getElem?_map, List.getElem?_range (by omega)]
  rfl
/-- The list as it lies. -/
theorem RefAt.form {w : World} {rb N : Nat} {M : MemS} {T : List Nat} {V : Nat → Value} {v : Value} (h : RefAt w rb N M T V v) :
    ∃ (a : Option Addr) (cap g : Nat), v = .slice a T.length cap ∧ (0 < T.length → a = some ⟨g, 0, none⟩ ∧ v.ownBlock = some g) ∧ ∀ i j, i < T.length → j < 9 → w.cell? ⟨g, i * 9 + j, none⟩ = some (cellR M V (T.getD i 0) j) ∧ w.frozen? ⟨g, i * 9 + j, none⟩ = false := by
  obtain ⟨a, cap, g, hv, ha, hc⟩ := ownsRow_form h.row
  exact ⟨a, cap, g, hv, ha, fun i j hi hj => by
    have := hc (i * 9 + j) (by omega)
    rw [rowR_get M V T i j hi hj] at this
    exact this⟩

theorem getD_mem {T : List Nat} {i : Nat} (h : i < T.length) : T.getD i 0 ∈ T := by rw [List.getD, List.getElem?_eq_getElem h]; exact List.getElem_mem h
theorem getD_inj {T : List Nat} (hnd : T.Nodup) {i j : Nat} (hi : i < T.length) (hj : j < T.length) (e : T.getD i 0 = T.getD j 0) : i = j := by
  rw [List.getD, List.getD, List.getElem?_eq_getElem hi, List.getElem?_eq_getElem hj] at e
  exact (List.getElem_inj hnd).1 e
theorem mem_getD {T : List Nat} {k : Nat} (h : k ∈ T) : ∃ i, i < T.length ∧ T.getD i 0 = k := by
  obtain ⟨i, hi, e⟩ := List.getElem_of_mem h
  exact ⟨i, hi, by rw [List.getD, List.getElem?_eq_getElem hi]; exact e⟩

/-- 'Place' of a segment that is in the list. -/
theorem place_yes {w : World} {rb N : Nat} {M : MemS} {T : List Nat} {V : Nat → Value} {v : Value} (h : RefAt w rb N M T V v) (hl : T.length ≤ 1024) (hnd : T.Nodup) (i : Nat) (hi : i < T.length) :
    Calls Try.prog 91 #[.pointer (some ⟨rb, 0, none⟩), .int .i64 ((T.getD i 0 : Nat) : Int)] w fun e w' => e = .returned (.int .i64 i) ∧ w = w' := by
  obtain ⟨a, cap, g, rfl, ha, hc⟩ := h.form
  obtain ⟨rfl, _⟩ := ha (by omega)
  have h1 := h.l
  have HC := Lib.hid hc
  have ND := Lib.hid hnd
  clear h hc hnd ha
  go_enter Try.func91, Try.ntmps91
  go_wp2
  go_loop [5] (fun v => ∃ j : Nat, j ≤ i ∧ v = .int .i64 j) (fun v => i - (intOf v).toNat)
  case atStart => exact ⟨0, by omega, rfl⟩
  case round =>
    obtain ⟨j, hj, rfl⟩ := hrel
    have c0 := (HC.out j 0 (by omega) (by omega)).1
    simp only [cellR, Nat.add_zero] at c0
    by_cases hlt : j < i
    · have hne : T.getD j 0 ≠ T.getD i 0 := fun e => by have := getD_inj ND.out (by omega) hi e; omega
      have e1 : (((T.getD j 0 : Nat) : Int) == ((T.getD i 0 : Nat) : Int)) = false := beq_eq_false_iff_ne.2 (by omega)
      generalize T.getD j 0 = x at *
      generalize T.getD i 0 = y at *
      clear hne
      go_wp2
      go_round
      case rel => exact ⟨j + 1, by omega, by go_num⟩
      case measure => simp [intOf]; omega
    · obtain rfl : j = i := by omega
      generalize T.getD j 0 = y at *
      go_wp2
      go_ret
      exact ⟨rfl, rfl⟩
theorem place_no {w : World} {rb N : Nat} {M : MemS} {T : List Nat} {V : Nat → Value} {v : Value} (h : RefAt w rb N M T V v) (hl : T.length ≤ 1024) (x : Int) (hx : ∀ k, k ∈ T → (k : Int) ≠ x) :
    Calls Try.prog 91 #[.pointer (some ⟨rb, 0, none⟩), .int .i64 x] w fun e w' => e = .returned (.int .i64 (-1)) ∧ w = w' := by
  obtain ⟨a, cap, g, rfl, ha, hc⟩ := h.form
  have h1 := h.l
  have HC := Lib.hid hc
  have HX := Lib.hid hx
  have HA := Lib.hid ha
  clear h hc hx ha
  go_enter Try.func91, Try.ntmps91
  go_wp2
  go_loop [5] (fun v => ∃ j : Nat, j ≤ T.length ∧ v = .int .i64 j) (fun v => T.length - (intOf v).toNat)
  case atStart => exact ⟨0, by omega, rfl⟩
  case round =>
    obtain ⟨j, hj, rfl⟩ := hrel
    by_cases hlt : j < T.length
    · obtain ⟨rfl, _⟩ := HA.out (by omega)
      have c0 := (HC.out j 0 (by omega) (by omega)).1
      simp only [cellR, Nat.add_zero] at c0
      have e1 : (((T.getD j 0 : Nat) : Int) == x) = false := beq_eq_false_iff_ne.2 (HX.out _ (getD_mem hlt))
      generalize T.getD j 0 = y at *
      go_wp2
      go_round
      case rel => exact ⟨j + 1, by omega, by go_num⟩
      case measure => simp [intOf]; omega
    · obtain rfl : j = T.length := by omega
      go_wp2
      go_ret
      exact ⟨rfl, rfl⟩
end Go.Proofs.Ytoafoodgomnfeaa
