/-
  YtoafoodgomnfeaaSopen: what the law of spaces is handed, as plain data.
-/
import Derived.Test.YtoafoodgomnfeaaSplays
namespace Go.Proofs.Ytoafoodgomnfeaa
open Go.ChangeShapes Go.WideShapes Go.ChangeAt Go.RowKit
set_option linter.unusedVariables false
theorem cells70 : Try.prog.cellsOf 70 = 5 := by kernel_rfl
theorem cells47 : Try.prog.cellsOf 47 = 1 := by kernel_rfl

section
variable {H : Type} {enc : TypeId × Value → H} {w : World} {base : Nat} {spare : Nat → Bool} {held : Bool}
/-- A slice of numbers. -/
theorem open_gens {fuel : Nat} {cs : List Value} {x : DataW H × List MemPlace} (h : DataW.trod enc Try.prog w base spare held fuel 47 cs = some x) : ∃ v G, cs = [v] ∧ GensAt w (List.range w.heap.size) v G := by
  rcases Go.Deep.open_slice1 Try.underlying47 cells3 h with ⟨rfl, _⟩ | ⟨x, l, c, m, n, V, D, Pl, rfl, _, _, _, hmm, _, hel⟩
  · exact ⟨_, [], rfl, GensAt.nil _ _⟩
  · have hlm : l ≤ m := by rw [hmm]; split <;> omega
    have key : ∀ i, ∃ k : Int, i < l → w.cell? (x.add i) = some (.int .i64 k) := fun i => by
      by_cases hi : i < l
      · obtain ⟨h1, h2⟩ := hel i (by omega)
        obtain ⟨n0, c0, _, _⟩ := DataW.trod_int Try.underlying3 h2
        simp at c0
        exact ⟨n0, fun _ => by rw [h1, c0]⟩
      · exact ⟨0, fun h => absurd h hi⟩
    obtain ⟨f, hf⟩ := Classical.axiomOfChoice key
    obtain ⟨b, o, s⟩ := x
    have hlen : ((List.range l).map f).length = l := by simp
    refine ⟨_, (List.range l).map f, rfl, some ⟨b, o, s⟩, c, b, o, by rw [hlen], fun hp => ?_, fun i hi => ?_⟩
    · rw [hlen] at hp
      have h0 := hf 0 hp
      have hs := World.cell?_spot h0
      simp [Addr.add] at hs
      subst hs
      have hb := World.block_lt_of_cell? _ _ h0
      refine ⟨rfl, ?_⟩
      rw [List.mem_range]
      simpa [Addr.add] using hb
    · rw [hlen] at hi
      have h0 := hf i hi
      have hs := World.cell?_spot (hf 0 (by omega))
      simp [Addr.add] at hs
      subst hs
      rw [Addr.add_mid] at h0
      rw [h0]
      simp [List.getD, hi]

set_option maxRecDepth 100000 in
/-- A struct of four numbers and a slice of numbers. -/
theorem open_act8 {fuel : Nat} {t : TypeId} {fs : Array Field} {cs : List Value} {x : DataW H × List MemPlace} (hu : Try.prog.underlying t = some (.struct fs)) (hc : Try.prog.cellsOf t = 5)
    (hfs : fs.map (fun f => (f.type, f.offset)) = #[(3, 0), (3, 1), (3, 2), (3, 3), (47, 4)])
    (h : DataW.trod enc Try.prog w base spare held fuel t cs = some x) :
    ∃ Y : ActT, Y.a ≤ 9223372036854775807 ∧ GensAt w (List.range w.heap.size) Y.v Y.G ∧ cs = [Y.cellOf 0, Y.cellOf 1, Y.cellOf 2, Y.cellOf 3, Y.cellOf 4] := by
  obtain ⟨xs, n, _, rfl, hl, hlen, hf⟩ := DataW.trod_struct hu h
  rw [hc] at hl
  obtain ⟨a0, a1, a2, a3, a4, rfl⟩ : ∃ a0 a1 a2 a3 a4, cs = [a0, a1, a2, a3, a4] := by
    match cs, hl with
    | [a0, a1, a2, a3, a4], _ => exact ⟨a0, a1, a2, a3, a4, rfl⟩
  have hsz : fs.size = 5 := by have := congrArg Array.size hfs; simpa using this
  have hget : ∀ i (hi : i < 5), ∃ f, fs[i]? = some f ∧ some (f.type, f.offset) = (#[(3, 0), (3, 1), (3, 2), (3, 3), (47, 4)] : Array (Nat × Nat))[i]? := fun i hi => by
    have : (fs.map (fun f => (f.type, f.offset)))[i]? = (#[(3, 0), (3, 1), (3, 2), (3, 3), (47, 4)] : Array (Nat × Nat))[i]? := by rw [hfs]
    rw [Array.getElem?_map, Array.getElem?_eq_getElem (by omega)] at this
    exact ⟨fs[i], Array.getElem?_eq_getElem (by omega), this⟩
  obtain ⟨f0, g0, e0⟩ := hget 0 (by omega)
  obtain ⟨f1, g1, e1⟩ := hget 1 (by omega)
  obtain ⟨f2, g2, e2⟩ := hget 2 (by omega)
  obtain ⟨f3, g3, e3⟩ := hget 3 (by omega)
  obtain ⟨f4, g4, e4⟩ := hget 4 (by omega)
  simp at e0 e1 e2 e3 e4
  have h0 := (hf 0 f0 (by simpa using g0)).trans (List.getElem?_eq_getElem (show 0 < xs.length by omega))
  have h1 := (hf 1 f1 (by simpa using g1)).trans (List.getElem?_eq_getElem (show 1 < xs.length by omega))
  have h2 := (hf 2 f2 (by simpa using g2)).trans (List.getElem?_eq_getElem (show 2 < xs.length by omega))
  have h3 := (hf 3 f3 (by simpa using g3)).trans (List.getElem?_eq_getElem (show 3 < xs.length by omega))
  have h4 := (hf 4 f4 (by simpa using g4)).trans (List.getElem?_eq_getElem (show 4 < xs.length by omega))
  rw [e0.1, e0.2, cells3] at h0
  rw [e1.1, e1.2, cells3] at h1
  rw [e2.1, e2.2, cells3] at h2
  rw [e3.1, e3.2, cells3] at h3
  rw [e4.1, e4.2, cells47] at h4
  obtain ⟨n0, c0, _, w0⟩ := DataW.trod_int Try.underlying3 h0
  obtain ⟨n1, c1, _, w1⟩ := DataW.trod_int Try.underlying3 h1
  obtain ⟨n2, c2, _, w2⟩ := DataW.trod_int Try.underlying3 h2
  obtain ⟨n3, c3, _, w3⟩ := DataW.trod_int Try.underlying3 h3
  obtain ⟨v, G, c4, hG⟩ := open_gens h4
  simp at c0 c1 c2 c3 c4
  have b1 := Go.bounds_i64 w1
  exact ⟨⟨n0, n1, n2, n3, v, G⟩, b1.2, hG, by rw [c0, c1, c2, c3, c4]; rfl⟩

/-- A slice of such structs. -/
theorem open_acts8 {t e : TypeId} {fs : Array Field} {a : Option Addr} {len cap : Nat} {d : DataW H} {p : List MemPlace} (ht : Try.prog.underlying t = some (.slice e)) (hu : Try.prog.underlying e = some (.struct fs)) (hc : Try.prog.cellsOf e = 5)
    (hfs : fs.map (fun f => (f.type, f.offset)) = #[(3, 0), (3, 1), (3, 2), (3, 3), (47, 4)])
    (h : DataW.Trod enc Try.prog w base spare held t (.slice a len cap) d p) : ∃ Y : Nat → ActT, Acts8At w a len Y := by
  have dflt : ActT := ⟨0, 0, 0, 0, .slice none 0 0, []⟩
  obtain ⟨fuel, hf⟩ := h
  rcases Go.Deep.open_slice ht hf with ⟨hcs, _⟩ | ⟨x, l, c, m, n, D, Pl, hcs, _, hl, hm, hmm, _, hel⟩
  · simp [Value.cells] at hcs
    obtain ⟨rfl, rfl, rfl⟩ := hcs
    exact ⟨fun _ => dflt, 0, 0, fun h => absurd h (by omega), fun i hi => absurd hi (by omega)⟩
  · simp [Value.cells] at hcs
    obtain ⟨rfl, rfl, rfl⟩ := hcs
    have hlm : len ≤ m := by rw [hmm]; split <;> omega
    have key : ∀ i, i < len → ∃ Y : ActT, Y.a ≤ 9223372036854775807 ∧ GensAt w (List.range w.heap.size) Y.v Y.G ∧ ∀ j, j < 5 → w.cell? ((x.add (i * 5)).add j) = some (Y.cellOf j) := fun i hi => by
      obtain ⟨cs', h1, h2⟩ := hel i (by omega)
      rw [hc] at h1
      obtain ⟨Y, hY, hG, rfl⟩ := open_act8 hu hc hfs h2
      obtain ⟨_, _, h3⟩ := World.cells?_some h1
      refine ⟨Y, hY, hG, fun j hj => ?_⟩
      rw [h3 j hj]
      match j, hj with
      | 0, _ | 1, _ | 2, _ | 3, _ | 4, _ => rfl
    obtain ⟨b, o, s⟩ := x
    by_cases hs : s = none
    · subst hs
      have : ∀ i, ∃ Y : ActT, i < len → Y.a ≤ 9223372036854775807 ∧ GensAt w (List.range w.heap.size) Y.v Y.G ∧ ∀ j, j < 5 → w.cell? (((⟨b, o, none⟩ : Addr).add (i * 5)).add j) = some (Y.cellOf j) := fun i => by
        by_cases hi : i < len
        · obtain ⟨Y, h1, h2, h3⟩ := key i hi; exact ⟨Y, fun _ => ⟨h1, h2, h3⟩⟩
        · exact ⟨dflt, fun h => absurd h hi⟩
      obtain ⟨Y, hY⟩ := Classical.axiomOfChoice this
      refine ⟨Y, b, o, fun _ => rfl, fun i hi => ⟨fun j hj => ?_, (hY i hi).1, (hY i hi).2.1⟩⟩
      have := (hY i hi).2.2 j hj
      rw [Addr.add_mid, Addr.add_mid] at this
      exact this
    · by_cases h0 : 0 < len
      · obtain ⟨Y, _, _, h2⟩ := key 0 h0
        have := World.cell?_spot (h2 0 (by omega))
        simp [Addr.add] at this
        exact absurd this hs
      · exact ⟨fun _ => dflt, b, o, fun h => absurd h h0, fun i hi => absurd hi (by omega)⟩
end
end Go.Proofs.Ytoafoodgomnfeaa
