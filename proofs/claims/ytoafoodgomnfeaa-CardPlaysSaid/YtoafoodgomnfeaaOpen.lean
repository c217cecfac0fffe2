/-
  YtoafoodgomnfeaaOpen: a slice of calls (five numbers each) that came in, opened.
-/
import Derived.Test.YtoafoodgomnfeaaLeast
import Derived.ProofKit
import Derived.OpenShut
import Derived.Deep.Slices
namespace Go.Proofs.Ytoafoodgomnfeaa
open Go.ChangeShapes Go.WideShapes Go.ChangeAt Go.RowKit
set_option linter.unusedVariables false

theorem own : ownKnob Try.prog.godebug = none := by kernel_rfl
theorem laidOut : laidOutB Try.prog = true := by kernel_rfl
theorem cells31 : Try.prog.cellsOf 31 = 5 := by kernel_rfl
theorem cells3 : Try.prog.cellsOf 3 = 1 := by kernel_rfl
theorem cells29 : Try.prog.cellsOf 29 = 1 := by kernel_rfl

section
variable {H : Type} {enc : TypeId × Value → H} {w : World} {base : Nat} {spare : Nat → Bool} {held : Bool}
set_option maxRecDepth 100000 in
/-- A struct of five numbers, the last one of 64 bits without a sign. -/
theorem open_act {fuel : Nat} {t : TypeId} {fs : Array Field} {cs : List Value} {x : DataW H × List MemPlace} (hu : Try.prog.underlying t = some (.struct fs)) (hc : Try.prog.cellsOf t = 5)
    (hfs : fs.map (fun f => (f.type, f.offset)) = #[(3, 0), (3, 1), (3, 2), (3, 3), (29, 4)])
    (h : DataW.trod enc Try.prog w base spare held fuel t cs = some x) :
    ∃ X : ActS, X.Ok ∧ cs = [X.cellOf 0, X.cellOf 1, X.cellOf 2, X.cellOf 3, X.cellOf 4] := by
  obtain ⟨xs, n, _, rfl, hl, hlen, hf⟩ := DataW.trod_struct hu h
  rw [hc] at hl
  obtain ⟨a0, a1, a2, a3, a4, rfl⟩ : ∃ a0 a1 a2 a3 a4, cs = [a0, a1, a2, a3, a4] := by
    match cs, hl with
    | [a0, a1, a2, a3, a4], _ => exact ⟨a0, a1, a2, a3, a4, rfl⟩
  have hsz : fs.size = 5 := by have := congrArg Array.size hfs; simpa using this
  have hget : ∀ i (hi : i < 5), ∃ f, fs[i]? = some f ∧ some (f.type, f.offset) = (#[(3, 0), (3, 1), (3, 2), (3, 3), (29, 4)] : Array (Nat × Nat))[i]? := fun i hi => by
    have : (fs.map (fun f => (f.type, f.offset)))[i]? = (#[(3, 0), (3, 1), (3, 2), (3, 3), (29, 4)] : Array (Nat × Nat))[i]? := by rw [hfs]
    rw [Array.getElem?_map, Array.getElem?_eq_getElem (by omega)] at this
    exact ⟨fs[i], Array.getElem?_eq_getElem (by omega), this⟩
  obtain ⟨f0, g0, e0⟩ := hget 0 (by omega)
  obtain ⟨f1, g1, e1⟩ := hget 1 (by omega)
  obtain ⟨f2, g2, e2⟩ := hget 2 (by omega)
  obtain ⟨f3, g3, e3⟩ := hget 3 (by omega)
  obtain ⟨f4, g4, e4⟩ := hget 4 (by omega)
  simp at e0 e1 e2 e3 e4
  have h0 := (hf 0 f0 (by simpa using g0)).trans (List.getElem?_eq_getElem (show 0 < xs.length by omega))
  have h1 := (hf 1 f1 (by simpa using g1)).trans (List.getElem?_eq_getElem (show 1 < xs.length by omega))
  have h2 := (hf 2 f2 (by simpa using g2)).trans (List.getElem?_eq_getElem (show 2 < xs.length by omega))
  have h3 := (hf 3 f3 (by simpa using g3)).trans (List.getElem?_eq_getElem (show 3 < xs.length by omega))
  have h4 := (hf 4 f4 (by simpa using g4)).trans (List.getElem?_eq_getElem (show 4 < xs.length by omega))
  rw [e0.1, e0.2, cells3] at h0
  rw [e1.1, e1.2, cells3] at h1
  rw [e2.1, e2.2, cells3] at h2
  rw [e3.1, e3.2, cells3] at h3
  rw [e4.1, e4.2, cells29] at h4
  obtain ⟨n0, c0, _, w0⟩ := DataW.trod_int Try.underlying3 h0
  obtain ⟨n1, c1, _, w1⟩ := DataW.trod_int Try.underlying3 h1
  obtain ⟨n2, c2, _, w2⟩ := DataW.trod_int Try.underlying3 h2
  obtain ⟨n3, c3, _, w3⟩ := DataW.trod_int Try.underlying3 h3
  obtain ⟨n4, c4, _, w4⟩ := DataW.trod_int Try.underlying29 h4
  simp at c0 c1 c2 c3 c4
  have b1 := Go.bounds_i64 w1
  have b2 := Go.bounds_i64 w2
  have b3 := Go.bounds_i64 w3
  have b4 := Go.bounds_u64 w4
  exact ⟨⟨n0, n1, n2, n3, n4⟩, ⟨b1.1, b1.2, b2.1, b2.2, b3.1, b3.2, b4.1, b4.2⟩, by rw [c0, c1, c2, c3, c4]; rfl⟩

/-- A slice of such structs. -/
theorem open_acts {t e : TypeId} {fs : Array Field} {a : Option Addr} {len cap : Nat} {d : DataW H} {p : List MemPlace} (ht : Try.prog.underlying t = some (.slice e)) (hu : Try.prog.underlying e = some (.struct fs)) (hc : Try.prog.cellsOf e = 5)
    (hfs : fs.map (fun f => (f.type, f.offset)) = #[(3, 0), (3, 1), (3, 2), (3, 3), (29, 4)])
    (h : DataW.Trod enc Try.prog w base spare held t (.slice a len cap) d p) : ∃ X : Nat → ActS, ActsAt w a len X := by
  obtain ⟨fuel, hf⟩ := h
  rcases Go.Deep.open_slice ht hf with ⟨hcs, _⟩ | ⟨x, l, c, m, n, D, Pl, hcs, _, hl, hm, hmm, _, hel⟩
  · simp [Value.cells] at hcs
    obtain ⟨rfl, rfl, rfl⟩ := hcs
    exact ⟨fun _ => ⟨0, 0, 0, 0, 0⟩, 0, 0, fun h => absurd h (by omega), fun i hi => absurd hi (by omega)⟩
  · simp [Value.cells] at hcs
    obtain ⟨rfl, rfl, rfl⟩ := hcs
    have hlm : len ≤ m := by rw [hmm]; split <;> omega
    have key : ∀ i, i < len → ∃ X : ActS, X.Ok ∧ ∀ j, j < 5 → w.cell? ((x.add (i * 5)).add j) = some (X.cellOf j) := fun i hi => by
      obtain ⟨cs', h1, h2⟩ := hel i (by omega)
      rw [hc] at h1
      obtain ⟨X, hX, rfl⟩ := open_act hu hc hfs h2
      obtain ⟨_, _, h3⟩ := World.cells?_some h1
      refine ⟨X, hX, fun j hj => ?_⟩
      rw [h3 j hj]
      match j, hj with
      | 0, _ | 1, _ | 2, _ | 3, _ | 4, _ => rfl
    obtain ⟨b, o, s⟩ := x
    by_cases hs : s = none
    · subst hs
      have : ∀ i, ∃ X : ActS, i < len → X.Ok ∧ ∀ j, j < 5 → w.cell? (((⟨b, o, none⟩ : Addr).add (i * 5)).add j) = some (X.cellOf j) := fun i => by
        by_cases hi : i < len
        · obtain ⟨X, h1, h2⟩ := key i hi; exact ⟨X, fun _ => ⟨h1, h2⟩⟩
        · exact ⟨⟨0, 0, 0, 0, 0⟩, fun h => absurd h hi⟩
      obtain ⟨X, hX⟩ := Classical.axiomOfChoice this
      refine ⟨X, b, o, fun _ => rfl, fun i hi => ⟨fun j hj => ?_, (hX i hi).1⟩⟩
      have := (hX i hi).2 j hj
      rw [Addr.add_mid, Addr.add_mid] at this
      exact this
    · by_cases h0 : 0 < len
      · obtain ⟨X, _, h2⟩ := key 0 h0
        have := World.cell?_spot (h2 0 (by omega))
        simp [Addr.add] at this
        exact absurd this hs
      · exact ⟨fun _ => ⟨0, 0, 0, 0, 0⟩, b, o, fun h => absurd h h0, fun i hi => absurd hi (by omega)⟩
end
end Go.Proofs.Ytoafoodgomnfeaa
