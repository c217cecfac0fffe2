/-
  YtoafoodgomnfeaaSfresh: Fresh of both spaces.
-/
import Derived.Test.YtoafoodgomnfeaaSgive
namespace Go.Proofs.Ytoafoodgomnfeaa
open Go.RowKit
set_option linter.unusedVariables false

/-- A slice of numbers, wherever it lies. -/
def GensAt (w : World) (X : List Nat) (v : Value) (G : List Int) : Prop :=
  ∃ a cap b o, v = .slice a G.length cap ∧ (0 < G.length → a = some ⟨b, o, none⟩ ∧ b ∈ X) ∧ ∀ i, i < G.length → w.cell? ⟨b, o + i, none⟩ = some (.int .i64 (G.getD i 0))
theorem GensAt.offX {w w' : World} {X : List Nat} {v : Value} {G : List Int} (h : GensAt w X v G) (O : OffX X w w') : GensAt w' X v G := by
  obtain ⟨a, cap, b, o, h1, h2, h3⟩ := h
  exact ⟨a, cap, b, o, h1, h2, fun i hi => O.cell (h3 i hi) (h2 (by omega)).2⟩
theorem GensAt.nil (w : World) (X : List Nat) : GensAt w X (.slice none 0 0) [] := ⟨none, 0, 0, 0, rfl, fun h => absurd h (by simp), fun i hi => absurd hi (by simp)⟩

/-- A space's block: its pointer, its 20 cells. -/
def CRel (W1 wr : World) (B : Nat) (v0 : Value) (E : Nat → Int) : Prop :=
  Off [B] W1 wr ∧ wr.cell? ⟨B, 0, none⟩ = some v0 ∧ (∀ i, i < 20 → wr.cell? ⟨B, 1 + i, none⟩ = some (.int .i64 (E i))) ∧ ∀ j, wr.frozen? ⟨B, j, none⟩ = false
theorem CRel.congr {W1 wr : World} {B : Nat} {v0 : Value} {E E' : Nat → Int} (h : CRel W1 wr B v0 E) (e : ∀ i, i < 20 → E' i = E i) : CRel W1 wr B v0 E' := ⟨h.1, h.2.1, fun i hi => by rw [e i hi]; exact h.2.2.1 i hi, h.2.2.2⟩
theorem CRel.set {W1 wr : World} {B : Nat} {v0 : Value} {E : Nat → Int} (h : CRel W1 wr B v0 E) {p : Nat} (hp : p < 20) (v : Int) : CRel W1 (wr.setCell ⟨B, 1 + p, none⟩ (.int .i64 v)) B v0 (putC E p v) := by
  refine ⟨h.1.trans ((Off.refl _ _).setCell (by simp) _), ?_, fun i hi => ?_, fun j => by rw [World.frozen?_setCell]; exact h.2.2.2 j⟩
  · rw [World.cell?_setCell_other _ _ _ _ (by simp only [ne_eq, Addr.mk.injEq, true_and, and_true]; omega)]; exact h.2.1
  · by_cases e1 : i = p
    · subst e1
      rw [World.cell?_setCell_same _ _ _ (h.2.2.1 i hi)]
      simp [putC]
    · rw [World.cell?_setCell_other _ _ _ _ (by simp only [ne_eq, Addr.mk.injEq, true_and, and_true]; omega), h.2.2.1 i hi]
      simp [putC, e1]
def rowC (E : Nat → Int) (g : Nat) (z : Int) : Nat → Int := fun i => if i / 4 = g then z else E i
/-- The four cells of one generation. -/
def set4 (w : World) (B o : Nat) (z : Int) : World := (((w.setCell ⟨B, o, none⟩ (.int .i64 z)).setCell ⟨B, o + 1, none⟩ (.int .i64 z)).setCell ⟨B, o + 2, none⟩ (.int .i64 z)).setCell ⟨B, o + 3, none⟩ (.int .i64 z)
theorem CRel.set4 {W1 wr : World} {B : Nat} {v0 : Value} {E : Nat → Int} (h : CRel W1 wr B v0 E) {g : Nat} (hg : g < 5) (z : Int) : CRel W1 (set4 wr B (1 + g * 4) z) B v0 (rowC E g z) := by
  have h4 := (((h.set (p := g * 4) (by omega) z).set (p := g * 4 + 1) (by omega) z).set (p := g * 4 + 2) (by omega) z).set (p := g * 4 + 3) (by omega) z
  refine CRel.congr h4 (fun i hi => ?_)
  unfold rowC putC
  by_cases e : i / 4 = g
  · rw [if_pos e]
    by_cases e3 : i = g * 4 + 3
    · rw [if_pos e3]
    rw [if_neg e3]
    by_cases e2 : i = g * 4 + 2
    · rw [if_pos e2]
    rw [if_neg e2]
    by_cases e1 : i = g * 4 + 1
    · rw [if_pos e1]
    rw [if_neg e1, if_pos (by omega)]
  · rw [if_neg e, if_neg (by omega), if_neg (by omega), if_neg (by omega), if_neg (by omega)]

/-- What Fresh has done, behind g rows, and q of the numbers for the next one. -/
def frC (G : List Int) (z : Int) (C : Nat → Int) (g q : Nat) : Nat → Int := fun i => if i / 4 < g then (if G = [] ∨ ((i / 4 : Nat) : Int) ∈ G then z else C i) else if i / 4 = g ∧ ((g : Nat) : Int) ∈ G.take q then z else C i
theorem frC_hit {G : List Int} {z : Int} {C : Nat → Int} {g q : Nat} (hq : q < G.length) (e : G.getD q 0 = (g : Int)) : ∀ i, i < 20 → frC G z C g (q + 1) i = rowC (frC G z C g q) g z i := fun i _ => by
  have hm : (g : Int) ∈ G.take (q + 1) := by
    rw [List.take_add_one, List.getElem?_eq_getElem hq]
    rw [List.getD, List.getElem?_eq_getElem hq] at e
    simp only [Option.getD_some] at e
    simp [e]
  simp only [frC, rowC]
  by_cases h1 : i / 4 = g
  · rw [if_neg (by omega), if_pos ⟨h1, hm⟩, if_pos h1]
  · rw [if_neg h1]
    by_cases h2 : i / 4 < g
    · rw [if_pos h2, if_pos h2]
    · rw [if_neg h2, if_neg h2, if_neg (fun h => h1 h.1), if_neg (fun h => h1 h.1)]
theorem frC_miss {G : List Int} {z : Int} {C : Nat → Int} {g q : Nat} (hq : q < G.length) (e : G.getD q 0 ≠ (g : Int)) : ∀ i, i < 20 → frC G z C g (q + 1) i = frC G z C g q i := fun i _ => by
  have hm : (g : Int) ∈ G.take (q + 1) ↔ (g : Int) ∈ G.take q := by
    rw [List.take_add_one, List.getElem?_eq_getElem hq]
    rw [List.getD, List.getElem?_eq_getElem hq] at e
    simp only [Option.getD_some] at e
    simp only [List.mem_append, Option.toList_some, List.mem_singleton]
    exact ⟨fun h => h.elim id (fun h => absurd h.symm e), .inl⟩
  simp only [frC]
  by_cases h2 : i / 4 < g
  · rw [if_pos h2, if_pos h2]
  · rw [if_neg h2, if_neg h2]
    by_cases h3 : i / 4 = g ∧ (g : Int) ∈ G.take q
    · rw [if_pos h3, if_pos ⟨h3.1, hm.2 h3.2⟩]
    · rw [if_neg h3, if_neg (fun h => h3 ⟨h.1, hm.1 h.2⟩)]
theorem frC_next {G : List Int} {z : Int} {C : Nat → Int} {g : Nat} (h : G ≠ []) : ∀ i, i < 20 → frC G z C (g + 1) 0 i = frC G z C g G.length i := fun i _ => by
  simp only [frC]
  rw [List.take_length]
  by_cases h2 : i / 4 < g
  · rw [if_pos (by omega), if_pos h2]
  · rw [if_neg h2]
    by_cases h3 : i / 4 = g
    · rw [if_pos (by omega), h3]
      by_cases h4 : (g : Int) ∈ G
      · rw [if_pos (.inr h4), if_pos ⟨rfl, h4⟩]
      · rw [if_neg (fun hh => hh.elim h h4), if_neg (fun hh => h4 hh.2)]
    · rw [if_neg (by omega), if_neg (by simp), if_neg (fun hh => h3 hh.1)]
theorem frC_empty {z : Int} {C : Nat → Int} {g : Nat} : ∀ i, i < 20 → frC [] z C (g + 1) 0 i = rowC (frC [] z C g 0) g z i := fun i _ => by
  simp only [frC, rowC]
  by_cases h2 : i / 4 < g
  · rw [if_pos (by omega), if_neg (show ¬ i / 4 = g by omega), if_pos h2]
  · by_cases h3 : i / 4 = g
    · rw [if_pos (by omega), if_pos (.inl trivial), if_pos h3]
    · rw [if_neg (by omega), if_neg (by simp), if_neg h3, if_neg h2, if_neg (by simp)]

/-- At the head of each round, and of each inner one. -/
def FrOut (w wr : World) (B : Nat) (v0 : Value) (G : List Int) (z : Int) (C : Nat → Int) (i : Value) : Prop := ∃ g : Nat, g ≤ 5 ∧ i = .int .i64 g ∧ CRel w wr B v0 (frC G z C g 0)
def FrIn (w wr : World) (B : Nat) (v0 : Value) (G : List Int) (z : Int) (C : Nat → Int) (g : Nat) (i : Value) : Prop := ∃ q : Nat, q ≤ G.length ∧ i = .int .i64 q ∧ CRel w wr B v0 (frC G z C g q)

theorem frC_row {G : List Int} {z : Int} {C : Nat → Int} {g : Nat} (h : G = [] ∨ (g : Int) ∈ G) : ∀ i, i < 20 → frC G z C (g + 1) 0 i = rowC (frC G z C g 0) g z i := fun i _ => by
  simp only [frC, rowC]
  by_cases h3 : i / 4 = g
  · rw [if_pos (show i / 4 < g + 1 by omega), if_pos h3, h3, if_pos h]
  · by_cases h2 : i / 4 < g
    · rw [if_pos (show i / 4 < g + 1 by omega), if_neg h3, if_pos h2]
    · rw [if_neg (show ¬ i / 4 < g + 1 by omega), if_neg h3, if_neg h2, if_neg (by simp), if_neg (by simp)]
theorem frC_norow {G : List Int} {z : Int} {C : Nat → Int} {g : Nat} (h : ¬ (G = [] ∨ (g : Int) ∈ G)) : ∀ i, i < 20 → frC G z C (g + 1) 0 i = frC G z C g 0 i := fun i _ => by
  simp only [frC]
  by_cases h3 : i / 4 = g
  · rw [if_pos (show i / 4 < g + 1 by omega), h3, if_neg h, if_neg (show ¬ g < g by omega), if_neg (by simp)]
  · by_cases h2 : i / 4 < g
    · rw [if_pos (show i / 4 < g + 1 by omega), if_pos h2]
    · rw [if_neg (show ¬ i / 4 < g + 1 by omega), if_neg h2, if_neg (by simp), if_neg (by simp)]
set_option maxRecDepth 100000 in
set_option maxHeartbeats 1000000 in
/-- The document's Fresh, of whatever block of 20 cells. -/
theorem dfresh_any {w : World} {qb : Nat} {X : List Nat} {v0 : Value} {C : Nat → Int} {v : Value} {G : List Int} (hC0 : CRel w w qb v0 (frC G (-1) C 0 0)) (hqx : qb ∉ X) (hG : GensAt w X v G) (hlen : G.length ≤ 4096) :
    Calls Try.prog 70 #[.pointer (some ⟨qb, 0, none⟩), v] w fun e w' => e = .returned (.tuple #[]) ∧ CRel w w' qb v0 (frC G (-1) C 5 0) := by
  obtain ⟨a, cap, gb, go, rfl, hga, hgc⟩ := hG
  have HGA := Lib.hid hga
  have HGC := Lib.hid hgc
  have HC0 := Lib.hid hC0
  have HPX := Lib.hid hqx
  clear hga hgc hC0 hqx
  go_enter Try.func70, Try.ntmps70
  go_wp2_with fail
  go_loopw [4] (fun i wr => FrOut w wr qb v0 G (-1) C i) (fun i _ => 5 - (intOf i).toNat)
  case atStart => exact ⟨0, by omega, rfl, HC0.out⟩
  case round =>
    obtain ⟨g, hg, rfl, hR⟩ := hrel
    have HR := Lib.hid hR
    have HZ := Lib.hid (genP_zero G (g : Int))
    by_cases g5 : g < 5
    · have p0 := hR.2.1
      clear hR
      go_wp2_with fail
      go_loopw [5, 6] (fun b j wq => ∃ q : Nat, q ≤ G.length ∧ j = .int .i64 q ∧ b = .bool (genP G (g : Int) q) ∧ wq = wr) (fun _ j _ => G.length - (intOf j).toNat)
      case atStart => exact ⟨0, by omega, rfl, by rw [HZ.out], rfl⟩
      case round =>
        obtain ⟨q, hq, rfl, rfl, rfl⟩ := hrel
        by_cases hlt : q < G.length
        · obtain ⟨rfl, hgx⟩ := HGA.out (by omega)
          have gq := HR.out.1.cell (HGC.out q hlt) (by simp only [List.mem_cons, List.not_mem_nil, or_false]; exact fun e => HPX.out (e ▸ hgx))
          have hps := genP_succ G (g : Int) q hlt
          have j0 : (0 : Int) ≤ (q : Int) := by omega
          have j1 : (q : Int) < (G.length : Int) := by omega
          generalize G.getD q 0 = x at gq hps
          have HPS := Lib.hid hps
          clear hps
          cases hb : genP G (g : Int) q with
          | true =>
            have HB := Lib.hid hb
            clear hb
            go_wp2_with fail
            go_roundw
            case rel => exact ⟨q + 1, by omega, by go_num, by rw [HPS.out, HB.out]; rfl, by first | rfl | trivial⟩
            case measure => simp [intOf]; omega
          | false =>
            have HB := Lib.hid hb
            clear hb
            go_wp2_with fail
            go_roundw
            case rel => exact ⟨q + 1, by omega, by go_num, by rw [HPS.out, HB.out, Bool.false_or]; rfl, by first | rfl | trivial⟩
            case measure => simp [intOf]; omega
        · obtain rfl : q = G.length := by omega
          have hfull : genP G (g : Int) G.length = decide (G = [] ∨ (g : Int) ∈ G) := by
            unfold genP
            rw [List.take_length]
            cases G with
            | nil => simp
            | cons x l => simp
          have hR := HR.out
          by_cases hin : G = [] ∨ (g : Int) ∈ G
          · have hb : genP G (g : Int) G.length = true := by rw [hfull]; exact decide_eq_true hin
            have HB := Lib.hid hb
            have t0 := hR.2.2.1 (g * 4) (by omega)
            have t1 := hR.2.2.1 (g * 4 + 1) (by omega)
            have t2 := hR.2.2.1 (g * 4 + 2) (by omega)
            have t3 := hR.2.2.1 (g * 4 + 3) (by omega)
            have z0 := hR.2.2.2 (1 + g * 4)
            have z1 := hR.2.2.2 (1 + g * 4 + 1)
            have z2 := hR.2.2.2 (1 + g * 4 + 2)
            have z3 := hR.2.2.2 (1 + g * 4 + 3)
            rw [← Nat.add_assoc] at t1 t2 t3
            have S1 := CRel.congr (hR.set4 g5 (-1)) (frC_row hin)
            simp only [set4] at S1
            have HS1 := Lib.hid S1
            clear S1 hR hin hfull hb
            rw [HB.out]
            go_wp2_with fail
            go_roundw
            case rel => first | exact ⟨g + 1, by omega, by go_num, HS1.out⟩ | ((repeat apply Exists.intro); exact ⟨⟨g + 1, by omega, by go_num, HS1.out⟩, rfl⟩)
            case measure => simp [intOf]; omega
          · have hb : genP G (g : Int) G.length = false := by rw [hfull]; exact decide_eq_false hin
            have HB := Lib.hid hb
            have S1 := CRel.congr hR (frC_norow hin)
            have HS1 := Lib.hid S1
            clear S1 hR hin hfull hb
            rw [HB.out]
            go_wp2_with fail
            go_roundw
            case rel => first | exact ⟨g + 1, by omega, by go_num, HS1.out⟩ | ((repeat apply Exists.intro); exact ⟨⟨g + 1, by omega, by go_num, HS1.out⟩, rfl⟩)
            case measure => simp [intOf]; omega
    · obtain rfl : g = 5 := by omega
      clear hR
      go_wp2_with fail
      go_end0
      exact ⟨rfl, HR.out⟩

section
variable {w : World} {pb mb sb qb rb n c : Nat} {M R : MemS} {C D : Nat → Int} {X : List Nat}
theorem SBoth.pfreshed (h : SBoth w pb mb sb qb rb n M R C D c X) {w' : World} {C' : Nat → Int} (hC : CRel w w' pb (.pointer (some ⟨mb, 0, none⟩)) C') (hO : CurOk n M C') : SBoth w' pb mb sb qb rb n M R C' D c X ∧ OffX X w w' := by
  obtain ⟨O, c0, c1, c2⟩ := hC
  have nq : qb ∉ [pb] := by simpa using fun e : qb = pb => h.pq e.symm
  have O' := h.both.other O (fun b hb => by simp only [List.mem_cons, List.not_mem_nil, or_false] at hb; simp [hb])
  exact ⟨⟨O', c0, c1, c2, O.cell h.qptr nq, fun i hi => O.cell (h.qcur i hi) nq, fun j => (O.frozen (p := ⟨qb, j, none⟩) h.qb_ne.2.2 nq).trans (h.qfz j), h.pq, h.px, h.qx, hO, h.okD, h.kc⟩,
    ⟨_, O, fun b hb hm => by simp only [List.mem_cons, List.not_mem_nil, or_false] at hb; exact h.px (hb ▸ hm)⟩⟩
theorem SBoth.qfreshed (h : SBoth w pb mb sb qb rb n M R C D c X) {w' : World} {D' : Nat → Int} (hC : CRel w w' qb (.pointer (some ⟨rb, 0, none⟩)) (fun i => D' i - 1)) (hO : CurOk n R D') : SBoth w' pb mb sb qb rb n M R C D' c X ∧ OffX X w w' := by
  obtain ⟨O, c0, c1, c2⟩ := hC
  have np : pb ∉ [qb] := by simpa using h.pq
  have O' := h.both.other O (fun b hb => by simp only [List.mem_cons, List.not_mem_nil, or_false] at hb; simp [hb])
  exact ⟨⟨O', O.cell h.pptr np, fun i hi => O.cell (h.pcur i hi) np, fun j => (O.frozen (p := ⟨pb, j, none⟩) h.pb_ne.2.2 np).trans (h.pfz j), c0, c1, c2, h.pq, h.px, h.qx, h.okC, hO, h.kc⟩,
    ⟨_, O, fun b hb hm => by simp only [List.mem_cons, List.not_mem_nil, or_false] at hb; exact h.qx (hb ▸ hm)⟩⟩
theorem frC_start (G : List Int) (z : Int) (C : Nat → Int) : ∀ i, i < 20 → frC G z C 0 0 i = C i := fun i _ => by simp only [frC]; rw [if_neg (by omega), if_neg (by simp)]
theorem frC_end (G : List Int) (C : Nat → Int) : ∀ i, i < 20 → freshC C G i = frC G 0 C 5 0 i := fun i hi => by
  simp only [frC, freshC]
  rw [if_pos (show i / 4 < 5 by omega)]
theorem frC_endD (G : List Int) (D : Nat → Int) : ∀ i, i < 20 → freshC D G i - 1 = frC G (-1) (fun i => D i - 1) 5 0 i := fun i hi => by
  simp only [frC, freshC]
  rw [if_pos (show i / 4 < 5 by omega)]
  by_cases e : G = [] ∨ ((i / 4 : Nat) : Int) ∈ G
  · rw [if_pos e, if_pos e]; rfl
  · rw [if_neg e, if_neg e]

set_option maxRecDepth 100000 in
set_option maxHeartbeats 1000000 in
theorem SBoth.pfresh (h : SBoth w pb mb sb qb rb n M R C D c X) {v : Value} {G : List Int} (hG : GensAt w X v G) (hlen : G.length ≤ 4096) :
    Calls Try.prog 37 #[.pointer (some ⟨pb, 0, none⟩), v] w fun e w' => e = .returned (.tuple #[]) ∧ SBoth w' pb mb sb qb rb n M R (freshC C G) D c X ∧ OffX X w w' := by
  obtain ⟨a, cap, gb, go, rfl, hga, hgc⟩ := hG
  have HH := Lib.hid h
  have HGA := Lib.hid hga
  have HGC := Lib.hid hgc
  have hC0 : CRel w w pb (.pointer (some ⟨mb, 0, none⟩)) (frC G 0 C 0 0) := CRel.congr (E := C) ⟨Off.refl _ _, h.pptr, h.pcur, h.pfz⟩ (frC_start G 0 C)
  have HC0 := Lib.hid hC0
  have HPX := Lib.hid h.px
  clear h hga hgc hC0
  go_enter Try.func37, Try.ntmps37
  go_wp2_with fail
  go_loopw [9] (fun i wr => FrOut w wr pb (.pointer (some ⟨mb, 0, none⟩)) G 0 C i) (fun i _ => 5 - (intOf i).toNat)
  case atStart => exact ⟨0, by omega, rfl, HC0.out⟩
  case round =>
    obtain ⟨g, hg, rfl, hR⟩ := hrel
    have HR := Lib.hid hR
    clear hR
    by_cases g5 : g < 5
    · go_wp2_with fail
      go_loopw [14] (fun i wq => FrIn w wq pb (.pointer (some ⟨mb, 0, none⟩)) G 0 C g i) (fun i _ => G.length - (intOf i).toNat)
      case atStart => exact ⟨0, by omega, rfl, HR.out⟩
      case round =>
        obtain ⟨q, hq, rfl, hR2⟩ := hrel
        have HR2 := Lib.hid hR2
        have p0 := hR2.2.1
        have i0 : (0 : Int) ≤ (g : Int) := by omega
        have i1 : (g : Int) < 5 := by omega
        by_cases hlt : q < G.length
        · obtain ⟨rfl, hgx⟩ := HGA.out (by omega)
          have gq := hR2.1.cell (HGC.out q hlt) (by simp only [List.mem_cons, List.not_mem_nil, or_false]; exact fun e => HPX.out (e ▸ hgx))
          have j0 : (0 : Int) ≤ (q : Int) := by omega
          have j1 : (q : Int) < (G.length : Int) := by omega
          generalize hx : G.getD q 0 = x at gq
          have HXX := Lib.hid hx
          clear hx
          by_cases e : x = (g : Int)
          · have e1 : (x == (g : Int)) = true := beq_iff_eq.2 e
            have HE := Lib.hid e
            have t0 := hR2.2.2.1 (g * 4) (by omega)
            have t1 := hR2.2.2.1 (g * 4 + 1) (by omega)
            have t2 := hR2.2.2.1 (g * 4 + 2) (by omega)
            have t3 := hR2.2.2.1 (g * 4 + 3) (by omega)
            have z0 := hR2.2.2.2 (1 + g * 4)
            have z1 := hR2.2.2.2 (1 + g * 4 + 1)
            have z2 := hR2.2.2.2 (1 + g * 4 + 2)
            have z3 := hR2.2.2.2 (1 + g * 4 + 3)
            rw [← Nat.add_assoc] at t1 t2 t3
            have S1 := CRel.congr (hR2.set4 g5 0) (frC_hit hlt (by rw [HXX.out, HE.out]))
            simp only [set4] at S1
            have HS1 := Lib.hid S1
            clear S1 hR2 e
            go_wp2_with fail
            go_roundw
            case rel => exact ⟨q + 1, by omega, by go_num, HS1.out⟩
            case measure => simp [intOf]; omega
          · have e1 : (x == (g : Int)) = false := beq_eq_false_iff_ne.2 e
            have S1 := CRel.congr hR2 (frC_miss hlt (by rw [HXX.out]; exact e))
            have HS1 := Lib.hid S1
            clear S1 hR2 e
            go_wp2_with fail
            go_roundw
            case rel => exact ⟨q + 1, by omega, by go_num, HS1.out⟩
            case measure => simp [intOf]; omega
        · obtain rfl : q = G.length := by omega
          by_cases hnil : G = []
          · subst hnil
            have j2 : ((([] : List Int).length : Int) == 0) = true := rfl
            have t0 := hR2.2.2.1 (g * 4) (by omega)
            have t1 := hR2.2.2.1 (g * 4 + 1) (by omega)
            have t2 := hR2.2.2.1 (g * 4 + 2) (by omega)
            have t3 := hR2.2.2.1 (g * 4 + 3) (by omega)
            have z0 := hR2.2.2.2 (1 + g * 4)
            have z1 := hR2.2.2.2 (1 + g * 4 + 1)
            have z2 := hR2.2.2.2 (1 + g * 4 + 2)
            have z3 := hR2.2.2.2 (1 + g * 4 + 3)
            rw [← Nat.add_assoc] at t1 t2 t3
            have S1 := CRel.congr (hR2.set4 g5 0) (frC_empty)
            simp only [set4] at S1
            have HS1 := Lib.hid S1
            clear S1 hR2
            simp only [List.length_nil, Int.natCast_zero] at *
            go_wp2_with fail
            go_roundw
            case rel => first | exact ⟨g + 1, by omega, by go_num, HS1.out⟩ | ((repeat apply Exists.intro); exact ⟨⟨g + 1, by omega, by go_num, HS1.out⟩, rfl⟩)
            case measure => simp [intOf]; omega
          · have j2 : ((G.length : Int) == 0) = false := beq_eq_false_iff_ne.2 (by have := List.length_pos_iff.2 hnil; omega)
            have S1 := CRel.congr hR2 (frC_next hnil)
            have HS1 := Lib.hid S1
            clear S1 hR2 hnil
            go_wp2_with fail
            go_roundw
            case rel => first | exact ⟨g + 1, by omega, by go_num, HS1.out⟩ | ((repeat apply Exists.intro); exact ⟨⟨g + 1, by omega, by go_num, HS1.out⟩, rfl⟩)
            case measure => simp [intOf]; omega
    · obtain rfl : g = 5 := by omega
      have FIN := Lib.hid (HH.out.pfreshed (HR.out.congr (frC_end G C)) (HH.out.okC.fresh G))
      go_wp2_with fail
      go_end0
      exact ⟨rfl, FIN.out⟩

set_option maxRecDepth 100000 in
set_option maxHeartbeats 1000000 in
theorem SBoth.dfresh (h : SBoth w pb mb sb qb rb n M R C D c X) {v : Value} {G : List Int} (hG : GensAt w X v G) (hlen : G.length ≤ 4096) :
    Calls Try.prog 70 #[.pointer (some ⟨qb, 0, none⟩), v] w fun e w' => e = .returned (.tuple #[]) ∧ SBoth w' pb mb sb qb rb n M R C (freshC D G) c X ∧ OffX X w w' := by
  have hC0 : CRel w w qb (.pointer (some ⟨rb, 0, none⟩)) (frC G (-1) (fun i => D i - 1) 0 0) := CRel.congr (E := fun i => D i - 1) ⟨Off.refl _ _, h.qptr, h.qcur, h.qfz⟩ (frC_start G (-1) _)
  have hq := h.qx
  refine (dfresh_any hC0 (fun hm => h.qx hm) hG hlen).mono ?_
  rintro e w' ⟨rfl, hR⟩
  exact ⟨rfl, h.qfreshed (hR.congr (frC_endD G D)) (h.okD.fresh G)⟩
end
end Go.Proofs.Ytoafoodgomnfeaa
