/-
  YtoafoodgomnfeaaDoes: a call of both memories: the answers are the same.
-/
import Derived.Test.YtoafoodgomnfeaaBoth
import Derived.Test.YtoafoodgomnfeaaCopy
import Derived.Deep.RegionHeld3
namespace Go.Proofs.Ytoafoodgomnfeaa
open Go.RowKit
set_option linter.unusedVariables false

/-- The five cells of a call. -/
def ActC (w : World) (B : Nat) (d a b c : Int) (u : Int) : Prop :=
  w.cell? ⟨B, 0, none⟩ = some (.int .i64 d) ∧ w.cell? ⟨B, 1, none⟩ = some (.int .i64 a) ∧ w.cell? ⟨B, 2, none⟩ = some (.int .i64 b) ∧ w.cell? ⟨B, 3, none⟩ = some (.int .i64 c) ∧ w.cell? ⟨B, 4, none⟩ = some (.int .u64 u)
theorem ActC.offX {X : List Nat} {w w' : World} {B : Nat} {d a b c u : Int} (h : ActC w B d a b c u) (O : OffX (B :: X) w w') : ActC w' B d a b c u :=
  ⟨O.cell h.1 (by simp), O.cell h.2.1 (by simp), O.cell h.2.2.1 (by simp), O.cell h.2.2.2.1 (by simp), O.cell h.2.2.2.2 (by simp)⟩
theorem ActC.drew {w : World} {B : Nat} {d a b c u : Int} (h : ActC w B d a b c u) : ActC w.drew B d a b c u := h
theorem ActC.boxed (w : World) (d a b c u : Int) (t : TypeId) : ActC (w.alloc (.cells #[.int .i64 d, .int .i64 a, .int .i64 b, .int .i64 c, .int .u64 u] t)) w.heap.size d a b c u := by
  have hA : (w.alloc (.cells #[.int .i64 d, .int .i64 a, .int .i64 b, .int .i64 c, .int .u64 u] t)).heap[w.heap.size]? = some _ := Array.getElem?_push_size
  refine ⟨?_, ?_, ?_, ?_, ?_⟩ <;> (rw [cell_of_row _ _ _ _ _ _ hA]; rfl)
theorem OffX.alloc1 {X : List Nat} (w : World) (o : Obj) : OffX X w (w.alloc o) := (OffX.refl X w).alloc o

theorem BothAt.pread {w : World} {mb sb rb n c : Nat} {M R : MemS} {X : List Nat} (h : BothAt w mb sb rb n M R c X) (a : Int) (ha : a ≤ 9223372036854775807) :
    Calls Try.prog 21 #[.pointer (some ⟨mb, 0, none⟩), .int .i64 a] w fun e w' => (∃ v s, e = .returned (.tuple #[.int .u64 v, .int .i64 s]) ∧ ReadIs n M a v s) ∧ w = w' :=
  read_all h.mem h.n1 a ha

section
variable {w : World} {mb sb rb n c : Nat} {M : MemS} {X : List Nat}
set_option maxRecDepth 100000 in
set_option maxHeartbeats 2000000 in
theorem does_any (h : BothAt w mb sb rb n M M c X) (hc : c ≤ 900000) (d xa xb xc xu : Int) (ha : xa ≤ 9223372036854775807) :
    Calls Try.prog 27 #[.pointer (some ⟨mb, 0, none⟩), .pointer (some ⟨rb, 0, none⟩), .agg #[.int .i64 d, .int .i64 xa, .int .i64 xb, .int .i64 xc, .int .u64 xu]] w fun e w' =>
      e = .returned (.bool true) ∧ ∃ M', BothAt w' mb sb rb n M' M' (c + 2) X ∧ OffX X w w' := by
  have hB := h.alloc (.cells #[.int .i64 d, .int .i64 xa, .int .i64 xb, .int .i64 xc, .int .u64 xu] 31)
  have hA := ActC.boxed w d xa xb xc xu 31
  have hO := OffX.alloc1 (X := X) w (.cells #[.int .i64 d, .int .i64 xa, .int .i64 xb, .int .i64 xc, .int .u64 xu] 31)
  have HB := Lib.hid hB
  have HO := Lib.hid hO
  have fin : Hid (∀ {w' : World} {M' : MemS} {q : Nat}, BothAt w' mb sb rb n M' M' q (w.heap.size :: X) → q ≤ c + 2 → OffX (w.heap.size :: X) (w.alloc (.cells #[.int .i64 d, .int .i64 xa, .int .i64 xb, .int .i64 xc, .int .u64 xu] 31)) w' → ∃ M', BothAt w' mb sb rb n M' M' (c + 2) X ∧ OffX X w w') :=
    Lib.hid fun h1 hq h2 => ⟨_, (h1.more hq).less (fun b hb => List.mem_cons_of_mem _ hb), hO.trans (h2.mono (fun b hb => List.mem_cons_of_mem _ hb))⟩
  have HC := Lib.hid hc
  clear hB hO h hc
  by_cases e0 : d = 0
  · have f0 : (d == 0) = true := beq_iff_eq.2 e0
    clear e0
    obtain ⟨g0, g1, g2, g3, g4⟩ := hA
    have GA : Hid (ActC (w.alloc (.cells #[.int .i64 d, .int .i64 xa, .int .i64 xb, .int .i64 xc, .int .u64 xu] 31)) w.heap.size d xa xb xc xu) := Lib.hid ⟨g0, g1, g2, g3, g4⟩
    go_enter Try.func27, Try.ntmps27
    go_wp2_with fail
    refine (HB.out.ptake (by have := HC.out; omega) xa xb).mono ?_
    rintro e w1 ⟨r, s, M', rfl, hT, h1, O1⟩
    obtain ⟨k0, k1, k2, k3, k4⟩ := GA.out.offX O1
    have H1 := Lib.hid h1
    have OO1 := Lib.hid O1
    have HT := Lib.hid hT
    clear h1 O1 hT g0 g1 g2 g3 g4
    go_wp2_with fail
    refine (H1.out.dtake xa xb HT.out).mono ?_
    rintro e w2 ⟨rfl, h2, O2⟩
    have H2 := Lib.hid h2
    have OO2 := Lib.hid (OO1.out.trans O2)
    clear h2 O2 k0 k1 k2 k3 k4
    go_wp2_with fail
    go_ret
    exact ⟨rfl, fin.out H2.out (by omega) OO2.out⟩
  by_cases e1 : d = 1
  · have f0 : (d == 0) = false := beq_eq_false_iff_ne.2 e0
    have f1 : (d == 1) = true := beq_iff_eq.2 e1
    clear e0 e1
    obtain ⟨g0, g1, g2, g3, g4⟩ := hA
    have GA : Hid (ActC (w.alloc (.cells #[.int .i64 d, .int .i64 xa, .int .i64 xb, .int .i64 xc, .int .u64 xu] 31)) w.heap.size d xa xb xc xu) := Lib.hid ⟨g0, g1, g2, g3, g4⟩
    obtain ⟨s, M', hG⟩ := GiveIs.ex n M xa
    have HG := Lib.hid hG
    clear hG
    go_enter Try.func27, Try.ntmps27
    go_wp2_with fail
    clear g0 g1 g2 g3 g4
    generalize w.alloc (.cells #[.int .i64 d, .int .i64 xa, .int .i64 xb, .int .i64 xc, .int .u64 xu] 31) = w1 at HB HO GA fin ⊢
    generalize w.heap.size = B at HB GA fin ⊢
    go_region_held3 (fun w' => ActC w' B d xa xb xc xu ∧ w'.cell? ⟨B, 1, none⟩ = some (.int .i64 xa))
      (first | with_reducible assumption | exact ⟨GA.out, GA.out.2.1⟩ | exact ⟨(ActC.offX (‹ActC _ _ _ _ _ _ _ ∧ _›).1 (‹OffX _ _ _›)), (ActC.offX (‹ActC _ _ _ _ _ _ _ ∧ _›).1 (‹OffX _ _ _›)).2.1⟩ | fail)
      (first
        | (go_at_call 18; first | (refine (BothAt.pgive hd _ HG.out).mono ?_; rintro e w' ⟨rfl, hp, Op⟩) | (refine (BothAt.pgive (BothAt.drew HB.out) _ HG.out).mono ?_; rintro e w' ⟨rfl, hp, Op⟩))
        | (go_at_call 64; first | (refine (BothAt.dgive hp _ HG.out).mono ?_; rintro e w' ⟨rfl, hd, Od⟩) | (refine (BothAt.dgive (BothAt.drew HB.out) _ HG.out).mono ?_; rintro e w' ⟨rfl, hd, Od⟩))
        | fail)
    all_goals (
      have FIN : Hid (∃ N', BothAt w' mb sb rb n N' N' (c + 2) X ∧ OffX X w w') := by
        first
          | exact Lib.hid (fin.out hd (by omega) (((OffX.refl _ _).drew).trans (Op.trans Od)))
          | exact Lib.hid (fin.out hp (by omega) (((OffX.refl _ _).drew).trans (Od.trans Op)))
      clear hp hd Op Od
      rename_i hh
      clear hh
      go_wp2_with fail
      go_ret
      exact ⟨rfl, FIN.out⟩)
  by_cases e2 : d = 2
  · have f0 : (d == 0) = false := beq_eq_false_iff_ne.2 e0
    have f1 : (d == 1) = false := beq_eq_false_iff_ne.2 e1
    have f2 : (d == 2) = true := beq_iff_eq.2 e2
    clear e0 e1 e2
    obtain ⟨g0, g1, g2, g3, g4⟩ := hA
    have GA : Hid (ActC (w.alloc (.cells #[.int .i64 d, .int .i64 xa, .int .i64 xb, .int .i64 xc, .int .u64 xu] 31)) w.heap.size d xa xb xc xu) := Lib.hid ⟨g0, g1, g2, g3, g4⟩
    go_enter Try.func27, Try.ntmps27
    go_wp2_with fail
    refine (HB.out.pbump xa xb).mono ?_
    rintro e w1 ⟨r, s, M', rfl, hT, h1, O1⟩
    obtain ⟨k0, k1, k2, k3, k4⟩ := GA.out.offX O1
    have H1 := Lib.hid h1
    have OO1 := Lib.hid O1
    have HT := Lib.hid hT
    clear h1 O1 hT g0 g1 g2 g3 g4
    go_wp2_with fail
    refine (H1.out.dbump xa xb HT.out).mono ?_
    rintro e w2 ⟨rfl, h2, O2⟩
    have H2 := Lib.hid h2
    have OO2 := Lib.hid (OO1.out.trans O2)
    clear h2 O2 k0 k1 k2 k3 k4
    go_wp2_with fail
    go_ret
    exact ⟨rfl, fin.out H2.out (by omega) OO2.out⟩
  by_cases e3 : d = 3
  · have f0 : (d == 0) = false := beq_eq_false_iff_ne.2 e0
    have f1 : (d == 1) = false := beq_eq_false_iff_ne.2 e1
    have f2 : (d == 2) = false := beq_eq_false_iff_ne.2 e2
    have f3 : (d == 3) = true := beq_iff_eq.2 e3
    clear e0 e1 e2 e3
    obtain ⟨g0, g1, g2, g3, g4⟩ := hA
    have GA : Hid (ActC (w.alloc (.cells #[.int .i64 d, .int .i64 xa, .int .i64 xb, .int .i64 xc, .int .u64 xu] 31)) w.heap.size d xa xb xc xu) := Lib.hid ⟨g0, g1, g2, g3, g4⟩
    obtain ⟨s, M', hG⟩ := WriteIs.ex n M xa xu
    have HG := Lib.hid hG
    clear hG
    go_enter Try.func27, Try.ntmps27
    go_wp2_with fail
    clear g0 g1 g2 g3 g4
    generalize w.alloc (.cells #[.int .i64 d, .int .i64 xa, .int .i64 xb, .int .i64 xc, .int .u64 xu] 31) = w1 at HB HO GA fin ⊢
    generalize w.heap.size = B at HB GA fin ⊢
    go_region_held3 (fun w' => ActC w' B d xa xb xc xu ∧ w'.cell? ⟨B, 1, none⟩ = some (.int .i64 xa) ∧ w'.cell? ⟨B, 4, none⟩ = some (.int .u64 xu))
      (first | with_reducible assumption | exact ⟨GA.out, GA.out.2.1, GA.out.2.2.2.2⟩ | exact ⟨(ActC.offX (‹ActC _ _ _ _ _ _ _ ∧ _›).1 (‹OffX _ _ _›)), (ActC.offX (‹ActC _ _ _ _ _ _ _ ∧ _›).1 (‹OffX _ _ _›)).2.1, (ActC.offX (‹ActC _ _ _ _ _ _ _ ∧ _›).1 (‹OffX _ _ _›)).2.2.2.2⟩ | fail)
      (first
        | (go_at_call 20; first | (refine (BothAt.pwrite hd _ _ ha HG.out).mono ?_; rintro e w' ⟨rfl, hp, Op⟩) | (refine (BothAt.pwrite (BothAt.drew HB.out) _ _ ha HG.out).mono ?_; rintro e w' ⟨rfl, hp, Op⟩))
        | (go_at_call 66; first | (refine (BothAt.dwrite hp _ _ ha HG.out).mono ?_; rintro e w' ⟨rfl, hd, Od⟩) | (refine (BothAt.dwrite (BothAt.drew HB.out) _ _ ha HG.out).mono ?_; rintro e w' ⟨rfl, hd, Od⟩))
        | fail)
    all_goals (
      have FIN : Hid (∃ N', BothAt w' mb sb rb n N' N' (c + 2) X ∧ OffX X w w') := by
        first
          | exact Lib.hid (fin.out hd (by omega) (((OffX.refl _ _).drew).trans (Op.trans Od)))
          | exact Lib.hid (fin.out hp (by omega) (((OffX.refl _ _).drew).trans (Od.trans Op)))
      clear hp hd Op Od
      rename_i hh
      clear hh
      go_wp2_with fail
      go_ret
      exact ⟨rfl, FIN.out⟩)
  by_cases e4 : d = 4
  · have f0 : (d == 0) = false := beq_eq_false_iff_ne.2 e0
    have f1 : (d == 1) = false := beq_eq_false_iff_ne.2 e1
    have f2 : (d == 2) = false := beq_eq_false_iff_ne.2 e2
    have f3 : (d == 3) = false := beq_eq_false_iff_ne.2 e3
    have f4 : (d == 4) = true := beq_iff_eq.2 e4
    clear e0 e1 e2 e3 e4
    obtain ⟨g0, g1, g2, g3, g4⟩ := hA
    have GA : Hid (ActC (w.alloc (.cells #[.int .i64 d, .int .i64 xa, .int .i64 xb, .int .i64 xc, .int .u64 xu] 31)) w.heap.size d xa xb xc xu) := Lib.hid ⟨g0, g1, g2, g3, g4⟩
    go_enter Try.func27, Try.ntmps27
    go_wp2_with fail
    refine (HB.out.pread xa ha).mono ?_
    rintro e w1 ⟨⟨r, s, rfl, hR⟩, rfl⟩
    have HR := Lib.hid hR
    clear hR
    go_wp2_with fail
    refine (HB.out.dread xa ha HR.out).mono ?_
    rintro e w2 ⟨rfl, rfl⟩
    go_wp2_with fail
    go_ret
    exact ⟨rfl, fin.out HB.out (by omega) (OffX.refl _ _)⟩
  by_cases e5 : d = 5
  · have f0 : (d == 0) = false := beq_eq_false_iff_ne.2 e0
    have f1 : (d == 1) = false := beq_eq_false_iff_ne.2 e1
    have f2 : (d == 2) = false := beq_eq_false_iff_ne.2 e2
    have f3 : (d == 3) = false := beq_eq_false_iff_ne.2 e3
    have f4 : (d == 4) = false := beq_eq_false_iff_ne.2 e4
    have f5 : (d == 5) = true := beq_iff_eq.2 e5
    clear e0 e1 e2 e3 e4 e5
    obtain ⟨g0, g1, g2, g3, g4⟩ := hA
    have GA : Hid (ActC (w.alloc (.cells #[.int .i64 d, .int .i64 xa, .int .i64 xb, .int .i64 xc, .int .u64 xu] 31)) w.heap.size d xa xb xc xu) := Lib.hid ⟨g0, g1, g2, g3, g4⟩
    obtain ⟨s, M', hG⟩ := MarkIs.ex n M xa xb xc
    have HG := Lib.hid hG
    clear hG
    go_enter Try.func27, Try.ntmps27
    go_wp2_with fail
    clear g0 g1 g2 g3 g4
    generalize w.alloc (.cells #[.int .i64 d, .int .i64 xa, .int .i64 xb, .int .i64 xc, .int .u64 xu] 31) = w1 at HB HO GA fin ⊢
    generalize w.heap.size = B at HB GA fin ⊢
    go_region_held3 (fun w' => ActC w' B d xa xb xc xu ∧ w'.cell? ⟨B, 1, none⟩ = some (.int .i64 xa) ∧ w'.cell? ⟨B, 2, none⟩ = some (.int .i64 xb) ∧ w'.cell? ⟨B, 3, none⟩ = some (.int .i64 xc))
      (first | with_reducible assumption | exact ⟨GA.out, GA.out.2.1, GA.out.2.2.1, GA.out.2.2.2.1⟩ | exact ⟨(ActC.offX (‹ActC _ _ _ _ _ _ _ ∧ _›).1 (‹OffX _ _ _›)), (ActC.offX (‹ActC _ _ _ _ _ _ _ ∧ _›).1 (‹OffX _ _ _›)).2.1, (ActC.offX (‹ActC _ _ _ _ _ _ _ ∧ _›).1 (‹OffX _ _ _›)).2.2.1, (ActC.offX (‹ActC _ _ _ _ _ _ _ ∧ _›).1 (‹OffX _ _ _›)).2.2.2.1⟩ | fail)
      (first
        | (go_at_call 28; first | (refine (BothAt.pmark hd _ _ _ HG.out).mono ?_; rintro e w' ⟨rfl, hp, Op⟩) | (refine (BothAt.pmark (BothAt.drew HB.out) _ _ _ HG.out).mono ?_; rintro e w' ⟨rfl, hp, Op⟩))
        | (go_at_call 68; first | (refine (BothAt.dmark hp _ _ _ HG.out).mono ?_; rintro e w' ⟨rfl, hd, Od⟩) | (refine (BothAt.dmark (BothAt.drew HB.out) _ _ _ HG.out).mono ?_; rintro e w' ⟨rfl, hd, Od⟩))
        | fail)
    all_goals (
      have FIN : Hid (∃ N', BothAt w' mb sb rb n N' N' (c + 2) X ∧ OffX X w w') := by
        first
          | exact Lib.hid (fin.out hd (by omega) (((OffX.refl _ _).drew).trans (Op.trans Od)))
          | exact Lib.hid (fin.out hp (by omega) (((OffX.refl _ _).drew).trans (Od.trans Op)))
      clear hp hd Op Od
      rename_i hh
      clear hh
      go_wp2_with fail
      go_ret
      exact ⟨rfl, FIN.out⟩)
  have f0 : (d == 0) = false := beq_eq_false_iff_ne.2 e0
  have f1 : (d == 1) = false := beq_eq_false_iff_ne.2 e1
  have f2 : (d == 2) = false := beq_eq_false_iff_ne.2 e2
  have f3 : (d == 3) = false := beq_eq_false_iff_ne.2 e3
  have f4 : (d == 4) = false := beq_eq_false_iff_ne.2 e4
  have f5 : (d == 5) = false := beq_eq_false_iff_ne.2 e5
  clear e0 e1 e2 e3 e4 e5
  obtain ⟨g0, g1, g2, g3, g4⟩ := hA
  have GA : Hid (ActC (w.alloc (.cells #[.int .i64 d, .int .i64 xa, .int .i64 xb, .int .i64 xc, .int .u64 xu] 31)) w.heap.size d xa xb xc xu) := Lib.hid ⟨g0, g1, g2, g3, g4⟩
  go_enter Try.func27, Try.ntmps27
  go_wp2_with fail
  go_ret
  exact ⟨rfl, fin.out HB.out (by omega) (OffX.refl _ _)⟩
end
end Go.Proofs.Ytoafoodgomnfeaa
