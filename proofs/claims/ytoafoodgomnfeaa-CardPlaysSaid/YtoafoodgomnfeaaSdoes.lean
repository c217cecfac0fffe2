/-
  YtoafoodgomnfeaaSdoes: a call of both spaces: the answers are the same.
-/
import Derived.Test.YtoafoodgomnfeaaSmany
import Derived.Maps.AppendAt
namespace Go.Proofs.Ytoafoodgomnfeaa
open Go.RowKit
set_option linter.unusedVariables false

/-- A new block is of neither. -/
theorem SBoth.pushNew {w w' : World} {pb mb sb qb rb n c : Nat} {M R : MemS} {C D : Nat → Int} {X : List Nat} (h : SBoth w pb mb sb qb rb n M R C D c X) (O : Off [] w w') {g : Nat} (h1 : w.heap.size ≤ g) (h2 : g < w'.heap.size) : SBoth w' pb mb sb qb rb n M R C D c (g :: X) := by
  have h' := h.off O
  obtain ⟨T, V, v, r1, r2, r3⟩ := h.both.ref
  have m1 := h.both.mem.mb_lt
  have m2 := h.both.mem.sb_lt h.n0
  have a := h.pb_ne.2.2
  have b := h.qb_ne.2.2
  refine ⟨⟨h'.both.mem, h'.both.wf, h'.both.wfr, ⟨T, V, v, r1.off O (by simp), r2, fun q hq => ⟨(r3 q hq).1, (r3 q hq).2.1, fun hx => ?_⟩⟩, fun q hq => ?_, h.n0, h.n1⟩, h'.pptr, h'.pcur, h'.pfz, h'.qptr, h'.qcur, h'.qfz, h.pq, ?_, ?_, h.okC, h.okD, h.kc⟩
  · have := r1.lt hq
    have := (r3 q hq).2.2
    simp only [List.mem_cons] at hx this
    rcases hx with e | e | e | e
    · exact this (.inl e)
    · exact this (.inr (.inl e))
    · omega
    · exact this (.inr (.inr e))
  · simp only [List.mem_cons] at hq
    rcases hq with rfl | rfl | rfl | hq
    · exact ⟨(h.both.x q (by simp)).1, (h.both.x q (by simp)).2.1, by have := O.size; omega⟩
    · exact ⟨(h.both.x q (by simp)).1, (h.both.x q (by simp)).2.1, by have := O.size; omega⟩
    · exact ⟨by omega, by omega, h2⟩
    · have := h.both.x q (by simp [hq])
      exact ⟨this.1, this.2.1, by have := O.size; omega⟩
  · simp only [List.mem_cons, not_or]; exact ⟨by omega, h.px⟩
  · simp only [List.mem_cons, not_or]; exact ⟨by omega, h.qx⟩

/-- The five cells of a call. -/
def ActV (w : World) (B : Nat) (d a b c : Int) (v : Value) : Prop :=
  w.cell? ⟨B, 0, none⟩ = some (.int .i64 d) ∧ w.cell? ⟨B, 1, none⟩ = some (.int .i64 a) ∧ w.cell? ⟨B, 2, none⟩ = some (.int .i64 b) ∧ w.cell? ⟨B, 3, none⟩ = some (.int .i64 c) ∧ w.cell? ⟨B, 4, none⟩ = some v
theorem ActV.offX {X : List Nat} {w w' : World} {B : Nat} {d a b c : Int} {v : Value} (h : ActV w B d a b c v) (O : OffX (B :: X) w w') : ActV w' B d a b c v :=
  ⟨O.cell h.1 (by simp), O.cell h.2.1 (by simp), O.cell h.2.2.1 (by simp), O.cell h.2.2.2.1 (by simp), O.cell h.2.2.2.2 (by simp)⟩
theorem ActV.boxed (w : World) (d a b c : Int) (v : Value) (t : TypeId) : ActV (w.alloc (.cells #[.int .i64 d, .int .i64 a, .int .i64 b, .int .i64 c, v] t)) w.heap.size d a b c v := by
  have hA : (w.alloc (.cells #[.int .i64 d, .int .i64 a, .int .i64 b, .int .i64 c, v] t)).heap[w.heap.size]? = some _ := Array.getElem?_push_size
  refine ⟨?_, ?_, ?_, ?_, ?_⟩ <;> (rw [cell_of_row _ _ _ _ _ _ hA]; rfl)
theorem WriteIs.cur {n : Nat} {M M' : MemS} {C : Nat → Int} {a v s : Int} (h : CurOk n M C) (hG : WriteIs n M a v s M') : CurOk n M' C := by
  rcases hG with ⟨_, _, rfl⟩ | ⟨_, _, rfl⟩
  · exact h.write a v
  · exact h
theorem WriteIs.kc {n : Nat} {M M' : MemS} {a v s : Int} (h : Kc n M) (h0 : 0 ≤ v) (h1 : v ≤ 18446744073709551615) (hG : WriteIs n M a v s M') : Kc n M' := by
  rcases hG with ⟨_, hw, rfl⟩ | ⟨_, _, rfl⟩
  · exact h.write hw h0 h1
  · exact h
section
variable {w : World} {pb mb sb qb rb n c : Nat} {M R : MemS} {C D : Nat → Int} {X : List Nat} (h : SBoth w pb mb sb qb rb n M R C D c X)
include h
theorem SBoth.pwrite (a v : Int) (ha : a ≤ 9223372036854775807) (h0 : 0 ≤ v) (h1 : v ≤ 18446744073709551615) {s : Int} {M' : MemS} (hG : WriteIs n M a v s M') :
    Calls Try.prog 20 #[.pointer (some ⟨mb, 0, none⟩), .int .i64 a, .int .u64 v] w fun e w' => e = .returned (.int .i64 s) ∧ SBoth w' pb mb sb qb rb n M' R C D c X ∧ OffX X w w' := by
  refine (h.both.pwrite a v ha hG).mono ?_
  rintro e w' ⟨rfl, hB, O⟩
  exact ⟨rfl, h.pmem hB O (hG.cur h.okC) (hG.kc h.kc h0 h1)⟩
theorem SBoth.dwrite (a v : Int) (ha : a ≤ 9223372036854775807) {s : Int} {R' : MemS} (hG : WriteIs n R a v s R') :
    Calls Try.prog 66 #[.pointer (some ⟨rb, 0, none⟩), .int .i64 a, .int .u64 v] w fun e w' => e = .returned (.int .i64 s) ∧ SBoth w' pb mb sb qb rb n M R' C D c X ∧ OffX X w w' := by
  refine (h.both.dwrite a v ha hG).mono ?_
  rintro e w' ⟨rfl, hB, O⟩
  exact ⟨rfl, h.dmem hB O (hG.cur h.okD)⟩
end
theorem wrap_u64_ran (x : Int) : 0 ≤ IntKind.u64.wrap x ∧ IntKind.u64.wrap x ≤ 18446744073709551615 := by
  have h : IntKind.u64.wrap x = x % 18446744073709551616 := by unfold IntKind.wrap; rfl
  rw [h]
  omega

/-- A row of numbers that append has made. -/
theorem GensAt.of_row {w : World} {v : Value} {G : List Int} {X : List Nat} (h : w.ownsRow 0 3 1 v G.length (G.map fun x => Value.int .i64 x)) (hX : ∀ g, v.ownBlock = some g → g ∈ X) : GensAt w X v G := by
  obtain ⟨a, cap, g, hv, ha, hc⟩ := ownsRow_form h
  refine ⟨a, cap, g, 0, hv, fun hp => ⟨(ha hp).1, hX g (ha hp).2⟩, fun i hi => ?_⟩
  have := (hc i (by omega)).1
  rw [Nat.zero_add, this, List.getElem?_map, List.getElem?_eq_getElem hi]
  simp [List.getD, List.getElem?_eq_getElem hi]

section
variable {w : World} {pb mb sb qb rb n c : Nat} {M : MemS} {C : Nat → Int} {X : List Nat}
set_option maxRecDepth 100000 in
set_option maxHeartbeats 2000000 in
theorem sdoes_any (h : SBoth w pb mb sb qb rb n M M C C c X) (hc : c ≤ 900000) (d xa xb xc : Int) (xv : Value) (G : List Int) (ha : xa ≤ 9223372036854775807) (hG : GensAt w X xv G) (hlen : G.length ≤ 300) :
    Calls Try.prog 38 #[.pointer (some ⟨pb, 0, none⟩), .pointer (some ⟨qb, 0, none⟩), .agg #[.int .i64 d, .int .i64 xa, .int .i64 xb, .int .i64 xc, xv]] w fun e w' =>
      e = .returned (.bool true) ∧ ∃ M' C', SBoth w' pb mb sb qb rb n M' M' C' C' (c + 2) X ∧ OffX X w w' := by
  obtain ⟨xga, xgc, gb, go, rfl, hga, hgc⟩ := hG
  have hB := h.alloc (.cells #[.int .i64 d, .int .i64 xa, .int .i64 xb, .int .i64 xc, .slice xga G.length xgc] 70)
  have hA := ActV.boxed w d xa xb xc (.slice xga G.length xgc) 70
  have hO := OffX.alloc1 (X := X) w (.cells #[.int .i64 d, .int .i64 xa, .int .i64 xb, .int .i64 xc, .slice xga G.length xgc] 70)
  have HB := Lib.hid hB
  have HO := Lib.hid hO
  have HGS : Hid (GensAt (w.alloc (.cells #[.int .i64 d, .int .i64 xa, .int .i64 xb, .int .i64 xc, .slice xga G.length xgc] 70)) X (.slice xga G.length xgc) G) := Lib.hid (GensAt.offX ⟨xga, xgc, gb, go, rfl, hga, hgc⟩ hO)
  have fin : Hid (∀ {w' : World} {M' : MemS} {C' : Nat → Int} {q : Nat}, SBoth w' pb mb sb qb rb n M' M' C' C' q (w.heap.size :: X) → q ≤ c + 2 → OffX (w.heap.size :: X) (w.alloc (.cells #[.int .i64 d, .int .i64 xa, .int .i64 xb, .int .i64 xc, .slice xga G.length xgc] 70)) w' → ∃ M' C', SBoth w' pb mb sb qb rb n M' M' C' C' (c + 2) X ∧ OffX X w w') :=
    Lib.hid fun h1 hq h2 => ⟨_, _, (h1.more hq).less (fun b hb => List.mem_cons_of_mem _ hb), hO.trans (h2.mono (fun b hb => List.mem_cons_of_mem _ hb))⟩
  have HC := Lib.hid hc
  clear hB hO h hc hga hgc
  by_cases e0 : d = 0
  · have f0 : (d == 0) = true := beq_iff_eq.2 e0
    clear e0
    obtain ⟨g0, g1, g2, g3, g4⟩ := hA
    have GA : Hid (ActV (w.alloc (.cells #[.int .i64 d, .int .i64 xa, .int .i64 xb, .int .i64 xc, .slice xga G.length xgc] 70)) w.heap.size d xa xb xc (.slice xga G.length xgc)) := Lib.hid ⟨g0, g1, g2, g3, g4⟩
    go_enter Try.func38, Try.ntmps38
    go_wp2_with fail
    refine (HB.out.palloc (by have := HC.out; omega) xa xb xc).mono ?_
    rintro e w1 ⟨r, s, M', C', rfl, hT, h1, O1⟩
    obtain ⟨k0, k1, k2, k3, k4⟩ := GA.out.offX O1
    have H1 := Lib.hid h1
    have OO1 := Lib.hid O1
    have HT := Lib.hid hT
    clear h1 O1 hT g0 g1 g2 g3 g4
    go_wp2_with fail
    refine (H1.out.dalloc xa xb xc HT.out).mono ?_
    rintro e w2 ⟨rfl, h2, O2⟩
    have H2 := Lib.hid h2
    have OO2 := Lib.hid (OO1.out.trans O2)
    clear h2 O2 k0 k1 k2 k3 k4
    go_wp2_with fail
    go_ret
    exact ⟨rfl, fin.out H2.out (by omega) OO2.out⟩
  by_cases e1 : d = 1
  · have f0 : (d == 0) = false := beq_eq_false_iff_ne.2 e0
    have f1 : (d == 1) = true := beq_iff_eq.2 e1
    clear e0 e1
    obtain ⟨g0, g1, g2, g3, g4⟩ := hA
    have GA : Hid (ActV (w.alloc (.cells #[.int .i64 d, .int .i64 xa, .int .i64 xb, .int .i64 xc, .slice xga G.length xgc] 70)) w.heap.size d xa xb xc (.slice xga G.length xgc)) := Lib.hid ⟨g0, g1, g2, g3, g4⟩
    go_enter Try.func38, Try.ntmps38
    go_upto_region 7 with fail
    generalize w.alloc (.cells #[.int .i64 d, .int .i64 xa, .int .i64 xb, .int .i64 xc, .slice xga G.length xgc] 70) = w1 at *
    generalize w.heap.size = B at *
    obtain ⟨i0, hi, hz0, hz1, hz2⟩ := info_parts info3t
    have hi' := Lib.hid hi
    have hz0' := Lib.hid hz0
    have hz1' := Lib.hid hz1
    have hz2' := Lib.hid hz2
    have HROW := Lib.hid (empty_row w1 3 1)
    have HGS := Lib.hid (show GensAt w1 (B :: X) (.slice xga G.length xgc) G from by
      obtain ⟨a1, a2, a3, a4, a5, a6, a7⟩ := HGS.out
      exact ⟨a1, a2, a3, a4, a5, fun hp => ⟨(a6 hp).1, by simp [(a6 hp).2]⟩, a7⟩)
    obtain ⟨xga', xgc', gb', go', hv, hga, hgc⟩ := HGS.out
    rw [Value.slice.injEq] at hv
    obtain ⟨rfl, _, rfl⟩ := hv
    have HNEWS : Hid (0 < G.length → ∀ j u, (G.map fun x => Value.int .i64 x)[j]? = some u → (w1.alloc (.cells #[] 3)).cell? ((⟨gb', go', none⟩ : Addr).add j) = some u) := Lib.hid (fun hp j u hu => by
      have hj : j < G.length := by
        rcases Nat.lt_or_ge j G.length with h' | h'
        · exact h'
        · rw [List.getElem?_eq_none (by simpa using h')] at hu; cases hu
      have hadd : (⟨gb', go', none⟩ : Addr).add j = ⟨gb', go' + j, none⟩ := by unfold Addr.add; split <;> simp_all
      rw [hadd]
      have := (Off.alloc (Off.refl [] w1) (.cells #[] 3)).cell (hgc j hj) (by simp)
      rw [this, ← hu, List.getElem?_map, List.getElem?_eq_getElem hj]
      simp [List.getD, List.getElem?_eq_getElem hj])
    have HONE : Hid (∀ u ∈ (G.map fun x => Value.int .i64 x), u.oneCell' = true) := Lib.hid (fun u hu => by
      rw [List.mem_map] at hu
      obtain ⟨x, _, rfl⟩ := hu
      rfl)
    have HGL := Lib.hid hga
    have g5 := (Off.alloc (Off.refl [] w1) (.cells #[] 3)).cell g4 (by simp)
    clear hi hz0 hz1 hz2 hgc hga
    cases hx : xga with
    | none =>
      subst hx
      have hG0 : G = [] := by
        by_cases hp : 0 < G.length
        · exact absurd (HGL.out hp).1 (by simp)
        · exact List.eq_nil_of_length_eq_zero (by omega)
      subst hG0
      simp only [List.length_nil] at *
      go_wp2_with fail
      have O2 := Off.alloc (Off.refl [] w1) (.cells #[] 3)
      have HS := Lib.hid (HB.out.off O2)
      have HGE : Hid (GensAt (w1.alloc (.cells #[] 3)) (B :: X) (.slice (some ⟨w1.heap.size, 0, none⟩) 0 0) []) := Lib.hid ⟨_, 0, 0, 0, rfl, fun hp => absurd hp (by simp), fun i hi => absurd hi (by simp)⟩
      have OX5 : Hid (OffX (B :: X) w1 (w1.alloc (.cells #[] 3))) := Lib.hid (BothAt.offX O2)
      clear O2 g0 g1 g2 g3 g4 g5
      refine (HS.out.pfresh HGE.out (by simp)).mono ?_
      rintro e w6 ⟨rfl, hS6, O6⟩
      have OX6 := Lib.hid (OX5.out.trans O6)
      have HS6 := Lib.hid hS6
      obtain ⟨k0, k1, k2, k3, k4⟩ := GA.out.offX OX6.out
      have HG6 : Hid (GensAt w6 (B :: X) (.slice none 0 xgc) []) := Lib.hid ⟨_, xgc, 0, 0, rfl, fun hp => absurd hp (by simp), fun i hi => absurd hi (by simp)⟩
      clear hS6 O6
      go_wp2_with fail
      refine (HS6.out.dfresh HG6.out (by simp)).mono ?_
      rintro e w7 ⟨rfl, hS7, O7⟩
      have FIN := Lib.hid (fin.out hS7 (by omega) (OX6.out.trans O7))
      clear hS7 O7 k0 k1 k2 k3 k4
      go_wp2_with fail
      go_ret
      exact ⟨rfl, FIN.out⟩
    | some ad =>
      subst hx
      have HN2 : Hid (∀ j u, (G.map fun x => Value.int .i64 x)[j]? = some u → (w1.alloc (.cells #[] 3)).cell? (ad.add j) = some u) := Lib.hid (fun j u hu => by
        by_cases hp : 0 < G.length
        · have := (HGL.out hp).1
          cases this
          exact HNEWS.out hp j u hu
        · have : G = [] := List.eq_nil_of_length_eq_zero (by omega)
          subst this
          simp at hu)
      go_wp2_with (at_builtin; go_loud (refine wpList_append_own_at _ rfl _ _ 47 rfl 0 3 i0 (.int .i64 0) 1 8 Try.underlying47 hi'.out hz0'.out hz1'.out hz2'.out rfl (by decide) _ 0 [] rfl HROW.out ad G.length xgc (G.map fun x => Value.int .i64 x) rfl (by rw [List.length_map, Nat.mul_one]) HN2.out HONE.out ?c3 ?c4 (Nat.zero_le _) ?_))
      case c3 => unfold maxLen; omega
      case c4 => omega
      intro v' w5 hown hgrow _ hat
      have O5 : Off [] w1 w5 := (Off.alloc (Off.refl [] w1) (.cells #[] 3)).grown hgrow (fun k hk => by simp only [Value.ownBlock, Option.some.injEq] at hk; omega)
      have hsz : (w1.alloc (.cells #[] 3)).heap.size = w1.heap.size + 1 := by simp
      have SBX : ∃ X', SBoth w5 pb mb sb qb rb n M M C C c X' ∧ GensAt w5 X' v' G ∧ ∀ b, b ∈ B :: X → b ∈ X' := by
        try simp only [List.nil_append, Nat.zero_add] at hown
        cases hob : v'.ownBlock with
        | none => exact ⟨_, HB.out.off O5, GensAt.of_row hown (fun g hg => by rw [hob] at hg; cases hg), fun b hb => hb⟩
        | some g =>
          have hlt := (hown.lt g hob).2
          refine ⟨g :: B :: X, HB.out.pushNew O5 ?_ hlt, GensAt.of_row hown (fun g' hg => by rw [hob] at hg; cases hg; simp), fun b hb => by simp only [List.mem_cons] at hb ⊢; exact .inr hb⟩
          rcases hat with e | e
          · rw [hob] at e; simp only [Value.ownBlock, Option.some.injEq] at e; omega
          · rw [hob, Option.some.injEq] at e; omega
      obtain ⟨X', hS, hGe, hXX⟩ := SBX
      have HS := Lib.hid hS
      have HGE := Lib.hid hGe
      have HXX := Lib.hid hXX
      have OX5 : Hid (OffX (B :: X) w1 w5) := Lib.hid (BothAt.offX O5)
      clear hown hgrow hat O5 hsz hS hGe hXX g0 g1 g2 g3 g4 g5
      go_wp2_with fail
      refine (HS.out.pfresh HGE.out (by omega)).mono ?_
      rintro e w6 ⟨rfl, hS6, O6⟩
      have OX6 := Lib.hid (OX5.out.trans (O6.mono HXX.out))
      have HS6 := Lib.hid (hS6.less HXX.out)
      obtain ⟨k0, k1, k2, k3, k4⟩ := GA.out.offX OX6.out
      have HG6 : Hid (GensAt w6 (B :: X) (.slice (some ad) G.length xgc) G) := Lib.hid (HGS.out.offX OX6.out)
      clear hS6 O6
      go_wp2_with fail
      refine (HS6.out.dfresh HG6.out (by omega)).mono ?_
      rintro e w7 ⟨rfl, hS7, O7⟩
      have FIN := Lib.hid (fin.out hS7 (by omega) (OX6.out.trans O7))
      clear hS7 O7 k0 k1 k2 k3 k4
      go_wp2_with fail
      go_ret
      exact ⟨rfl, FIN.out⟩
  by_cases e2 : d = 2
  · have f0 : (d == 0) = false := beq_eq_false_iff_ne.2 e0
    have f1 : (d == 1) = false := beq_eq_false_iff_ne.2 e1
    have f2 : (d == 2) = true := beq_iff_eq.2 e2
    clear e0 e1 e2
    obtain ⟨g0, g1, g2, g3, g4⟩ := hA
    have GA : Hid (ActV (w.alloc (.cells #[.int .i64 d, .int .i64 xa, .int .i64 xb, .int .i64 xc, .slice xga G.length xgc] 70)) w.heap.size d xa xb xc (.slice xga G.length xgc)) := Lib.hid ⟨g0, g1, g2, g3, g4⟩
    obtain ⟨s, M', C', hG⟩ := SGiveIs.ex n M C xa
    have HG := Lib.hid hG
    clear hG
    go_enter Try.func38, Try.ntmps38
    go_wp2_with fail
    clear g0 g1 g2 g3 g4
    generalize w.alloc (.cells #[.int .i64 d, .int .i64 xa, .int .i64 xb, .int .i64 xc, .slice xga G.length xgc] 70) = w1 at HB HO GA fin HGS ⊢
    generalize w.heap.size = B at HB GA fin ⊢
    go_region_held3 (fun w' => ActV w' B d xa xb xc (.slice xga G.length xgc) ∧ w'.cell? ⟨B, 1, none⟩ = some (.int .i64 xa))
      (first | with_reducible assumption | exact ⟨GA.out, GA.out.2.1⟩ | exact ⟨(ActV.offX (‹ActV _ _ _ _ _ _ _ ∧ _›).1 (‹OffX _ _ _›)), (ActV.offX (‹ActV _ _ _ _ _ _ _ ∧ _›).1 (‹OffX _ _ _›)).2.1⟩ | fail)
      (first
        | (go_at_call 36; first | (refine (SBoth.pgive hd _ HG.out).mono ?_; rintro e w' ⟨rfl, hp, Op⟩) | (refine (SBoth.pgive (SBoth.drew HB.out) _ HG.out).mono ?_; rintro e w' ⟨rfl, hp, Op⟩))
        | (go_at_call 76; first | (refine (SBoth.dgive hp _ HG.out).mono ?_; rintro e w' ⟨rfl, hd, Od⟩) | (refine (SBoth.dgive (SBoth.drew HB.out) _ HG.out).mono ?_; rintro e w' ⟨rfl, hd, Od⟩))
        | fail)
    all_goals (
      have FIN : Hid (∃ N' E', SBoth w' pb mb sb qb rb n N' N' E' E' (c + 2) X ∧ OffX X w w') := by
        first
          | exact Lib.hid (fin.out hd (by omega) (((OffX.refl _ _).drew).trans (Op.trans Od)))
          | exact Lib.hid (fin.out hp (by omega) (((OffX.refl _ _).drew).trans (Od.trans Op)))
      clear hp hd Op Od
      rename_i hh
      clear hh
      go_wp2_with fail
      go_ret
      exact ⟨rfl, FIN.out⟩)
  by_cases e3 : d = 3
  · have f0 : (d == 0) = false := beq_eq_false_iff_ne.2 e0
    have f1 : (d == 1) = false := beq_eq_false_iff_ne.2 e1
    have f2 : (d == 2) = false := beq_eq_false_iff_ne.2 e2
    have f3 : (d == 3) = true := beq_iff_eq.2 e3
    clear e0 e1 e2 e3
    obtain ⟨g0, g1, g2, g3, g4⟩ := hA
    have GA : Hid (ActV (w.alloc (.cells #[.int .i64 d, .int .i64 xa, .int .i64 xb, .int .i64 xc, .slice xga G.length xgc] 70)) w.heap.size d xa xb xc (.slice xga G.length xgc)) := Lib.hid ⟨g0, g1, g2, g3, g4⟩
    obtain ⟨s, M', hG⟩ := WriteIs.ex n M xa (IntKind.u64.wrap xc)
    have HG := Lib.hid hG
    clear hG
    have HAX := Lib.hid ha
    have HV := Lib.hid (wrap_u64_ran xc)
    go_enter Try.func38, Try.ntmps38
    go_wp2_with fail
    clear g0 g1 g2 g3 g4
    generalize w.alloc (.cells #[.int .i64 d, .int .i64 xa, .int .i64 xb, .int .i64 xc, .slice xga G.length xgc] 70) = w1 at HB HO GA fin HGS ⊢
    generalize w.heap.size = B at HB GA fin ⊢
    go_region_held3 (fun w' => ActV w' B d xa xb xc (.slice xga G.length xgc) ∧ w'.cell? ⟨B, 1, none⟩ = some (.int .i64 xa) ∧ w'.cell? ⟨B, 3, none⟩ = some (.int .i64 xc) ∧ w'.cell? ⟨pb, 0, none⟩ = some (.pointer (some ⟨mb, 0, none⟩)) ∧ w'.cell? ⟨qb, 0, none⟩ = some (.pointer (some ⟨rb, 0, none⟩)))
      (first | with_reducible assumption | exact ⟨GA.out, GA.out.2.1, GA.out.2.2.2.1, HB.out.pptr, HB.out.qptr⟩ | exact ⟨(ActV.offX (‹ActV _ _ _ _ _ _ _ ∧ _›).1 (‹OffX _ _ _›)), (ActV.offX (‹ActV _ _ _ _ _ _ _ ∧ _›).1 (‹OffX _ _ _›)).2.1, (ActV.offX (‹ActV _ _ _ _ _ _ _ ∧ _›).1 (‹OffX _ _ _›)).2.2.2.1, SBoth.pptr (‹SBoth _ pb mb sb qb rb n _ _ _ _ _ _›), SBoth.qptr (‹SBoth _ pb mb sb qb rb n _ _ _ _ _ _›)⟩ | fail)
      (first
        | (go_at_call 20; first | (refine (SBoth.pwrite hd _ _ HAX.out HV.out.1 HV.out.2 HG.out).mono ?_; rintro e w' ⟨rfl, hp, Op⟩) | (refine (SBoth.pwrite (SBoth.drew HB.out) _ _ HAX.out HV.out.1 HV.out.2 HG.out).mono ?_; rintro e w' ⟨rfl, hp, Op⟩))
        | (go_at_call 66; first | (refine (SBoth.dwrite hp _ _ HAX.out HG.out).mono ?_; rintro e w' ⟨rfl, hd, Od⟩) | (refine (SBoth.dwrite (SBoth.drew HB.out) _ _ HAX.out HG.out).mono ?_; rintro e w' ⟨rfl, hd, Od⟩))
        | fail)
    all_goals (
      have FIN : Hid (∃ N' E', SBoth w' pb mb sb qb rb n N' N' E' E' (c + 2) X ∧ OffX X w w') := by
        first
          | exact Lib.hid (fin.out hd (by omega) (((OffX.refl _ _).drew).trans (Op.trans Od)))
          | exact Lib.hid (fin.out hp (by omega) (((OffX.refl _ _).drew).trans (Od.trans Op)))
      clear hp hd Op Od
      rename_i hh
      clear hh
      go_wp2_with fail
      go_ret
      exact ⟨rfl, FIN.out⟩)
  have f0 : (d == 0) = false := beq_eq_false_iff_ne.2 e0
  have f1 : (d == 1) = false := beq_eq_false_iff_ne.2 e1
  have f2 : (d == 2) = false := beq_eq_false_iff_ne.2 e2
  have f3 : (d == 3) = false := beq_eq_false_iff_ne.2 e3
  clear e0 e1 e2 e3
  obtain ⟨g0, g1, g2, g3, g4⟩ := hA
  have GA : Hid (ActV (w.alloc (.cells #[.int .i64 d, .int .i64 xa, .int .i64 xb, .int .i64 xc, .slice xga G.length xgc] 70)) w.heap.size d xa xb xc (.slice xga G.length xgc)) := Lib.hid ⟨g0, g1, g2, g3, g4⟩
  go_enter Try.func38, Try.ntmps38
  go_wp2_with fail
  go_ret
  exact ⟨rfl, fin.out HB.out (by omega) (OffX.refl _ _)⟩
end
end Go.Proofs.Ytoafoodgomnfeaa
