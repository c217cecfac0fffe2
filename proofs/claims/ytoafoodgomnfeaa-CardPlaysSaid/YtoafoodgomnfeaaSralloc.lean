/-
  YtoafoodgomnfeaaSralloc: May and Alloc of the document's space.
-/
import Derived.Test.YtoafoodgomnfeaaSboth
namespace Go.Proofs.Ytoafoodgomnfeaa
open Go.RowKit
set_option linter.unusedVariables false

theorem rmay_any (g k c : Int) (w : World) : Calls Try.prog 93 #[.int .i64 g, .int .i64 k, .int .i64 c] w fun e w' => e = .returned (.bool (mayB g k c)) ∧ w = w' := by
  by_cases h1 : g < 0
  · have e : mayB g k c = false := by unfold mayB; exact decide_eq_false (by omega)
    rw [e]
    go_enter Try.func93, Try.ntmps93
    go_wp2
    go_ret
    exact ⟨rfl, rfl⟩
  by_cases h2 : 4 < g
  · have e : mayB g k c = false := by unfold mayB; exact decide_eq_false (by omega)
    rw [e]
    go_enter Try.func93, Try.ntmps93
    go_wp2
    go_ret
    exact ⟨rfl, rfl⟩
  by_cases h3 : k < 0
  · have e : mayB g k c = false := by unfold mayB; exact decide_eq_false (by omega)
    rw [e]
    go_enter Try.func93, Try.ntmps93
    go_wp2
    go_ret
    exact ⟨rfl, rfl⟩
  by_cases h4 : 3 < k
  · have e : mayB g k c = false := by unfold mayB; exact decide_eq_false (by omega)
    rw [e]
    go_enter Try.func93, Try.ntmps93
    go_wp2
    go_ret
    exact ⟨rfl, rfl⟩
  by_cases h5 : k < 2
  · have e : mayB g k c = (c == 2) := by
      unfold mayB
      by_cases c2 : c = 2
      · subst c2; exact decide_eq_true (by omega)
      · rw [beq_eq_false_iff_ne.2 c2]; exact decide_eq_false (by omega)
    rw [e]
    clear e
    go_enter Try.func93, Try.ntmps93
    go_wp2
    go_ret
    exact ⟨rfl, rfl⟩
  by_cases c1 : 1 ≤ c
  · have e : mayB g k c = decide (c ≤ 63) := by unfold mayB; rw [decide_eq_decide]; omega
    rw [e]
    clear e
    go_enter Try.func93, Try.ntmps93
    go_wp2
    go_ret
    exact ⟨rfl, rfl⟩
  · have e : mayB g k c = false := by unfold mayB; exact decide_eq_false (by omega)
    have c3 : c < 1 := by omega
    rw [e]
    clear c1
    go_enter Try.func93, Try.ntmps93
    go_wp2
    go_ret
    exact ⟨rfl, rfl⟩

section
variable {w : World} {pb mb sb qb rb n c : Nat} {M R : MemS} {C D : Nat → Int} {X : List Nat}
/-- One of the document's memory's calls, beside the spaces. -/
theorem SBoth.dmem (h : SBoth w pb mb sb qb rb n M R C D c X) {w' : World} {R' : MemS} {c' : Nat} (hB : BothAt w' mb sb rb n M R' c' (pb :: qb :: X)) (O : OffX (pb :: qb :: X) w w') (hD : CurOk n R' D) : SBoth w' pb mb sb qb rb n M R' C D c' X ∧ OffX X w w' :=
  ⟨h.mems hB O h.okC hD h.kc, O.mono (fun b hb => by simp [hb])⟩
theorem SBoth.place (h : SBoth w pb mb sb qb rb n M R C D c X) {x : Nat} (hx : R.isTaken n x) : ∃ (la : Option Addr) (lcap lg len j cap : Nat) (va : Option Addr), w.cell? ⟨rb, 1, none⟩ = some (.slice (some ⟨lg, 0, none⟩) len lcap) ∧ j < len ∧ len ≤ 1024 ∧
    w.cell? ⟨lg, j * 9 + 8, none⟩ = some (.slice va (R.S x).n.toNat cap) ∧ ∀ w2, Off [] w w2 → Calls Try.prog 91 #[.pointer (some ⟨rb, 0, none⟩), .int .i64 (x : Int)] w2 fun e w' => e = .returned (.int .i64 (j : Int)) ∧ w2 = w' := by
  obtain ⟨T, V, v, r1, r2, r3⟩ := h.both.ref
  have hin : x ∈ T := (r2.mem x).2 ⟨by have := hx.2.1; omega, by rw [selB_all (by simpa using hx.2.2)]⟩
  obtain ⟨j, hj, hjx⟩ := mem_getD hin
  obtain ⟨la, lcap, lg, rfl, hla, hlc⟩ := r1.form
  obtain ⟨rfl, _⟩ := hla (by omega)
  obtain ⟨va, cap, g, hV, _, _⟩ := ownsRow_form (r1.wrow x hin)
  have h8 := (hlc j 8 hj (by omega)).1
  rw [hjx] at h8
  simp only [cellR, hV] at h8
  have hl := r2.len
  have hn := h.n1
  have hp : ∀ w2, Off [] w w2 → Calls Try.prog 91 #[.pointer (some ⟨rb, 0, none⟩), .int .i64 (x : Int)] w2 fun e w' => e = .returned (.int .i64 (j : Int)) ∧ w2 = w' := fun w2 O => by
    have := place_yes (r1.off O (by simp)) (by omega) r2.nodup j hj
    rw [hjx] at this
    exact this
  exact ⟨none, lcap, lg, T.length, j, cap, va, r1.l, hj, by omega, h8, hp⟩

set_option maxRecDepth 100000 in
set_option maxHeartbeats 1000000 in
/-- Take and Bump, behind what was current. -/
theorem SBoth.dalloc (h : SBoth w pb mb sb qb rb n M R C D c X) (g k cc : Int) {r s : Int} {R' : MemS} {D' : Nat → Int} (hA : AllocIs n R D g k cc r s R' D') :
    Calls Try.prog 75 #[.pointer (some ⟨qb, 0, none⟩), .int .i64 g, .int .i64 k, .int .i64 cc] w fun e w' => e = .returned (.tuple #[.int .i64 r, .int .i64 s]) ∧ SBoth w' pb mb sb qb rb n M R' C D' (c + 1) X ∧ OffX X w w' := by
  have hcur := hA.cur h.okD h.both.wfr
  by_cases hm : mayB g k cc = true
  case neg =>
    have hm : mayB g k cc = false := by simpa using hm
    have hRS : r = 0 ∧ s = 1 ∧ R' = R ∧ D' = D := by
      rcases hA with ⟨rfl, rfl, _, rfl, rfl⟩ | ⟨_, h1, _⟩ | ⟨_, _, h1, _⟩ | ⟨_, h1, _⟩
      · exact ⟨rfl, rfl, rfl, rfl⟩
      all_goals (rw [hm] at h1; cases h1)
    obtain ⟨rfl, rfl, rfl, rfl⟩ := hRS
    have HF := Lib.hid (h.more (c' := c + 1) (by omega))
    have HM := Lib.hid hm
    clear h hA hcur hm
    go_enter Try.func75, Try.ntmps75
    go_wp2_with fail
    refine (rmay_any g k cc _).mono ?_
    rintro e w' ⟨rfl, rfl⟩
    rw [HM.out]
    go_wp2_with fail
    go_ret2
    exact ⟨rfl, HF.out, OffX.refl _ _⟩
  have hmm := of_decide_eq_true hm
  obtain ⟨g', rfl⟩ : ∃ g' : Nat, g = g' := ⟨g.toNat, by omega⟩
  obtain ⟨k', rfl⟩ : ∃ k' : Nat, k = k' := ⟨k.toNat, by omega⟩
  have hg : g' < 5 := by omega
  have hk : k' < 4 := by omega
  have hc1 : 1 ≤ cc := by omega
  have hc63 : cc ≤ 63 := by omega
  clear hmm
  have q0 := h.qptr
  have q1 := h.qcur (g' * 4 + k') (by omega)
  rw [← Nat.add_assoc] at q1
  have HM := Lib.hid hm
  have n1 := h.n1
  have HH := Lib.hid h
  rcases hA with ⟨_, _, h1, _⟩ | ⟨rfl, _, x, hx, ht, hr, rfl, rfl, rfl⟩ | ⟨rfl, rfl, _, hno, hz, rfl, rfl⟩ | ⟨rfl, _, hno, q, hq, h0, hl, rfl, rfl, rfl⟩
  · rw [hm] at h1; cases h1
  · -- what is current has room
    simp only [Int.toNat_natCast] at hx
    obtain ⟨_, lcap, lg, len, j, cap, va, l1, hj, hlen, l8, hpl⟩ := h.place ht
    have HP := Lib.hid hpl
    have hu := h.both.wfr.used x (by have := ht.2.1; omega)
    have hD1 : D' (g' * 4 + k') - 1 = (x : Int) := by omega
    rw [hD1] at q1
    have HCUR := Lib.hid hcur
    have hfz := h.both.ref
    have HT := Lib.hid ht
    have HR := Lib.hid hr
    have hbump : BumpIs n R (x : Int) cc ((x : Int) * 64 + (R.S x).n) 0 (R.bump x cc) := .inl ⟨rfl, ht, hc1, by rw [Int.toNat_natCast]; exact hr, by rw [Int.toNat_natCast], by rw [Int.toNat_natCast]⟩
    have HBU := Lib.hid hbump
    generalize hun : (R.S x).n = un at *
    obtain ⟨u, rfl⟩ : ∃ u : Nat, un = u := ⟨un.toNat, by omega⟩
    simp only [Int.toNat_natCast] at l8
    have HUN := Lib.hid hun
    have w1 : IntKind.i64.wrap ((u : Int) + cc) = (u : Int) + cc := by rw [IntKind.wrap_i64]; omega
    have w2 : (u : Int) + cc ≤ 64 := by omega
    have x0 : (0 : Int) ≤ (x : Int) := by omega
    clear h hpl hbump hun hcur hfz ht hr hx hD1 hm
    go_enter Try.func75, Try.ntmps75
    go_wp2_with fail
    refine (rmay_any _ _ cc _).mono ?_
    rintro e w' ⟨rfl, rfl⟩
    rw [HM.out]
    go_wp2_with fail
    go_quiet ((go_at_call 91; exact qleft (HP.out _ ((Off.refl _ _).drewN _))))
    go_wp2_with fail
    refine ((HH.out.off ((Off.refl [] w).drewN _)).both.dbump _ _ HBU.out).mono ?_
    rintro e w2 ⟨rfl, hB2, O2⟩
    have FIN := Lib.hid ((HH.out.off ((Off.refl [] w).drewN nq)).dmem hB2 O2 HCUR.out)
    clear hB2 O2
    go_wp2_with fail
    go_ret2
    exact ⟨rfl, FIN.out.1.more (by omega), ((OffX.refl _ _).drewN _).trans FIN.out.2⟩
  · have HTK := Lib.hid (show TakeIs n R' g' k' 0 2 R' from .inr (.inr ⟨rfl, rfl, rfl, hz, by omega, by omega, by omega, by omega⟩))
    have hkeep : CurOk n R' D' := h.okD
    have HKEEP := Lib.hid hkeep
    have HCUR := Lib.hid hcur
    rcases h.okD (g' * 4 + k') (by omega) with hz0 | ⟨x, hx, hxn, ht, _⟩
    · rw [hz0, show (0 : Int) - 1 = -1 from rfl] at q1
      clear h hkeep hcur hm
      go_enter Try.func75, Try.ntmps75
      go_wp2_with fail
      refine (rmay_any _ _ cc _).mono ?_
      rintro e w' ⟨rfl, rfl⟩
      rw [HM.out]
      go_wp2_with fail
      go_quiet (fail)
      go_wp2_with fail
      have SB := Lib.hid (HH.out.off ((Off.refl [] w).drewN nq))
      have OX : Hid (OffX X w (w.drewN nq)) := Lib.hid ((OffX.refl _ _).drewN _)
      refine (SB.out.both.dtake _ _ HTK.out).mono ?_
      rintro e w2 ⟨rfl, hB2, O2⟩
      have S2 := Lib.hid (SB.out.dmem hB2 O2 HKEEP.out)
      clear hB2 O2
      go_wp2_with fail
      go_ret2
      exact ⟨rfl, S2.out.1, OX.out.trans S2.out.2⟩
    · have hT : R'.isTaken n x := ⟨by omega, by omega, by rw [Int.toNat_natCast]; exact ht⟩
      obtain ⟨_, lcap, lg, len, j, cap, va, l1, hj, hlen, l8, hpl⟩ := h.place hT
      have HP := Lib.hid hpl
      have hu := h.both.wfr.used x hxn
      have hnr : ¬ cc ≤ 64 - (R'.S x).n := fun hh => hno ⟨x, by simpa using hx, hT, hh⟩
      have hD1 : D' (g' * 4 + k') - 1 = (x : Int) := by omega
      rw [hD1] at q1
      generalize hun : (R'.S x).n = un at *
      obtain ⟨u, rfl⟩ : ∃ u : Nat, un = u := ⟨un.toNat, by omega⟩
      simp only [Int.toNat_natCast] at l8
      have w1 : IntKind.i64.wrap ((u : Int) + cc) = (u : Int) + cc := by rw [IntKind.wrap_i64]; omega
      have w2 : decide ((u : Int) + cc ≤ 64) = false := decide_eq_false (by omega)
      have x0 : (0 : Int) ≤ (x : Int) := by omega
      clear h hpl hun hkeep hcur ht hx hD1 hm hT hno hnr
      go_enter Try.func75, Try.ntmps75
      go_wp2_with fail
      refine (rmay_any _ _ cc _).mono ?_
      rintro e w' ⟨rfl, rfl⟩
      rw [HM.out]
      go_wp2_with fail
      go_quiet ((go_at_call 91; exact qleft (HP.out _ ((Off.refl _ _).drewN _))))
      go_wp2_with fail
      have SB := Lib.hid (HH.out.off ((Off.refl [] w).drewN nq))
      have OX : Hid (OffX X w (w.drewN nq)) := Lib.hid ((OffX.refl _ _).drewN _)
      refine (SB.out.both.dtake _ _ HTK.out).mono ?_
      rintro e w2 ⟨rfl, hB2, O2⟩
      have S2 := Lib.hid (SB.out.dmem hB2 O2 HKEEP.out)
      clear hB2 O2
      go_wp2_with fail
      go_ret2
      exact ⟨rfl, S2.out.1, OX.out.trans S2.out.2⟩
  · have HTK := Lib.hid (show TakeIs n R g' k' q 0 (R.take q g' k') from .inl ⟨rfl, q, rfl, hq, h0, hl, by omega, by omega, by omega, by omega, rfl⟩)
    have hkeep : CurOk n (R.take q g' k') D := (show CurOk n { R with count := R.count + 1, free := R.free - 1 } D from h.okD).put q _ (fun hh => absurd h0 hh)
    have HKEEP := Lib.hid hkeep
    have HCUR := Lib.hid hcur
    have hqs : (R.take q g' k').S q = fresh g' k' (R.count + 1) := MemS.put_same _ _ _
    have HBU := Lib.hid (show BumpIs n (R.take q g' k') q cc ((q : Int) * 64) 0 ((R.take q g' k').bump q cc) from .inl ⟨rfl, ⟨by omega, by omega, by rw [Int.toNat_natCast, hqs]; show R.count + 1 ≠ 0; have := h.both.wfr.cnt0; omega⟩, hc1, by rw [Int.toNat_natCast, hqs]; show cc ≤ 64 - 0; omega, by rw [Int.toNat_natCast, hqs]; show (q : Int) * 64 = q * 64 + 0; omega, by rw [Int.toNat_natCast]⟩)
    have HKB := Lib.hid (show CurOk n (R.take q g' k') (putC D (g' * 4 + k') (q + 1)) from h.okD.take hq h0 h.both.wfr.cnt0 hg hk)
    simp only [Int.toNat_natCast] at HCUR
    rcases h.okD (g' * 4 + k') (by omega) with hz0 | ⟨x, hx, hxn, ht, _⟩
    · rw [hz0, show (0 : Int) - 1 = -1 from rfl] at q1
      clear h hkeep hcur hm
      go_enter Try.func75, Try.ntmps75
      go_wp2_with fail
      refine (rmay_any _ _ cc _).mono ?_
      rintro e w' ⟨rfl, rfl⟩
      rw [HM.out]
      go_wp2_with fail
      go_quiet (fail)
      go_wp2_with fail
      have SB := Lib.hid (HH.out.off ((Off.refl [] w).drewN nq))
      have OX : Hid (OffX X w (w.drewN nq)) := Lib.hid ((OffX.refl _ _).drewN _)
      refine (SB.out.both.dtake _ _ HTK.out).mono ?_
      rintro e w2 ⟨rfl, hB2, O2⟩
      have S2 := Lib.hid (SB.out.dmem hB2 O2 HKEEP.out)
      have p0 := S2.out.1.qptr
      have p1 := S2.out.1.qcur (g' * 4 + k') (by omega)
      have p2 := S2.out.1.qfz (1 + g' * 4 + k')
      rw [← Nat.add_assoc] at p1
      have hQ := S2.out.1.qset (i := g' * 4 + k') (by omega) (q + 1) HKB.out
      rw [Int.add_sub_cancel, ← Nat.add_assoc] at hQ
      have p3 := hQ.1.qptr
      have HQ := Lib.hid hQ
      clear hB2 O2 hQ
      go_wp2_with fail
      refine (HQ.out.1.both.dbump _ _ HBU.out).mono ?_
      rintro e w3 ⟨rfl, hB3, O3⟩
      have S3 := Lib.hid (HQ.out.1.dmem hB3 O3 HCUR.out)
      clear hB3 O3 p3
      go_wp2_with fail
      go_ret2
      exact ⟨rfl, S3.out.1, OX.out.trans (S2.out.2.trans (HQ.out.2.trans S3.out.2))⟩
    · have hT : R.isTaken n x := ⟨by omega, by omega, by rw [Int.toNat_natCast]; exact ht⟩
      obtain ⟨_, lcap, lg, len, j, cap, va, l1, hj, hlen, l8, hpl⟩ := h.place hT
      have HP := Lib.hid hpl
      have hu := h.both.wfr.used x hxn
      have hnr : ¬ cc ≤ 64 - (R.S x).n := fun hh => hno ⟨x, by simpa using hx, hT, hh⟩
      have hD1 : D (g' * 4 + k') - 1 = (x : Int) := by omega
      rw [hD1] at q1
      generalize hun : (R.S x).n = un at *
      obtain ⟨u, rfl⟩ : ∃ u : Nat, un = u := ⟨un.toNat, by omega⟩
      simp only [Int.toNat_natCast] at l8
      have w1 : IntKind.i64.wrap ((u : Int) + cc) = (u : Int) + cc := by rw [IntKind.wrap_i64]; omega
      have w2 : decide ((u : Int) + cc ≤ 64) = false := decide_eq_false (by omega)
      have x0 : (0 : Int) ≤ (x : Int) := by omega
      clear h hpl hun hkeep hcur ht hx hD1 hm hT hno hnr
      go_enter Try.func75, Try.ntmps75
      go_wp2_with fail
      refine (rmay_any _ _ cc _).mono ?_
      rintro e w' ⟨rfl, rfl⟩
      rw [HM.out]
      go_wp2_with fail
      go_quiet ((go_at_call 91; exact qleft (HP.out _ ((Off.refl _ _).drewN _))))
      go_wp2_with fail
      have SB := Lib.hid (HH.out.off ((Off.refl [] w).drewN nq))
      have OX : Hid (OffX X w (w.drewN nq)) := Lib.hid ((OffX.refl _ _).drewN _)
      refine (SB.out.both.dtake _ _ HTK.out).mono ?_
      rintro e w2 ⟨rfl, hB2, O2⟩
      have S2 := Lib.hid (SB.out.dmem hB2 O2 HKEEP.out)
      have p0 := S2.out.1.qptr
      have p1 := S2.out.1.qcur (g' * 4 + k') (by omega)
      have p2 := S2.out.1.qfz (1 + g' * 4 + k')
      rw [← Nat.add_assoc] at p1
      have hQ := S2.out.1.qset (i := g' * 4 + k') (by omega) (q + 1) HKB.out
      rw [Int.add_sub_cancel, ← Nat.add_assoc] at hQ
      have p3 := hQ.1.qptr
      have HQ := Lib.hid hQ
      clear hB2 O2 hQ
      go_wp2_with fail
      refine (HQ.out.1.both.dbump _ _ HBU.out).mono ?_
      rintro e w3 ⟨rfl, hB3, O3⟩
      have S3 := Lib.hid (HQ.out.1.dmem hB3 O3 HCUR.out)
      clear hB3 O3 p3
      go_wp2_with fail
      go_ret2
      exact ⟨rfl, S3.out.1, OX.out.trans (S2.out.2.trans (HQ.out.2.trans S3.out.2))⟩
end
end Go.Proofs.Ytoafoodgomnfeaa
