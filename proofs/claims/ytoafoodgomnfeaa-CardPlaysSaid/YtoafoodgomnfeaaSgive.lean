/-
  YtoafoodgomnfeaaSgive: Give of both spaces.
-/
import Derived.Test.YtoafoodgomnfeaaSralloc
namespace Go.Proofs.Ytoafoodgomnfeaa
open Go.RowKit
set_option linter.unusedVariables false

def SGiveIs (n : Nat) (M : MemS) (C : Nat → Int) (a s : Int) (M' : MemS) (C' : Nat → Int) : Prop :=
  (s = 0 ∧ M.isTaken n a ∧ M' = M.give a.toNat ∧ C' = clearC C (a + 1)) ∨ (s = 19 ∧ ¬ M.isTaken n a ∧ M' = M ∧ C' = C)
theorem SGiveIs.ex (n : Nat) (M : MemS) (C : Nat → Int) (a : Int) : ∃ s M' C', SGiveIs n M C a s M' C' := by
  by_cases h : M.isTaken n a
  · exact ⟨0, _, _, .inl ⟨rfl, h, rfl, rfl⟩⟩
  · exact ⟨19, _, _, .inr ⟨rfl, h, rfl, rfl⟩⟩
theorem CurOk.zero {n : Nat} {M : MemS} {C : Nat → Int} (h : CurOk n M C) (i : Nat) : CurOk n M (putC C i 0) := fun j hj => by
  unfold putC
  split
  · exact .inl rfl
  · exact h j hj
theorem CurOk.clear_eq {n : Nat} {M : MemS} {C : Nat → Int} (h : CurOk n M C) {a : Int} {i : Nat} (ha : M.isTaken n a) (hi : (M.S a.toNat).gen * 4 + (M.S a.toNat).kind = (i : Int)) (e : C i = a + 1) : ∀ j, j < 20 → clearC C (a + 1) j = putC C i 0 j := fun j hj => by
  unfold clearC putC
  by_cases e1 : C j = a + 1
  · rw [if_pos e1]
    rcases h j hj with h0 | ⟨k, hk, _, _, _, _, _, hs⟩
    · have := ha.1; omega
    · have : a.toNat = k := by omega
      rw [this] at hi
      rw [if_pos (by omega)]
  · rw [if_neg e1, if_neg (fun hh => e1 (by rw [hh]; exact e))]
theorem CurOk.clear_ne {n : Nat} {M : MemS} {C : Nat → Int} (h : CurOk n M C) {a : Int} {i : Nat} (ha : M.isTaken n a) (hi : (M.S a.toNat).gen * 4 + (M.S a.toNat).kind = (i : Int)) (e : C i ≠ a + 1) : ∀ j, j < 20 → clearC C (a + 1) j = C j := fun j hj => by
  unfold clearC
  by_cases e1 : C j = a + 1
  · rcases h j hj with h0 | ⟨k, hk, _, _, _, _, _, hs⟩
    · have := ha.1; omega
    · have : a.toNat = k := by omega
      rw [this] at hi
      exact absurd (by rw [show i = j by omega]; exact e1) e
  · rw [if_neg e1]

section
variable {w : World} {pb mb sb qb rb n c : Nat} {M R : MemS} {C D : Nat → Int} {X : List Nat}
/-- One of the program's 20 cells has turned to 0. -/
theorem SBoth.pzero (h : SBoth w pb mb sb qb rb n M R C D c X) {g k : Nat} (hg : g < 5) (hk : k < 4) : SBoth (w.setCell ⟨pb, 1 + g * 4 + k, none⟩ (.int .i64 0)) pb mb sb qb rb n M R (putC C (g * 4 + k) 0) D c X ∧ OffX X w (w.setCell ⟨pb, 1 + g * 4 + k, none⟩ (.int .i64 0)) :=
  h.pstep (h.space.setCur hg hk 0 (Int.le_refl _) (by omega)) h.both.wf (Nat.le_refl _) ((Off.refl _ _).setCell (by simp) _) (h.okC.zero _) h.kc
theorem SBoth.pmem (h : SBoth w pb mb sb qb rb n M R C D c X) {w' : World} {M' : MemS} {c' : Nat} (hB : BothAt w' mb sb rb n M' R c' (pb :: qb :: X)) (O : OffX (pb :: qb :: X) w w') (hC : CurOk n M' C) (hK : Kc n M') : SBoth w' pb mb sb qb rb n M' R C D c' X ∧ OffX X w w' :=
  ⟨h.mems hB O hC h.okD hK, O.mono (fun b hb => by simp [hb])⟩

set_option maxRecDepth 100000 in
set_option maxHeartbeats 1000000 in
theorem SBoth.pgive (h : SBoth w pb mb sb qb rb n M R C D c X) (a : Int) {s : Int} {M' : MemS} {C' : Nat → Int} (hG : SGiveIs n M C a s M' C') :
    Calls Try.prog 36 #[.pointer (some ⟨pb, 0, none⟩), .int .i64 a] w fun e w' => e = .returned (.int .i64 s) ∧ SBoth w' pb mb sb qb rb n M' R C' D c X ∧ OffX X w w' := by
  have n1 := h.n1
  have p0 := h.pptr
  have HH := Lib.hid h
  rcases hG with ⟨rfl, ht, rfl, rfl⟩ | ⟨rfl, ht, rfl, rfl⟩
  · obtain ⟨t1, t2, t3⟩ := ht
    obtain ⟨k, rfl⟩ : ∃ k : Nat, a = k := ⟨a.toNat, by omega⟩
    simp only [Int.toNat_natCast] at t3
    have hkn : k < n := by omega
    have hge := h.both.wf.gen k hkn
    have hkc := h.kc k hkn
    have hk0 := hkc.kind0
    have hk3 := hkc.kind
    have HT : Hid (M.isTaken n k) := Lib.hid ⟨by omega, by omega, by rw [Int.toNat_natCast]; exact t3⟩
    generalize hs : M.S k = sg at *
    obtain ⟨gen, kind, un, e0, e1, e2, e3, tk, ws⟩ := sg
    simp only [] at t3 hge hk0 hk3
    obtain ⟨g', rfl⟩ : ∃ g' : Nat, gen = g' := ⟨gen.toNat, by omega⟩
    obtain ⟨k', rfl⟩ : ∃ k' : Nat, kind = k' := ⟨kind.toNat, by omega⟩
    have g5 : g' < 5 := by omega
    have k4 : k' < 4 := by omega
    have HS := Lib.hid hs
    have hi : Hid ((M.S ((k : Int)).toNat).gen * 4 + (M.S ((k : Int)).toNat).kind = ((g' * 4 + k' : Nat) : Int)) := Lib.hid (by rw [Int.toNat_natCast, hs]; simp only []; omega)
    have HG : Hid (GiveIs n M (k : Int) 0 (M.give ((k : Int)).toNat)) := Lib.hid (.inl ⟨rfl, HT.out, rfl⟩)
    have c0 := h.pcur (g' * 4 + k') (by omega)
    rw [← Nat.add_assoc] at c0
    have wr : IntKind.i64.wrap ((k : Int) + 1) = (k : Int) + 1 := by rw [IntKind.wrap_i64]; omega
    have i0 : (0 : Int) ≤ (g' : Int) := by omega
    have i1 : (g' : Int) < 5 := by omega
    have i2 : (0 : Int) ≤ (k' : Int) := by omega
    have i3 : (k' : Int) < 4 := by omega
    have HKG : Hid (Kc n (M.give ((k : Int)).toNat)) := Lib.hid (h.kc.give _)
    clear hs hkc
    have SEG := Lib.hid (fun w2 (O : Off [] w w2) => seg_yes' (HH.out.off O).both.mem HH.out.n1 k hkn _ HS.out t3 (k : Int) rfl)
    by_cases e : C (g' * 4 + k') = (k : Int) + 1
    · have HE := Lib.hid e
      rw [e] at c0
      clear e h hge t1 t2
      go_enter Try.func36, Try.ntmps36
      go_wp2_with fail
      refine (none_no HH.out.space).mono ?_
      rintro e w2 ⟨rfl, rfl⟩
      go_wp2_with fail
      refine (SEG.out _ (Off.refl _ _)).mono ?_
      rintro e w4 ⟨rfl, _, O4⟩
      have O5 := O4.alloc (.cells #[.int .i64 (g' : Int), .int .i64 (k' : Int), .int .i64 un, .int .i64 e0, .int .i64 e1, .int .i64 e2, .int .i64 e3] 37)
      have c1 := O5.cell c0 (by simp)
      have p1 := O5.cell p0 (by simp)
      have hA : (w4.alloc (.cells #[.int .i64 (g' : Int), .int .i64 (k' : Int), .int .i64 un, .int .i64 e0, .int .i64 e1, .int .i64 e2, .int .i64 e3] 37)).heap[w4.heap.size]? = some _ := Array.getElem?_push_size
      have s0 := cell_of_row _ _ 0 _ _ _ hA
      have s1 := cell_of_row _ _ 1 _ _ _ hA
      simp only [List.getElem?_toArray, List.getElem?_cons_zero, List.getElem?_cons_succ] at s0 s1
      have S5 := Lib.hid (HH.out.off O5)
      have OX5 : Hid (OffX X w (w4.alloc (.cells #[.int .i64 (g' : Int), .int .i64 (k' : Int), .int .i64 un, .int .i64 e0, .int .i64 e1, .int .i64 e2, .int .i64 e3] 37))) := Lib.hid (BothAt.offX O5)
      clear hA O4 O5 c0 p0
      go_wp2_with fail
      generalize w4.alloc (.cells #[.int .i64 (g' : Int), .int .i64 (k' : Int), .int .i64 un, .int .i64 e0, .int .i64 e1, .int .i64 e2, .int .i64 e3] 37) = w5 at *
      generalize w4.heap.size = sp at *
      go_quiet (fail)
      go_wp2_with fail
      refine region_tail 9 (by kernel_rfl) (by kernel_rfl) ?_
      intro w6 hw6
      simp only [List.take_succ_cons, List.take_zero, List.drop_succ_cons, List.drop_zero]
      have O6 : Off [] w5 w6 := by rw [← hw6]; exact ((Off.refl _ _).drewN _).drew
      have S6 := Lib.hid (S5.out.off O6)
      have OX6 := Lib.hid (OX5.out.trans (BothAt.offX O6))
      have c2 := O6.cell c1 (by simp)
      have p2 := O6.cell p1 (by simp)
      have s2 := O6.cell s0 (by simp)
      have s3 := O6.cell s1 (by simp)
      have f2 := S6.out.pfz (1 + g' * 4 + k')
      clear hw6 O6 c1 p1 s0 s1
      repeat still_step
      refine wpStill_nil ?_
      have Z := S6.out.pzero (g := g') (k := k') (by omega) (by omega)
      have p3 := Z.1.pptr
      have S7 := Lib.hid Z.1
      have OX7 := Lib.hid (OX6.out.trans Z.2)
      clear Z
      go_wp2_with fail
      refine (S7.out.both.pgive _ HG.out).mono ?_
      rintro e w8 ⟨rfl, hB8, O8⟩
      have ok8 : CurOk n (M.give ((k : Int)).toNat) (putC C (g' * 4 + k') 0) := (HH.out.okC.give HT.out.1).congr (fun j hj => (HH.out.okC.clear_eq HT.out hi.out HE.out j hj).symm)
      have Y := S7.out.pmem hB8 O8 ok8 HKG.out
      have FIN := Lib.hid (show SBoth w8 pb mb sb qb rb n (M.give ((k : Int)).toNat) R (clearC C ((k : Int) + 1)) D c X ∧ OffX X w w8 from ⟨Y.1.congr (HH.out.okC.clear_eq HT.out hi.out HE.out) (fun _ _ => rfl), OX7.out.trans Y.2⟩)
      clear hB8 O8 ok8 Y p3
      go_wp2_with fail
      go_ret
      exact ⟨rfl, FIN.out⟩
    · have HE := Lib.hid e
      have ez : (C (g' * 4 + k') == (k : Int) + 1) = false := beq_eq_false_iff_ne.2 e
      generalize hcc : C (g' * 4 + k') = cc at c0 ez
      clear hcc
      clear e h hge t1 t2
      go_enter Try.func36, Try.ntmps36
      go_wp2_with fail
      refine (none_no HH.out.space).mono ?_
      rintro e w2 ⟨rfl, rfl⟩
      go_wp2_with fail
      refine (SEG.out _ (Off.refl _ _)).mono ?_
      rintro e w4 ⟨rfl, _, O4⟩
      have O5 := O4.alloc (.cells #[.int .i64 (g' : Int), .int .i64 (k' : Int), .int .i64 un, .int .i64 e0, .int .i64 e1, .int .i64 e2, .int .i64 e3] 37)
      have c1 := O5.cell c0 (by simp)
      have p1 := O5.cell p0 (by simp)
      have hA : (w4.alloc (.cells #[.int .i64 (g' : Int), .int .i64 (k' : Int), .int .i64 un, .int .i64 e0, .int .i64 e1, .int .i64 e2, .int .i64 e3] 37)).heap[w4.heap.size]? = some _ := Array.getElem?_push_size
      have s0 := cell_of_row _ _ 0 _ _ _ hA
      have s1 := cell_of_row _ _ 1 _ _ _ hA
      simp only [List.getElem?_toArray, List.getElem?_cons_zero, List.getElem?_cons_succ] at s0 s1
      have S5 := Lib.hid (HH.out.off O5)
      have OX5 : Hid (OffX X w (w4.alloc (.cells #[.int .i64 (g' : Int), .int .i64 (k' : Int), .int .i64 un, .int .i64 e0, .int .i64 e1, .int .i64 e2, .int .i64 e3] 37))) := Lib.hid (BothAt.offX O5)
      clear hA O4 O5 c0 p0
      go_wp2_with fail
      generalize w4.alloc (.cells #[.int .i64 (g' : Int), .int .i64 (k' : Int), .int .i64 un, .int .i64 e0, .int .i64 e1, .int .i64 e2, .int .i64 e3] 37) = w5 at *
      generalize w4.heap.size = sp at *
      go_quiet (fail)
      go_wp2_with fail
      refine ((S5.out.off ((Off.refl [] w5).drewN nq)).both.pgive _ HG.out).mono ?_
      rintro e w8 ⟨rfl, hB8, O8⟩
      have ok8 : CurOk n (M.give ((k : Int)).toNat) C := (HH.out.okC.give HT.out.1).congr (fun j hj => (HH.out.okC.clear_ne HT.out hi.out HE.out j hj).symm)
      have Y := (S5.out.off ((Off.refl [] w5).drewN nq)).pmem hB8 O8 ok8 HKG.out
      have FIN := Lib.hid (show SBoth w8 pb mb sb qb rb n (M.give ((k : Int)).toNat) R (clearC C ((k : Int) + 1)) D c X ∧ OffX X w w8 from ⟨Y.1.congr (HH.out.okC.clear_ne HT.out hi.out HE.out) (fun _ _ => rfl), (OX5.out.drewN _).trans Y.2⟩)
      clear hB8 O8 ok8 Y
      go_wp2_with fail
      go_ret
      exact ⟨rfl, FIN.out⟩
  · have HG : Hid (GiveIs n M' a 19 M') := Lib.hid (.inr ⟨rfl, ht, rfl⟩)
    have HT := Lib.hid ht
    have SEG := Lib.hid (fun w2 (O : Off [] w w2) => seg_no' (HH.out.off O).both.mem HH.out.n0 HH.out.n1 a HT.out)
    clear h ht
    go_enter Try.func36, Try.ntmps36
    go_wp2_with fail
    refine (none_no HH.out.space).mono ?_
    rintro e w2 ⟨rfl, rfl⟩
    go_wp2_with fail
    refine (SEG.out _ (Off.refl _ _)).mono ?_
    rintro e w4 ⟨rfl, _, O4⟩
    have O5 := O4.alloc (.cells #[.int .i64 0, .int .i64 0, .int .i64 0, .int .i64 0, .int .i64 0, .int .i64 0, .int .i64 0] 37)
    have p1 := O5.cell p0 (by simp)
    have S5 := Lib.hid (HH.out.off O5)
    have OX5 : Hid (OffX X w (w4.alloc (.cells #[.int .i64 0, .int .i64 0, .int .i64 0, .int .i64 0, .int .i64 0, .int .i64 0, .int .i64 0] 37))) := Lib.hid (BothAt.offX O5)
    clear O4 O5 p0
    go_wp2_with fail
    generalize w4.alloc (.cells #[.int .i64 0, .int .i64 0, .int .i64 0, .int .i64 0, .int .i64 0, .int .i64 0, .int .i64 0] 37) = w5 at *
    generalize w4.heap.size = sp at *
    go_quiet (fail)
    go_wp2_with fail
    refine ((S5.out.off ((Off.refl [] w5).drewN nq)).both.pgive _ HG.out).mono ?_
    rintro e w8 ⟨rfl, hB8, O8⟩
    have Y := (S5.out.off ((Off.refl [] w5).drewN nq)).pmem hB8 O8 HH.out.okC HH.out.kc
    have FIN := Lib.hid (show SBoth w8 pb mb sb qb rb n M' R C' D c X ∧ OffX X w w8 from ⟨Y.1, (OX5.out.drewN _).trans Y.2⟩)
    clear hB8 O8 Y
    go_wp2_with fail
    go_ret
    exact ⟨rfl, FIN.out⟩

/-- The document's 20 cells, the first p of them cleared. -/
def QRel (W1 wr : World) (qb rb : Nat) (D F : Nat → Int) (p : Nat) : Prop :=
  Off [qb] W1 wr ∧ wr.cell? ⟨qb, 0, none⟩ = some (.pointer (some ⟨rb, 0, none⟩)) ∧ (∀ i, i < 20 → wr.cell? ⟨qb, 1 + i, none⟩ = some (.int .i64 ((if i < p then F i else D i) - 1))) ∧ ∀ j, wr.frozen? ⟨qb, j, none⟩ = false
theorem QRel.skip {W1 wr : World} {qb rb p : Nat} {D F : Nat → Int} (h : QRel W1 wr qb rb D F p) (e : F p = D p) : QRel W1 wr qb rb D F (p + 1) :=
  ⟨h.1, h.2.1, fun i hi => by
    rw [h.2.2.1 i hi]
    by_cases e1 : i = p
    · subst e1; simp [e]
    · by_cases e2 : i < p
      · rw [if_pos e2, if_pos (by omega)]
      · rw [if_neg e2, if_neg (by omega)], h.2.2.2⟩
theorem QRel.set {W1 wr : World} {qb rb p : Nat} {D F : Nat → Int} (h : QRel W1 wr qb rb D F p) (hp : p < 20) (v : Int) (e : F p - 1 = v) : QRel W1 (wr.setCell ⟨qb, 1 + p, none⟩ (.int .i64 v)) qb rb D F (p + 1) := by
  refine ⟨h.1.trans ((Off.refl _ _).setCell (by simp) _), ?_, fun i hi => ?_, fun j => by rw [World.frozen?_setCell]; exact h.2.2.2 j⟩
  · rw [World.cell?_setCell_other _ _ _ _ (by simp only [ne_eq, Addr.mk.injEq, true_and, and_true]; omega)]; exact h.2.1
  · by_cases e1 : i = p
    · subst e1
      rw [World.cell?_setCell_same _ _ _ (h.2.2.1 i hi), if_pos (by omega), e]
    · rw [World.cell?_setCell_other _ _ _ _ (by simp only [ne_eq, Addr.mk.injEq, true_and, and_true]; omega), h.2.2.1 i hi]
      by_cases e2 : i < p
      · rw [if_pos e2, if_pos (by omega)]
      · rw [if_neg e2, if_neg (by omega)]
/-- All are cleared. -/
theorem SBoth.cleared {w1 w2 w3 : World} {R' : MemS} {F : Nat → Int} {c' : Nat} (h : SBoth w pb mb sb qb rb n M R C D c X) (hB : BothAt w2 mb sb rb n M R' c' (pb :: qb :: X)) (O : OffX (pb :: qb :: X) w w2) (hQ : QRel w2 w3 qb rb D F 20) (hD : CurOk n R' F) :
    SBoth w3 pb mb sb qb rb n M R' C F c' X ∧ OffX X w w3 := by
  obtain ⟨L, O', hL⟩ := O
  have np : pb ∉ L := fun hm => hL _ hm (by simp)
  have np2 : pb ∉ [qb] := by simpa using h.pq
  obtain ⟨O3, q0, q1, q2⟩ := hQ
  have hpl := h.pb_ne.2.2
  have O4 := (O'.mono (fun k hk => List.mem_append_left [qb] hk)).trans (O3.mono (fun k hk => List.mem_append_right L hk))
  have np3 : pb ∉ L ++ [qb] := by rw [List.mem_append]; exact fun hh => hh.elim np np2
  refine ⟨⟨hB.other O3 (fun b hb => by simp only [List.mem_cons, List.not_mem_nil, or_false] at hb; simp [hb]), O4.cell h.pptr np3, fun i hi => O4.cell (h.pcur i hi) np3, fun j => (O4.frozen (p := ⟨pb, j, none⟩) hpl np3).trans (h.pfz j),
    q0, fun i hi => by rw [q1 i hi, if_pos hi], q2, h.pq, h.px, h.qx, h.okC, hD, h.kc⟩, ⟨_, O4, fun b hb hm => ?_⟩⟩
  rw [List.mem_append] at hb
  rcases hb with hb | hb
  · exact hL b hb (by simp [hm])
  · simp only [List.mem_cons, List.not_mem_nil, or_false] at hb
    exact h.qx (hb ▸ hm)

set_option maxRecDepth 100000 in
set_option maxHeartbeats 1000000 in
theorem SBoth.dgive (h : SBoth w pb mb sb qb rb n M R C D c X) (a : Int) {s : Int} {R' : MemS} {D' : Nat → Int} (hG : SGiveIs n R D a s R' D') :
    Calls Try.prog 76 #[.pointer (some ⟨qb, 0, none⟩), .int .i64 a] w fun e w' => e = .returned (.int .i64 s) ∧ SBoth w' pb mb sb qb rb n M R' C D' c X ∧ OffX X w w' := by
  have p0 := h.qptr
  have HH := Lib.hid h
  have hg : GiveIs n R a s R' := by
    rcases hG with ⟨h1, h2, h3, _⟩ | ⟨h1, h2, h3, _⟩
    · exact .inl ⟨h1, h2, h3⟩
    · exact .inr ⟨h1, h2, h3⟩
  have HGI := Lib.hid hg
  have HOK : Hid (CurOk n R' D') := Lib.hid (by
    rcases hG with ⟨_, h2, rfl, rfl⟩ | ⟨_, _, rfl, rfl⟩
    · exact h.okD.give h2.1
    · exact h.okD)
  -- what each cell comes to
  have STEP : Hid ((s = 0 ∧ ∀ i, D' i = if D i - 1 = a then 0 else D i) ∨ (s = 19 ∧ D' = D)) := Lib.hid (by
    rcases hG with ⟨h1, _, _, rfl⟩ | ⟨h1, _, _, h4⟩
    · refine .inl ⟨h1, fun i => ?_⟩
      unfold clearC
      by_cases e : D i = a + 1
      · rw [if_pos e, if_pos (by omega)]
      · rw [if_neg e, if_neg (by omega)]
    · exact .inr ⟨h1, h4⟩)
  clear h hG hg
  go_enter Try.func76, Try.ntmps76
  go_wp2_with fail
  refine (HH.out.both.dgive a HGI.out).mono ?_
  rintro e w2 ⟨rfl, hB, O⟩
  have HB2 := Lib.hid hB
  have OX2 := Lib.hid O
  have hQ0 : QRel w2 w2 qb rb D D' 0 := ⟨Off.refl _ _, O.cell p0 (by simp), fun i hi => by rw [if_neg (by omega)]; exact O.cell (HH.out.qcur i hi) (by simp), fun j => by
    obtain ⟨L, O', hL⟩ := O
    exact (O'.frozen (p := ⟨qb, j, none⟩) HH.out.qb_ne.2.2 (fun hm => hL _ hm (by simp))).trans (HH.out.qfz j)⟩
  have HQ0 := Lib.hid hQ0
  clear hB O hQ0 p0
  go_wp2_with fail
  go_loopw [6] (fun g wr => ∃ g' : Nat, g' ≤ 5 ∧ g = .int .i64 g' ∧ QRel w2 wr qb rb D D' (4 * g')) (fun g _ => 5 - (intOf g).toNat)
  case atStart => exact ⟨0, by omega, rfl, HQ0.out⟩
  case round =>
    obtain ⟨g', hg', rfl, hQ⟩ := hrel
    have HQ := Lib.hid hQ
    clear hQ
    by_cases g5 : g' < 5
    · go_wp2_with fail
      go_loopw [7] (fun k wq => ∃ k' : Nat, k' ≤ 4 ∧ k = .int .i64 k' ∧ QRel w2 wq qb rb D D' (4 * g' + k')) (fun k _ => 4 - (intOf k).toNat)
      case atStart => exact ⟨0, by omega, rfl, HQ.out⟩
      case round =>
        obtain ⟨k', hk', rfl, hQ2⟩ := hrel
        have HQ2 := Lib.hid hQ2
        by_cases k4 : k' < 4
        · have c0 := hQ2.2.2.1 (4 * g' + k') (by omega)
          rw [if_neg (by omega), show 1 + (4 * g' + k') = 1 + g' * 4 + k' by omega] at c0
          have p1 := hQ2.2.1
          have f1 := hQ2.2.2.2 (1 + g' * 4 + k')
          have i0 : (0 : Int) ≤ (g' : Int) := by omega
          have i1 : (g' : Int) < 5 := by omega
          have i2 : (0 : Int) ≤ (k' : Int) := by omega
          have i3 : (k' : Int) < 4 := by omega
          clear hQ2
          rcases STEP.out with ⟨hs, hD⟩ | ⟨hs, hD⟩
          · subst hs
            have hv := hD (4 * g' + k')
            generalize hd : D (4 * g' + k') = d at *
            by_cases e : d - 1 = a
            · have e1 : (d - 1 == a) = true := beq_iff_eq.2 e
              rw [if_pos e] at hv
              have S1 := HQ2.out.set (by omega) (-1) (by rw [hv]; rfl)
              rw [show 1 + (4 * g' + k') = 1 + g' * 4 + k' by omega] at S1
              have HS1 := Lib.hid S1
              clear S1 hD hv e hd
              go_wp2_with fail
              go_roundw
              case rel => exact ⟨k' + 1, by omega, by go_num, HS1.out⟩
              case measure => simp [intOf]; omega
            · have e1 : (d - 1 == a) = false := beq_eq_false_iff_ne.2 e
              rw [if_neg e] at hv
              have HS1 := Lib.hid (HQ2.out.skip (by rw [hv, hd]))
              clear hD hv e hd
              go_wp2_with fail
              go_roundw
              case rel => exact ⟨k' + 1, by omega, by go_num, HS1.out⟩
              case measure => simp [intOf]; omega
          · subst hs
            have HS1 := Lib.hid (HQ2.out.skip (by rw [hD]))
            clear hD
            go_wp2_with fail
            go_roundw
            case rel => exact ⟨k' + 1, by omega, by go_num, HS1.out⟩
            case measure => simp [intOf]; omega
        · obtain rfl : k' = 4 := by omega
          clear hQ2
          go_wp2_with fail
          go_roundw
          case rel => exact ⟨g' + 1, by omega, by go_num, HQ2.out⟩
          case measure => simp [intOf]; omega
    · obtain rfl : g' = 5 := by omega
      go_wp2_with fail
      go_ret
      exact ⟨rfl, HH.out.cleared (w1 := w) HB2.out OX2.out HQ.out HOK.out⟩
end
end Go.Proofs.Ytoafoodgomnfeaa
