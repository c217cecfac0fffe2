/-
  YtoafoodgomnfeaaCstore: Store of the document's cards.
  YtoafoodgomnfeaaCagain: Ought and Again of the document's cards.
-/
import Derived.Test.YtoafoodgomnfeaaCgen
namespace Go.Proofs.Ytoafoodgomnfeaa
open Go.RowKit
set_option linter.unusedVariables false
theorem putCard_same (s : SegS) (q : Nat) (hq : q < 4) (m : Int) (hm : s.card q = m) : s.putCard q m = s := by
  subst hm
  obtain ⟨g, k, n, c0, c1, c2, c3, t, ws⟩ := s
  match q, hq with
  | 0, _ | 1, _ | 2, _ | 3, _ => simp [SegS.putCard, SegS.card]
theorem mark_same (M : MemS) (k q : Nat) (hq : q < 4) (m : Int) (hm : (M.S k).card q = m) : M.mark (k : Int) q m = M := by
  unfold MemS.mark
  rw [Int.toNat_natCast, putCard_same _ q hq m hm]
  obtain ⟨S, c, f, cp⟩ := M
  unfold MemS.put
  simp only [MemS.mk.injEq, and_true]
  funext i
  by_cases e : i = k
  · rw [if_pos e, e]
  · rw [if_neg e]
section
variable {w : World} {cb pb mb sb db qb rb n c : Nat} {M R : MemS} {C D : Nat → Int} {X : List Nat}
/-- The document's memory has turned. -/
theorem CBoth.dboth (h : CBoth w cb pb mb sb db qb rb n M R C D c X) {w' : World} {R' : MemS} {c' : Nat} (hB : BothAt w' mb sb rb n M R' c' (pb :: qb :: cb :: db :: X)) (O : OffX (pb :: qb :: cb :: db :: X) w w') (hD : CurOk n R' D) : CBoth w' cb pb mb sb db qb rb n M R' C D c' X ∧ OffX X w w' := by
  have S := h.sp.dmem hB O hD
  exact h.spaces S.1 S.2
theorem card_cell {w : World} {lg o : Nat} {s : SegS} (h4 : w.cell? ⟨lg, o + 4, none⟩ = some (.int .i64 s.c0)) (h5 : w.cell? ⟨lg, o + 5, none⟩ = some (.int .i64 s.c1)) (h6 : w.cell? ⟨lg, o + 6, none⟩ = some (.int .i64 s.c2)) (h7 : w.cell? ⟨lg, o + 7, none⟩ = some (.int .i64 s.c3)) (q : Nat) (hq : q < 4) :
    w.cell? ⟨lg, o + 4 + q, none⟩ = some (.int .i64 (s.card q)) := by
  match q, hq with
  | 0, _ => exact h4
  | 1, _ => exact h5
  | 2, _ => exact h6
  | 3, _ => exact h7

set_option maxRecDepth 100000 in
set_option maxHeartbeats 2000000 in
theorem CBoth.dstore (h : CBoth w cb pb mb sb db qb rb n M R C D c X) (a v : Int) (ha : a ≤ 9223372036854775807) (h0 : 0 ≤ v) (h1 : v ≤ 18446744073709551615) {s : Int} {R' : MemS} (hG : StoreIs n R a v s R') :
    Calls Try.prog 85 #[.pointer (some ⟨db, 0, none⟩), .int .i64 a, .int .u64 v] w fun e w' => e = .returned (.int .i64 s) ∧ CBoth w' cb pb mb sb db qb rb n M R' C D c X ∧ OffX X w w' := by
  have p0 := h.dp
  have p1 := h.sp.qptr
  have HH := Lib.hid h
  rcases hG with ⟨rfl, hw, rfl⟩ | ⟨rfl, hw, rfl⟩
  case inr =>
    have HW := Lib.hid (show WriteIs n R' a v 18 R' from .inr ⟨rfl, hw, rfl⟩)
    clear h hw
    go_enter Try.func85, Try.ntmps85
    go_wp2_with fail
    refine (HH.out.sp.both.dwrite a v ha HW.out).mono ?_
    rintro e w1 ⟨rfl, hB, O⟩
    have FIN := Lib.hid (HH.out.dboth hB O HH.out.sp.okD)
    clear hB O
    go_wp2_with fail
    go_ret
    exact ⟨rfl, FIN.out⟩
  have hww := hw
  obtain ⟨a0, ht, hlt⟩ := hww
  obtain ⟨x, hx⟩ : ∃ x : Nat, a / 64 = x := ⟨(a / 64).toNat, by omega⟩
  obtain ⟨q, hq⟩ : ∃ q : Nat, a % 64 / 16 = q := ⟨(a % 64 / 16).toNat, by omega⟩
  have hq4 : q < 4 := by omega
  have HW := Lib.hid (show WriteIs n R a v 0 (R.write a v) from .inl ⟨rfl, hw, rfl⟩)
  have hst : R.store n a v = (R.write a v).mark (x : Int) q (younger n (R.write a v) ((R.write a v).S x) v (((R.write a v).S x).card q)) := by
    unfold MemS.store
    rw [hx, hq, Int.toNat_natCast, Int.toNat_natCast]
  rw [hst]
  have ht1 : (R.write a v).isTaken n x := by
    rw [hx] at ht
    refine ⟨ht.1, ht.2.1, ?_⟩
    unfold MemS.write
    by_cases e : ((x : Nat) : Int).toNat = (a / 64).toNat
    · rw [e, MemS.put_same]; rw [hx]; exact ht.2.2
    · rw [MemS.put_other _ _ _ e]; exact ht.2.2
  have hok : CurOk n (R.write a v) D := h.sp.okD.write a v
  generalize R.write a v = R1 at *
  have HOK := Lib.hid hok
  have HT := Lib.hid ht1
  have HX := Lib.hid hx
  have HQ := Lib.hid hq
  clear hst hw ht hlt h hok ht1
  go_enter Try.func85, Try.ntmps85
  go_wp2_with fail
  refine (HH.out.sp.both.dwrite a v ha HW.out).mono ?_
  rintro e w1 ⟨rfl, hB, O⟩
  obtain ⟨H1, O1⟩ := HH.out.dboth hB O HOK.out
  have HH1 := Lib.hid H1
  have OX1 := Lib.hid O1
  have d0 := H1.dp
  have d1 := H1.sp.qptr
  obtain ⟨lcap, lg, len, j, cap, vg, va, l1, hj, hlen, ⟨_, c1, c2, _, c4, c5, c6, c7, _⟩, _, hfz, hpl, hmk⟩ := hB.row HT.out
  rw [← HX.out] at hpl
  have HPL := Lib.hid hpl
  have HMK := Lib.hid hmk
  have cq := card_cell c4 c5 c6 c7 q hq4
  have HCQ := Lib.hid (show Off [] w1 w1 ∧ w1.cell? ⟨lg, j * 9 + 1, none⟩ = some (.int .i64 (R1.S x).gen) ∧ w1.cell? ⟨lg, j * 9 + 2, none⟩ = some (.int .i64 (R1.S x).kind) ∧ w1.cell? ⟨lg, j * 9 + 4 + q, none⟩ = some (.int .i64 ((R1.S x).card q)) ∧ ∀ q, w1.frozen? ⟨lg, q, none⟩ = false from ⟨Off.refl _ _, c1, c2, cq, hfz⟩)
  have hlg : lg < w1.heap.size := World.block_lt_of_cell? _ _ c1
  have HLG := Lib.hid hlg
  have j0 : (0 : Int) ≤ (j : Int) := by omega
  have j1 : (j : Int) < (len : Int) := by omega
  clear hB O H1 O1 hpl hmk c1 c2 c4 c5 c6 c7 cq hfz p0 p1 hlg hx hq
  have a63 : a / 64 ≤ 9223372036854775807 := by omega
  go_wp2_with fail
  go_quiet ((go_at_call 91; exact qleft (HPL.out _ ((Off.refl _ _).drewN _))))
  go_wp2_with fail
  refine ((HH1.out.off ((Off.refl [] w1).drewN nq)).dgen v h0 h1).mono ?_
  rintro e w3 ⟨rfl, O3⟩
  have O13 : Off [] w1 w3 := ((Off.refl _ _).drewN nq).trans O3
  have g1 := O13.cell HCQ.out.2.1 (by simp)
  have g2 := O13.cell HCQ.out.2.2.1 (by simp)
  have g3 := O13.cell HCQ.out.2.2.2.1 (by simp)
  have g4 : w3.frozen? ⟨lg, j * 9 + 4 + q, none⟩ = false := (O13.frozen (p := ⟨lg, j * 9 + 4 + q, none⟩) HLG.out (by simp)).trans (HCQ.out.2.2.2.2 _)
  have OO3 := Lib.hid O13
  have YS : Hid (∀ g, genOf n R1 v = some g → (R1.S x).kind ≠ 3 → g < (R1.S x).gen → g < (R1.S x).card q → younger n R1 (R1.S x) v ((R1.S x).card q) = g) := Lib.hid (fun g e1 e2 e3 e4 => by
    unfold younger
    rw [e1]
    simp only []
    rw [if_pos ⟨e2, e3⟩]
    omega)
  have YK : Hid (∀ o, genOf n R1 v = o → (∀ g, o = some g → ¬ ((R1.S x).kind ≠ 3 ∧ g < (R1.S x).gen ∧ g < (R1.S x).card q)) → younger n R1 (R1.S x) v ((R1.S x).card q) = (R1.S x).card q) := Lib.hid (fun o e1 e2 => by
    unfold younger
    rw [e1]
    cases o with
    | none => rfl
    | some g =>
      simp only []
      have := e2 g rfl
      by_cases e3 : (R1.S x).kind ≠ 3 ∧ g < (R1.S x).gen
      · rw [if_pos e3]; omega
      · rw [if_neg e3])
  have KEEPM : Hid (∀ o, genOf n R1 v = o → (∀ g, o = some g → ¬ ((R1.S x).kind ≠ 3 ∧ g < (R1.S x).gen ∧ g < (R1.S x).card q)) → CBoth w3 cb pb mb sb db qb rb n M (R1.mark (x : Int) q (younger n R1 (R1.S x) v ((R1.S x).card q))) C D c X ∧ OffX X w w3) := Lib.hid (fun o e1 e2 => by
    rw [YK.out o e1 e2, mark_same R1 x q hq4 _ rfl]
    exact ⟨HH1.out.off OO3.out, OX1.out.trans (BothAt.offX OO3.out)⟩)
  have SETM : Hid (∀ g, genOf n R1 v = some g → (R1.S x).kind ≠ 3 → g < (R1.S x).gen → g < (R1.S x).card q → CBoth (w3.setCell ⟨lg, j * 9 + 4 + q, none⟩ (.int .i64 g)) cb pb mb sb db qb rb n M (R1.mark (x : Int) q (younger n R1 (R1.S x) v ((R1.S x).card q))) C D c X ∧ OffX X w (w3.setCell ⟨lg, j * 9 + 4 + q, none⟩ (.int .i64 g))) := Lib.hid (fun g e1 e2 e3 e4 => by
    rw [YS.out g e1 e2 e3 e4]
    have hm := HMK.out w3 OO3.out q hq4 g
    obtain ⟨b1, b2⟩ := (HH1.out.off OO3.out).dboth hm.1 hm.2 (HOK.out.mark _ _ _)
    exact ⟨b1, (OX1.out.trans (BothAt.offX OO3.out)).trans b2⟩)
  obtain ⟨o, ho⟩ : ∃ o, genOf n R1 v = o := ⟨_, rfl⟩
  obtain ⟨kd, hkd⟩ : ∃ kd, (R1.S x).kind = kd := ⟨_, rfl⟩
  obtain ⟨gn, hgn⟩ : ∃ gn, (R1.S x).gen = gn := ⟨_, rfl⟩
  obtain ⟨cd, hcd⟩ : ∃ cd, (R1.S x).card q = cd := ⟨_, rfl⟩
  rw [hgn] at g1
  rw [hkd] at g2
  rw [hcd] at g3
  rw [ho]
  have q0 : (0 : Int) ≤ (q : Int) := by omega
  have q4 : (q : Int) < 4 := by omega
  have a640 : 0 ≤ a % 64 := by omega
  have a64q : a % 64 ≤ 9223372036854775807 := by omega
  have HO := Lib.hid ho
  have HKD := Lib.hid hkd
  have HGN := Lib.hid hgn
  have HCD := Lib.hid hcd
  clear O3 O13 d0 d1 l1 HMK HPL HCQ ho hkd hgn hcd
  cases o with
  | none =>
    simp only [Option.getD_none, Option.isSome_none]
    have FIN := Lib.hid (KEEPM.out none HO.out (fun g e => by cases e))
    go_wp2_with fail
    go_ret
    exact ⟨rfl, FIN.out⟩
  | some g =>
    simp only [Option.getD_some, Option.isSome_some]
    by_cases k3 : kd = 3
    · have FIN := Lib.hid (KEEPM.out _ HO.out (fun g' e hh => hh.1 (by rw [HKD.out]; exact k3)))
      subst k3
      go_wp2_with fail
      go_ret
      exact ⟨rfl, FIN.out⟩
    · have k3' : (kd == 3) = false := beq_eq_false_iff_ne.2 k3
      have k3'' : (kd != 3) = true := bne_iff_ne.2 k3
      by_cases gl : g < gn
      · by_cases gc : g < cd
        · have FIN := Lib.hid (SETM.out g HO.out (by rw [HKD.out]; exact k3) (by rw [HGN.out]; exact gl) (by rw [HCD.out]; exact gc))
          have hqq := HQ.out
          clear k3
          go_wp2_with fail
          go_ret
          exact ⟨rfl, FIN.out⟩
        · have gc' : decide (g < cd) = false := decide_eq_false gc
          have FIN := Lib.hid (KEEPM.out _ HO.out (fun g' e hh => by cases e; exact gc (by rw [← HCD.out]; exact hh.2.2)))
          have hqq := HQ.out
          clear k3 gc
          go_wp2_with fail
          go_ret
          exact ⟨rfl, FIN.out⟩
      · have gl' : decide (g < gn) = false := decide_eq_false gl
        have FIN := Lib.hid (KEEPM.out _ HO.out (fun g' e hh => by cases e; exact gl (by rw [← HGN.out]; exact hh.2.1)))
        clear k3 gl
        go_wp2_with fail
        go_ret
        exact ⟨rfl, FIN.out⟩
end
end Go.Proofs.Ytoafoodgomnfeaa

namespace Go.Proofs.Ytoafoodgomnfeaa
open Go.RowKit
set_option linter.unusedVariables false
theorem againR_data (n : Nat) (M : MemS) (s : SegS) (hk : s.kind = 3) (q : Nat) : ∀ i, againR n M s q i = 5
  | 0 => rfl
  | i + 1 => by
    simp only [againR, younger, againR_data n M s hk q i]
    cases genOf n M (s.words (16 * q + i)) with
    | none => rfl
    | some g => simp only []; rw [if_neg (fun h => h.1 hk)]
def againStep (gen : Int) (o : Option Int) (m : Int) : Int :=
  match o with
  | some g => if g < gen ∧ g < m then g else m
  | none => m
theorem againR_succ (n : Nat) (M : MemS) (s : SegS) (q i : Nat) (hk : s.kind ≠ 3) : againR n M s q (i + 1) = againStep s.gen (genOf n M (s.words (16 * q + i))) (againR n M s q i) := by
  simp only [againR, younger, againStep]
  cases genOf n M (s.words (16 * q + i)) with
  | none => rfl
  | some g =>
    simp only []
    by_cases e1 : g < s.gen
    · rw [if_pos ⟨hk, e1⟩]
      by_cases e2 : g < againR n M s q i
      · rw [if_pos ⟨e1, e2⟩]; omega
      · rw [if_neg (fun h => e2 h.2)]; omega
    · rw [if_neg (fun h => e1 h.2), if_neg (fun h => e1 h.1)]

section
variable {w : World} {cb pb mb sb db qb rb n c : Nat} {M R : MemS} {C D : Nat → Int} {X : List Nat}
set_option maxRecDepth 100000 in
set_option maxHeartbeats 2000000 in
theorem CBoth.dought (h : CBoth w cb pb mb sb db qb rb n M R C D c X) (s : SegS) (hK : SegKc s) (hn0 : 0 ≤ s.n) (hn64 : s.n ≤ 64) {lcap lg len j cap vg : Nat} {va : Option Addr} {xx : Int} (l1 : w.cell? ⟨rb, 1, none⟩ = some (.slice (some ⟨lg, 0, none⟩) len lcap)) (hj : j < len) (hlen : len ≤ 1024)
    (b0 : w.cell? ⟨lg, j * 9, none⟩ = some (.int .i64 xx)) (b1 : w.cell? ⟨lg, j * 9 + 1, none⟩ = some (.int .i64 s.gen)) (b2 : w.cell? ⟨lg, j * 9 + 2, none⟩ = some (.int .i64 s.kind)) (b3 : w.cell? ⟨lg, j * 9 + 3, none⟩ = some (.int .i64 s.n)) (b4 : w.cell? ⟨lg, j * 9 + 4, none⟩ = some (.int .i64 s.c0))
    (b5 : w.cell? ⟨lg, j * 9 + 5, none⟩ = some (.int .i64 s.c1)) (b6 : w.cell? ⟨lg, j * 9 + 6, none⟩ = some (.int .i64 s.c2)) (b7 : w.cell? ⟨lg, j * 9 + 7, none⟩ = some (.int .i64 s.c3)) (b8 : w.cell? ⟨lg, j * 9 + 8, none⟩ = some (.slice va s.n.toNat cap))
    (hvc : ∀ q : Nat, (q : Int) < s.n → w.cell? ⟨vg, q, none⟩ = some (.int .u64 (s.words q)) ∧ va = some ⟨vg, 0, none⟩) (q : Nat) (hq : q < 4) :
    Calls Try.prog 98 #[.pointer (some ⟨db, 0, none⟩), .int .i64 j, .int .i64 q] w fun e w' => e = .returned (.int .i64 (againR n R s q (cntW s.n q))) ∧ Off [] w w' := by
  have p0 := h.dp
  have p1 := h.sp.qptr
  have HH := Lib.hid h
  have HV := Lib.hid hvc
  have HKS := Lib.hid hK
  obtain ⟨u, hu⟩ : ∃ u : Nat, s.n = u := ⟨s.n.toNat, by omega⟩
  rw [hu] at b3 b8
  rw [Int.toNat_natCast] at b8
  have j0 : (0 : Int) ≤ (j : Int) := by omega
  have j1 : (j : Int) < (len : Int) := by omega
  have hcnt : cntW s.n q = min 16 (u - 16 * q) := by unfold cntW; rw [hu]; congr 1; omega
  rw [hcnt]
  have HU := Lib.hid hu
  generalize hs0 : s.gen = sgen at b1
  generalize hs1 : s.kind = skind at b2
  generalize s.c0 = sc0 at b4
  generalize s.c1 = sc1 at b5
  generalize s.c2 = sc2 at b6
  generalize s.c3 = sc3 at b7
  have HS0 := Lib.hid hs0
  have HS1 := Lib.hid hs1
  have w16 : IntKind.i64.wrap (16 * (q : Int)) = 16 * (q : Int) := by rw [IntKind.wrap_i64]; omega
  have w17 : IntKind.i64.wrap (16 * (q : Int) + 16) = 16 * (q : Int) + 16 := by rw [IntKind.wrap_i64]; omega
  clear h hvc hK hu hcnt hs0 hs1
  go_enter Try.func98, Try.ntmps98
  go_wp2_with fail
  have O1 : Off [] w (w.alloc (.cells #[.int .i64 xx, .int .i64 sgen, .int .i64 skind, .int .i64 (u : Int), .int .i64 sc0, .int .i64 sc1, .int .i64 sc2, .int .i64 sc3, .slice va u cap] 125)) := (Off.refl _ _).alloc _
  have hA : (w.alloc (.cells #[.int .i64 xx, .int .i64 sgen, .int .i64 skind, .int .i64 (u : Int), .int .i64 sc0, .int .i64 sc1, .int .i64 sc2, .int .i64 sc3, .slice va u cap] 125)).heap[w.heap.size]? = some _ := Array.getElem?_push_size
  have s1 := cell_of_row _ _ 1 _ _ _ hA
  have s2 := cell_of_row _ _ 2 _ _ _ hA
  have s8 := cell_of_row _ _ 8 _ _ _ hA
  simp only [List.getElem?_toArray, List.getElem?_cons_zero, List.getElem?_cons_succ] at s1 s2 s8
  generalize w.alloc (.cells #[.int .i64 xx, .int .i64 sgen, .int .i64 skind, .int .i64 (u : Int), .int .i64 sc0, .int .i64 sc1, .int .i64 sc2, .int .i64 sc3, .slice va u cap] 125) = W1 at *
  generalize w.heap.size = sp at *
  have OO1 := Lib.hid O1
  have SS := Lib.hid (show W1.cell? ⟨sp, 1, none⟩ = some (.int .i64 sgen) ∧ W1.cell? ⟨sp, 2, none⟩ = some (.int .i64 skind) ∧ W1.cell? ⟨sp, 8, none⟩ = some (.slice va u cap) from ⟨s1, s2, s8⟩)
  clear hA O1 p0 p1 l1 b0 b1 b2 b3 b4 b5 b6 b7 b8 s1 s2 s8
  by_cases hk3 : skind = 3
  · have HK3 := Lib.hid (againR_data n R s (by rw [HS1.out]; exact hk3) q (min 16 (u - 16 * q)))
    subst hk3
    go_loopw [8, 9] (fun m i wr => m = .int .i64 5 ∧ i = .int .i64 (16 * (q : Int)) ∧ wr = W1) (fun _ _ _ => 0)
    case atStart => exact ⟨rfl, rfl, rfl⟩
    case round =>
      obtain ⟨rfl, rfl, rfl⟩ := hrel
      obtain ⟨s1, s2, s8⟩ := SS.out
      by_cases hl : 16 * (q : Int) < (u : Int)
      · go_wp2_with fail
        go_ret
        exact ⟨by rw [HK3.out]; rfl, OO1.out⟩
      · have hl' : decide (16 * (q : Int) < (u : Int)) = false := decide_eq_false hl
        clear hl
        go_wp2_with fail
        go_ret
        exact ⟨by rw [HK3.out]; rfl, OO1.out⟩
  · have hk3' : (skind != 3) = true := bne_iff_ne.2 hk3
    have hk3'' : (skind == 3) = false := beq_eq_false_iff_ne.2 hk3
    have HKN : Hid (s.kind ≠ 3) := Lib.hid (by rw [HS1.out]; exact hk3)
    clear hk3
    go_loopw [8, 9] (fun m i wr => ∃ k : Nat, k ≤ min 16 (u - 16 * q) ∧ i = .int .i64 (16 * (q : Int) + (k : Int)) ∧ m = .int .i64 (againR n R s q k) ∧ Off [] W1 wr) (fun _ i _ => 128 - (intOf i).toNat)
    case atStart => exact ⟨0, by omega, by simp, rfl, Off.refl _ _⟩
    case round =>
      obtain ⟨k, hk, rfl, rfl, O2⟩ := hrel
      have s1 := O2.cell SS.out.1 (by simp)
      have s2 := O2.cell SS.out.2.1 (by simp)
      have s8 := O2.cell SS.out.2.2 (by simp)
      have OO2 := Lib.hid O2
      by_cases hlt : k < min 16 (u - 16 * q)
      · obtain ⟨hvq, rfl⟩ := HV.out (16 * q + k) (by rw [HU.out]; omega)
        have v1 := O2.cell (OO1.out.cell hvq (by simp)) (by simp)
        have hwr := HKS.out.word (16 * q + k)
        have hsu := againR_succ n R s q k HKN.out
        rw [HS0.out] at hsu
        obtain ⟨ar, har⟩ : ∃ ar, againR n R s q k = ar := ⟨_, rfl⟩
        rw [har] at hsu
        rw [har]
        generalize s.words (16 * q + k) = wv at v1 hwr hsu
        obtain ⟨o, ho⟩ : ∃ o, genOf n R wv = o := ⟨_, rfl⟩
        rw [ho] at hsu
        have HSU := Lib.hid hsu
        have HOO := Lib.hid ho
        have i1 : decide (16 * (q : Int) + (k : Int) < 16 * (q : Int) + 16) = true := decide_eq_true (by omega)
        have i2 : 16 * (q : Int) + (k : Int) < (u : Int) := by omega
        have i3 : (0 : Int) ≤ 16 * (q : Int) + (k : Int) := by omega
        have i4 : (16 * (q : Int) + (k : Int)).toNat = 16 * q + k := by omega
        have i5 : IntKind.i64.wrap (16 * (q : Int) + (k : Int) + 1) = 16 * (q : Int) + (k : Int) + 1 := by rw [IntKind.wrap_i64]; omega
        clear hvq O2 ho hsu har
        go_wp2_with fail
        refine ((HH.out.off (OO1.out.trans OO2.out)).dgen wv hwr.1 hwr.2).mono ?_
        rintro e w3 ⟨rfl, O3⟩
        have OO3 := Lib.hid (OO2.out.trans O3)
        have t1 := O3.cell s1 (by simp)
        rw [HOO.out]
        clear O3 s1 s2 s8 v1
        cases o with
        | none =>
          simp only [Option.getD_none, Option.isSome_none]
          go_wp2_with fail
          go_roundw
          case rel => exact ⟨k + 1, by omega, by go_num, by rw [HSU.out]; rfl, OO3.out⟩
          case measure => simp [intOf]; omega
        | some g =>
          simp only [Option.getD_some, Option.isSome_some]
          by_cases g1 : g < sgen
          · by_cases g2 : g < ar
            · have HST := Lib.hid (show againStep sgen (some g) ar = g from if_pos ⟨g1, g2⟩)
              go_wp2_with fail
              go_roundw
              case rel => exact ⟨k + 1, by omega, by go_num, by rw [HSU.out]; rw [HST.out], OO3.out⟩
              case measure => simp [intOf]; omega
            · have g2' : decide (g < ar) = false := decide_eq_false g2
              have HST := Lib.hid (show againStep sgen (some g) ar = ar from if_neg (fun h => g2 h.2))
              clear g2
              go_wp2_with fail
              go_roundw
              case rel => exact ⟨k + 1, by omega, by go_num, by rw [HSU.out]; rw [HST.out], OO3.out⟩
              case measure => simp [intOf]; omega
          · have g1' : decide (g < sgen) = false := decide_eq_false g1
            have HST := Lib.hid (show againStep sgen (some g) ar = ar from if_neg (fun h => g1 h.1))
            clear g1
            go_wp2_with fail
            go_roundw
            case rel => exact ⟨k + 1, by omega, by go_num, by rw [HSU.out]; rw [HST.out], OO3.out⟩
            case measure => simp [intOf]; omega
      · have hk16 : k = min 16 (u - 16 * q) := by omega
        have HKE := Lib.hid hk16
        clear O2
        by_cases h16 : k < 16
        · have i1 : decide (16 * (q : Int) + (k : Int) < 16 * (q : Int) + 16) = true := decide_eq_true (by omega)
          have i2 : decide (16 * (q : Int) + (k : Int) < (u : Int)) = false := decide_eq_false (by omega)
          clear hk16 hk hlt
          go_wp2_with fail
          go_ret
          exact ⟨by rw [← HKE.out]; rfl, OO1.out.trans OO2.out⟩
        · have i1 : decide (16 * (q : Int) + (k : Int) < 16 * (q : Int) + 16) = false := decide_eq_false (by omega)
          clear hk16 hk hlt
          go_wp2_with fail
          go_ret
          exact ⟨by rw [← HKE.out]; rfl, OO1.out.trans OO2.out⟩

set_option maxRecDepth 100000 in
set_option maxHeartbeats 1000000 in
theorem CBoth.dagain (h : CBoth w cb pb mb sb db qb rb n M R C D c X) (hK : Kc n R) (x q : Int) {s : Int} {R' : MemS} (hG : AgainIs n R x q s R') :
    Calls Try.prog 86 #[.pointer (some ⟨db, 0, none⟩), .int .i64 x, .int .i64 q] w fun e w' => e = .returned (.int .i64 s) ∧ CBoth w' cb pb mb sb db qb rb n M R' C D c X ∧ OffX X w w' := by
  have p0 := h.dp
  have p1 := h.sp.qptr
  have HH := Lib.hid h
  rcases hG with ⟨rfl, ht, q0, q3, rfl⟩ | ⟨rfl, ht, rfl⟩ | ⟨rfl, ht, hq, rfl⟩
  · obtain ⟨k, rfl⟩ : ∃ k : Nat, x = k := ⟨x.toNat, by have := ht.1; omega⟩
    obtain ⟨i, rfl⟩ : ∃ i : Nat, q = i := ⟨q.toNat, by omega⟩
    have hi4 : i < 4 := by omega
    have hkn : k < n := by have := ht.2.1; omega
    obtain ⟨lcap, lg, len, j, cap, vg, va, l1, hj, hlen, ⟨b0, b1, b2, b3, b4, b5, b6, b7, b8⟩, hvc, hfz, hpl, hmk⟩ := h.sp.both.row ht
    have hu := h.sp.both.wfr.used k hkn
    have HO := Lib.hid (h.dought (R.S k) (hK k hkn) hu.1 hu.2 l1 hj hlen b0 b1 b2 b3 b4 b5 b6 b7 b8 hvc i hi4)
    have HPL := Lib.hid hpl
    have HMK := Lib.hid hmk
    have HOK := Lib.hid (h.sp.okD)
    have cq := card_cell b4 b5 b6 b7 i hi4
    have HCQ := Lib.hid cq
    have HFZ := Lib.hid hfz
    have HLG : Hid (lg < w.heap.size) := Lib.hid (World.block_lt_of_cell? _ _ b0)
    have L1 := Lib.hid l1
    have he : R.again n (k : Int) (i : Int) = R.mark (k : Int) i (againR n R (R.S k) i (cntW (R.S k).n i)) := by
      unfold MemS.again
      rw [Int.toNat_natCast, Int.toNat_natCast]
    rw [he]
    have SETM : Hid (∀ w2, Off [] w w2 → CBoth (w2.setCell ⟨lg, j * 9 + 4 + i, none⟩ (.int .i64 (againR n R (R.S k) i (cntW (R.S k).n i)))) cb pb mb sb db qb rb n M (R.mark (k : Int) i (againR n R (R.S k) i (cntW (R.S k).n i))) C D c X ∧ OffX X w (w2.setCell ⟨lg, j * 9 + 4 + i, none⟩ (.int .i64 (againR n R (R.S k) i (cntW (R.S k).n i))))) := Lib.hid (fun w2 O => by
      have hm := HMK.out w2 O i hi4 (againR n R (R.S k) i (cntW (R.S k).n i))
      obtain ⟨c1, c2⟩ := (HH.out.off O).dboth hm.1 hm.2 (HOK.out.mark _ _ _)
      exact ⟨c1, (BothAt.offX O).trans c2⟩)
    have j0 : (0 : Int) ≤ (j : Int) := by omega
    have j1 : (j : Int) < (len : Int) := by omega
    have i0 : (0 : Int) ≤ (i : Int) := by omega
    have i1 : (i : Int) < 4 := by omega
    clear h hK hpl hmk hvc hfz b0 b1 b2 b3 b4 b5 b6 b7 b8 cq he ht hu l1
    go_enter Try.func86, Try.ntmps86
    go_wp2_with fail
    refine (HPL.out _ (Off.refl _ _)).mono ?_
    rintro e w1 ⟨rfl, rfl⟩
    go_wp2_with fail
    refine HO.out.mono ?_
    rintro e w2 ⟨rfl, O2⟩
    have p0' := O2.cell p0 (by simp)
    have p1' := O2.cell p1 (by simp)
    have l1' := O2.cell L1.out (by simp)
    have c1' := O2.cell HCQ.out (by simp)
    have f1 : w2.frozen? ⟨lg, j * 9 + 4 + i, none⟩ = false := (O2.frozen (p := ⟨lg, j * 9 + 4 + i, none⟩) HLG.out (by simp)).trans (HFZ.out _)
    have FIN := Lib.hid (SETM.out w2 O2)
    clear O2 p0 p1
    go_wp2_with fail
    go_ret
    exact ⟨rfl, FIN.out⟩
  · have HPL := Lib.hid (h.sp.both.noplace ht)
    clear h ht hK
    go_enter Try.func86, Try.ntmps86
    go_wp2_with fail
    refine (HPL.out _ (Off.refl _ _)).mono ?_
    rintro e w1 ⟨rfl, rfl⟩
    go_wp2_with fail
    go_ret
    exact ⟨rfl, HH.out, OffX.refl _ _⟩
  · obtain ⟨k, rfl⟩ : ∃ k : Nat, x = k := ⟨x.toNat, by have := ht.1; omega⟩
    obtain ⟨lcap, lg, len, j, cap, vg, va, l1, hj, hlen, _, _, _, hpl, _⟩ := h.sp.both.row ht
    have HPL := Lib.hid hpl
    have j0 : (0 : Int) ≤ (j : Int) := by omega
    clear h ht hK hpl l1
    by_cases q0 : q < 0
    · go_enter Try.func86, Try.ntmps86
      go_wp2_with fail
      refine (HPL.out _ (Off.refl _ _)).mono ?_
      rintro e w1 ⟨rfl, rfl⟩
      go_wp2_with fail
      go_ret
      exact ⟨rfl, HH.out, OffX.refl _ _⟩
    · have q3 : 3 < q := by omega
      clear hq
      go_enter Try.func86, Try.ntmps86
      go_wp2_with fail
      refine (HPL.out _ (Off.refl _ _)).mono ?_
      rintro e w1 ⟨rfl, rfl⟩
      go_wp2_with fail
      go_ret
      exact ⟨rfl, HH.out, OffX.refl _ _⟩
end
end Go.Proofs.Ytoafoodgomnfeaa
