/-
  YtoafoodgomnfeaaFalls: the walk of CardFalls.
-/
import Derived.Test.YtoafoodgomnfeaaFallsP
namespace Go.Proofs.Ytoafoodgomnfeaa
open Go.RowKit
set_option linter.unusedVariables false

theorem falls_none (limit : Int) (a : Option Addr) (len cap : Nat) (x : ActS) (w : World)
    (h : Calls Try.prog 39 #[.int .i64 limit, .slice a len cap] (w.alloc (.cells #[.int .i64 x.doo, .int .i64 x.a, .int .i64 x.b, .int .i64 x.c, .int .u64 x.w] 92)) fun e w' => e = .returned (.pointer none) ∧ Off [] w w') :
    Calls Try.prog 10 #[.int .i64 limit, .slice a len cap, .agg #[.int .i64 x.doo, .int .i64 x.a, .int .i64 x.b, .int .i64 x.c, .int .u64 x.w]] w fun e w' => e = .returned (.bool true) ∧ Off [] w w' := by
  have hh := Lib.hid h
  clear h
  obtain ⟨xd, xa, xb, xc, xu⟩ := x
  go_enter Try.func10, Try.ntmps10
  go_wp2_with fail
  refine hh.out.mono ?_
  rintro e w1 ⟨rfl, O⟩
  have O1 := Lib.hid O
  clear O
  go_wp2_with fail
  refine (awake09_true _).mono ?_
  rintro e w' ⟨rfl, O'⟩
  go_wp2_with fail
  go_ret
  exact ⟨rfl, O1.out.trans O'⟩

/-- In the loop that keeps what is dirty. -/
def KRel (W0 wr : World) (A g : Nat) (M : MemS) (T : List Nat) : Prop :=
  Off [A] W0 wr ∧ wr.frozen? ⟨A, 0, none⟩ = false ∧ wr.frozen? ⟨A, 1, none⟩ = false ∧ wr.frozen? ⟨A, 2, none⟩ = false ∧ wr.frozen? ⟨A, 3, none⟩ = false ∧
    ∀ h, h < 4 → ∃ vd, wr.cell? ⟨A, h, none⟩ = some vd ∧ (h < g → CardsL (A + 1) wr vd (dirtyL M T h))
theorem KRel.fz {W0 wr : World} {A g : Nat} {M : MemS} {T : List Nat} (h : KRel W0 wr A g M T) {j : Nat} (hj : j < 4) : wr.frozen? ⟨A, j, none⟩ = false := by
  match j, hj with
  | 0, _ => exact h.2.1
  | 1, _ => exact h.2.2.1
  | 2, _ => exact h.2.2.2.1
  | 3, _ => exact h.2.2.2.2.1
theorem KRel.off {W0 wr w' : World} {A g : Nat} {M : MemS} {T : List Nat} (h : KRel W0 wr A g M T) (O : Off [] wr w') : KRel W0 w' A g M T := by
  obtain ⟨h1, f0, f1, f2, f3, hc⟩ := h
  have hA : A < wr.heap.size := by obtain ⟨v, hv, _⟩ := hc 0 (by omega); exact World.block_lt_of_cell? _ _ hv
  refine ⟨h1.trans (O.mono (by simp)), (O.frozen (p := ⟨A, 0, none⟩) hA (by simp)).trans f0, (O.frozen (p := ⟨A, 1, none⟩) hA (by simp)).trans f1, (O.frozen (p := ⟨A, 2, none⟩) hA (by simp)).trans f2, (O.frozen (p := ⟨A, 3, none⟩) hA (by simp)).trans f3, fun j hj => ?_⟩
  obtain ⟨v, hv, hd⟩ := hc j hj
  exact ⟨v, O.cell hv (by simp), fun hg => (hd hg).off O (by simp)⟩
theorem KRel.put {W0 wr : World} {A g : Nat} {M : MemS} {T : List Nat} (h : KRel W0 wr A g M T) (hg : g < 4) {v : Value} (hv : CardsL (A + 1) wr v (dirtyL M T g)) : KRel W0 (wr.setCell ⟨A, g, none⟩ v) A (g + 1) M T := by
  obtain ⟨h1, f0, f1, f2, f3, hc⟩ := h
  have O : Off [A] wr (wr.setCell ⟨A, g, none⟩ v) := (Off.refl _ _).setCell (by simp) _
  refine ⟨h1.trans O, by rw [World.frozen?_setCell]; exact f0, by rw [World.frozen?_setCell]; exact f1, by rw [World.frozen?_setCell]; exact f2, by rw [World.frozen?_setCell]; exact f3, fun j hj => ?_⟩
  obtain ⟨u, hu, hd⟩ := hc j hj
  by_cases e : j = g
  · subst e
    exact ⟨v, World.cell?_setCell_same _ _ _ hu, fun _ => hv.off O (by simp)⟩
  · refine ⟨u, by rw [World.cell?_setCell_other _ _ _ _ (by simp only [ne_eq, Addr.mk.injEq, true_and, and_true]; omega)]; exact hu, fun hg' => (hd (by omega)).off O (by simp)⟩

set_option maxHeartbeats 4000000 in
set_option maxRecDepth 100000 in
theorem falls_true (n : Nat) (h1 : 8 ≤ n) (h2 : n ≤ 1024) (a : Option Addr) (len cap : Nat) (X : Nat → ActS) (x : ActS) (hx : x.Ok) (w : World) (hX : ActsAt w a len X) (hlen : len ≤ 300) :
    Calls Try.prog 10 #[.int .i64 n, .slice a len cap, .agg #[.int .i64 x.doo, .int .i64 x.a, .int .i64 x.b, .int .i64 x.c, .int .u64 x.w]] w fun e w' => e = .returned (.bool true) ∧ Off [] w w' := by
  have hnn : 0 < n := by omega
  have hxa := hx.a1
  have hu0 := hx.w0
  have hu1 := hx.w1
  clear hx
  obtain ⟨xd, xa, xb, xc, xu⟩ := x
  simp only at hxa hu0 hu1 ⊢
  have O0 := (Off.refl [] w).alloc (.cells #[.int .i64 xd, .int .i64 xa, .int .i64 xb, .int .i64 xc, .int .u64 xu] 92)
  have hX0 : ActsAt (w.alloc (.cells #[.int .i64 xd, .int .i64 xa, .int .i64 xb, .int .i64 xc, .int .u64 xu] 92)) a len X := by
    obtain ⟨b, o, h, hc⟩ := hX
    exact ⟨b, o, h, fun i hi => ⟨fun j hj => O0.cell ((hc i hi).1 j hj) (by simp), (hc i hi).2⟩⟩
  have hp := played_some n h1 h2 a len cap X _ hX0 hlen
  have hA : (w.alloc (.cells #[.int .i64 xd, .int .i64 xa, .int .i64 xb, .int .i64 xc, .int .u64 xu] 92)).heap[w.heap.size]? = some _ := Array.getElem?_push_size
  have d0 := cell_of_row _ _ 0 _ _ _ hA
  have d1 := cell_of_row _ _ 1 _ _ _ hA
  have d2 := cell_of_row _ _ 2 _ _ _ hA
  have d3 := cell_of_row _ _ 3 _ _ _ hA
  have d4 := cell_of_row _ _ 4 _ _ _ hA
  simp only [List.getElem?_toArray, List.getElem?_cons_zero, List.getElem?_cons_succ] at d0 d1 d2 d3 d4
  have hsz0 := O0.size
  have O0' := Lib.hid O0
  have hp' := Lib.hid hp
  clear hX hX0 hp O0 hA
  go_enter Try.func10, Try.ntmps10
  go_wp2_with fail
  generalize w.alloc _ = w0 at d0 d1 d2 d3 d4 hsz0 O0' hp' ⊢
  generalize hBx : w.heap.size = Bx at d0 d1 d2 d3 d4 hsz0 ⊢
  refine hp'.out.mono ?_
  rintro e w1 ⟨cb, pb, mb, sb, M, C, rfl, H, W, K, O, z1, z2, z3, z4⟩
  have HBX := Lib.hid hBx
  have hbx0 := World.block_lt_of_cell? _ _ d0
  have d0 := O.cell d0 (by simp)
  have d1 := O.cell d1 (by simp)
  have d2 := O.cell d2 (by simp)
  have d3 := O.cell d3 (by simp)
  have d4 := O.cell d4 (by simp)
  have H1 := Lib.hid H
  have HW := Lib.hid W
  have HK := Lib.hid K
  have O1 := Lib.hid (O0'.out.trans O)
  have hsb1 := H.sp.mem.sb_lt hnn
  have hbxs : Bx ≠ sb := by simp at hbx0; omega
  clear H W K O hBx hp'
  go_wp2_with fail
  refine (marks_any H1.out HW.out hnn h2).mono ?_
  rintro e w2 ⟨v2, T, rfl, hT, hma, O2⟩
  have HT := Lib.hid hT
  have hTl := hT.len
  have hnd := Lib.hid hT.nodup
  obtain ⟨wa, wcap, wb, rfl, hwa, hwc⟩ := hma
  have O12 := O2.size
  have H2 := Lib.hid (H1.out.off hnn O2 (by simp) (by simp) (by simp) (by simp))
  have d0 := O2.cell d0 (by simp)
  have d1 := O2.cell d1 (by simp)
  have d2 := O2.cell d2 (by simp)
  have d3 := O2.cell d3 (by simp)
  have d4 := O2.cell d4 (by simp)
  have OB := Lib.hid (O1.out.trans O2)
  have HWA := Lib.hid hwa
  have HWC := Lib.hid hwc
  have htl1 : ((4 * T.length : Nat) : Int) ≤ 4096 := by omega
  clear hT hwa hwc O2 H1 O1
  go_wp2_with fail
  have hA4 : (w2.alloc (.cells #[.slice none 0 0, .slice none 0 0, .slice none 0 0, .slice none 0 0] 94)).heap[w2.heap.size]? = some _ := Array.getElem?_push_size
  have OA := (Off.refl [] w2).alloc (.cells #[.slice none 0 0, .slice none 0 0, .slice none 0 0, .slice none 0 0] 94)
  have K0 : KRel (w2.alloc (.cells #[.slice none 0 0, .slice none 0 0, .slice none 0 0, .slice none 0 0] 94)) (w2.alloc (.cells #[.slice none 0 0, .slice none 0 0, .slice none 0 0, .slice none 0 0] 94)) w2.heap.size 0 M T := by
    refine ⟨Off.refl _ _, frozen_of_row _ _ _ _ _ hA4, frozen_of_row _ _ _ _ _ hA4, frozen_of_row _ _ _ _ _ hA4, frozen_of_row _ _ _ _ _ hA4, fun j hj => ⟨.slice none 0 0, ?_, fun h => by omega⟩⟩
    rw [cell_of_row _ _ j _ _ _ hA4]
    match j, hj with
    | 0, _ | 1, _ | 2, _ | 3, _ => rfl
  have hbl2 : Bx < w2.heap.size := World.block_lt_of_cell? _ _ d0
  have H3 := H2.out.off hnn OA (by simp) (by simp) (by simp) (by simp)
  have d0 := OA.cell d0 (by simp)
  have d1 := OA.cell d1 (by simp)
  have d2 := OA.cell d2 (by simp)
  have d3 := OA.cell d3 (by simp)
  have d4 := OA.cell d4 (by simp)
  have OB3 := OB.out.trans OA
  have HWC3 : Hid (∀ j, j < 4 * T.length → _) := Lib.hid fun j hj => OA.cell (HWC.out j hj) (by simp)
  have zA : (w2.alloc (.cells #[.slice none 0 0, .slice none 0 0, .slice none 0 0, .slice none 0 0] 94)).heap.size = w2.heap.size + 1 := by simp
  have hbA : Bx ≠ w2.heap.size := by omega
  have hcA : cb ≠ w2.heap.size := by have := H2.out.cb_lt; omega
  have hpA : pb ≠ w2.heap.size := by have := H2.out.sp.pb_lt; omega
  have hmA : mb ≠ w2.heap.size := by have := H2.out.sp.mem.mb_lt; omega
  have hsA : sb < w2.heap.size := H2.out.sp.mem.sb_lt hnn
  have hwA : 0 < 4 * T.length → wb ≠ w2.heap.size := fun h => by have := World.block_lt_of_cell? _ _ (HWC.out 0 h); simp at this; omega
  have hwS : 0 < 4 * T.length → wb ≠ sb := fun h => by have := (HWA.out h).2; omega
  have hw2w : w.heap.size ≤ w2.heap.size := OB.out.size
  clear hA4 OA HWC H2 OB hbl2
  generalize w2.alloc _ = w3 at K0 H3 d0 d1 d2 d3 d4 OB3 HWC3 zA ⊢
  generalize w2.heap.size = A at K0 zA hbA hcA hpA hmA hsA hwA hw2w ⊢
  have K0h := Lib.hid K0
  have H3h := Lib.hid H3
  have OB3h := Lib.hid OB3
  have HA1 := Lib.hid hwA
  have HA2 := Lib.hid hwS
  clear K0 H3 OB3 hwA hwS
  go_loopw [10] (fun v wr => ∃ g : Nat, g ≤ 4 ∧ v = .int .i64 g ∧ KRel w3 wr A g M T) (fun v _ => 4 - (intOf v).toNat)
  case atStart => exact ⟨0, by omega, rfl, K0h.out⟩
  case round =>
    obtain ⟨g, hg, rfl, hK⟩ := hrel
    have KK := Lib.hid hK
    have HC := Lib.hid (H3h.out.off hnn hK.1 (by simpa using hcA) (by simpa using hpA) (by simpa using hmA) (by simp; omega))
    have HWr : Hid (∀ j, j < 4 * T.length → _) := Lib.hid fun j hj => hK.1.cell (HWC3.out j hj) (by simpa using HA1.out (by omega))
    have e0 := hK.1.cell d0 (by simpa using hbA)
    have e1 := hK.1.cell d1 (by simpa using hbA)
    have e2 := hK.1.cell d2 (by simpa using hbA)
    have e3 := hK.1.cell d3 (by simpa using hbA)
    have e4 := hK.1.cell d4 (by simpa using hbA)
    have zA3 : A + 1 ≤ wr.heap.size := by have := hK.1.size; omega
    clear hK
    by_cases hg4 : g < 4
    · have q0 : (0 : Int) ≤ (g : Int) := by omega
      have q1 : (g : Int) < 4 := by omega
      go_wp2_with fail
      refine (dirty_any HC.out HW.out hnn h2 g).mono ?_
      rintro e w5 ⟨v5, T5, rfl, hT5, hc5, O5⟩
      obtain rfl := hT5.unique HT.out
      have K5 := KK.out.off O5
      obtain ⟨u5, hu5, _⟩ := K5.2.2.2.2.2 g hg4
      have f5 := K5.fz hg4
      have hc5' := hc5.mono zA3
      obtain ⟨va, vcap, vbb, rfl, _, _⟩ := hc5.form
      have KN := Lib.hid (K5.put hg4 hc5')
      clear K5 hc5 hc5' hT5 O5 e0 e1 e2 e3 e4
      go_wp2_with fail
      go_roundw
      case rel => exact ⟨g + 1, by omega, by go_num, KN.out⟩
      case measure => simp [intOf]; omega
    · obtain rfl : g = 4 := by omega
      have p1 := HC.out.ptr
      have p2 := HC.out.sp.ptr
      go_wp2_with fail
      have keep : ∀ w', Off [sb] wr w' → Off [sb] wr w' ∧ w'.cell? ⟨cb, 0, none⟩ = some (.pointer (some ⟨pb, 0, none⟩)) ∧ w'.cell? ⟨pb, 0, none⟩ = some (.pointer (some ⟨mb, 0, none⟩)) ∧
          w'.cell? ⟨Bx, 0, none⟩ = some (.int .i64 xd) ∧ w'.cell? ⟨Bx, 1, none⟩ = some (.int .i64 xa) ∧ w'.cell? ⟨Bx, 2, none⟩ = some (.int .i64 xb) ∧ w'.cell? ⟨Bx, 3, none⟩ = some (.int .i64 xc) ∧ w'.cell? ⟨Bx, 4, none⟩ = some (.int .u64 xu) :=
        fun w' O => ⟨O, O.cell p1 (by simpa using HC.out.ns), O.cell p2 (by simpa using HC.out.sp.ns), O.cell e0 (by simpa using hbxs), O.cell e1 (by simpa using hbxs), O.cell e2 (by simpa using hbxs), O.cell e3 (by simpa using hbxs), O.cell e4 (by simpa using hbxs)⟩
      have c22 : Calls Try.prog 22 #[.pointer (some ⟨mb, 0, none⟩), .slice none 0 0] wr.drew fun e w' => ∃ ta tcap, e = .returned (.slice ta T.length tcap) ∧ CardAt w' cb pb mb sb n M C ∧ Off [sb] wr w' := by
        refine (taken_all HC.out.drew.sp.mem HW.out hnn h2).mono ?_
        rintro e w' ⟨v, T', rfl, hT', hI', _, O'⟩
        obtain rfl := hT'.unique HT.out
        obtain ⟨ta, tcap, tb, to, rfl, _, _⟩ := hI'.form'
        exact ⟨ta, tcap, rfl, HC.out.drew.off hnn O' (by simp) (by simp) (by simp) (by simp), (((Off.refl [] wr).drew).trans O').mono (by simp)⟩
      have c47 : ∀ W, CardAt W cb pb mb sb n M C → Off [sb] wr W → Calls Try.prog 47 #[.agg #[.int .i64 xd, .int .i64 xa, .int .i64 xb, .int .i64 xc, .int .u64 xu], .int .i64 (64 * (T.length : Int))] W fun e w' =>
          ∃ r, e = .returned (.int .u64 r) ∧ (0 ≤ r ∧ r ≤ 18446744073709551615) ∧ CardAt w' cb pb mb sb n M C ∧ Off [sb] wr w' := fun W H O => by
        refine (word_any xd xa xb xc xu _ W (by omega) (by omega) hu0 hu1).mono ?_
        rintro e w' ⟨r, rfl, r0, r1, O'⟩
        exact ⟨r, rfl, ⟨r0, r1⟩, H.off hnn O' (by simp) (by simp) (by simp) (by simp), O.trans (O'.mono (by simp))⟩
      have c46 : ∀ W r, (0 ≤ r ∧ r ≤ 18446744073709551615) → CardAt W cb pb mb sb n M C → Off [sb] wr W → Calls Try.prog 46 #[.pointer (some ⟨cb, 0, none⟩), .int .i64 xa, .int .u64 r] W fun e w' =>
          ∃ s M2, e = .returned (.int .i64 s) ∧ (FallsTo M M2 ∧ CardAt w' cb pb mb sb n M2 C ∧ Wf n M2 300) ∧ Off [sb] wr w' := fun W r hr H O => by
        refine (cstore_all H HW.out HK.out hnn h2 xa r hxa hr.1 hr.2).mono ?_
        rintro e w' ⟨s, M2, rfl, hS, H', W', _, O'⟩
        exact ⟨s, M2, rfl, ⟨FallsTo.of hS, H', W'⟩, O.trans O'⟩
      have C22 := Lib.hid c22
      have C47 := Lib.hid c47
      have C46 := Lib.hid c46
      have hO0 : Off [sb] wr wr := Off.refl _ _
      have htl2 : (T.length : Int) ≤ 1024 := by omega
      have hwrap : IntKind.i64.wrap (64 * (T.length : Int)) = 64 * (T.length : Int) := by
        rw [IntKind.wrap_i64]; omega
      clear c22 c47 c46 e0 e1 e2 e3 e4 p1 p2 d0 d1 d2 d3 d4
      go_region_held3 (fun w' => Off [sb] wr w' ∧ w'.cell? ⟨cb, 0, none⟩ = some (.pointer (some ⟨pb, 0, none⟩)) ∧ w'.cell? ⟨pb, 0, none⟩ = some (.pointer (some ⟨mb, 0, none⟩)) ∧
          w'.cell? ⟨Bx, 0, none⟩ = some (.int .i64 xd) ∧ w'.cell? ⟨Bx, 1, none⟩ = some (.int .i64 xa) ∧ w'.cell? ⟨Bx, 2, none⟩ = some (.int .i64 xb) ∧ w'.cell? ⟨Bx, 3, none⟩ = some (.int .i64 xc) ∧ w'.cell? ⟨Bx, 4, none⟩ = some (.int .u64 xu))
        (first | with_reducible assumption | with_reducible exact keep _ hr | exact keep _ hr | exact keep _ (Off.drew hO0) | fail)
        (first
          | (go_at_call 22; refine C22.out.mono ?_; rintro e w' ⟨ta2, tc2, rfl, hc22, hr⟩)
          | (go_at_call 47; refine (C47.out _ hc22 hr).mono ?_; rintro e w' ⟨r, rfl, hrr, hc47, hr⟩)
          | (go_at_call 46; refine (C46.out _ _ hrr hc47 hr).mono ?_; rintro e w' ⟨s2, M2, rfl, hfin, hr⟩)
          | fail)
      obtain ⟨hF, hC2, hW2⟩ := hfin
      have FF := Lib.hid hF
      have CC := Lib.hid hC2
      have W2 := Lib.hid hW2
      have KS := Lib.hid (show Off [sb] _ w' from hr)
      have HWs : Hid (∀ j, j < 4 * T.length → _) := Lib.hid fun j hj => hr.cell (HWr.out j hj) (by simpa using HA2.out (by omega))
      have KK4 : Hid (∀ h, h < 4 → ∃ vd, w'.cell? ⟨A, h, none⟩ = some vd ∧ CardsL (A + 1) w' vd (dirtyL M T h)) := Lib.hid fun h hh => by
        obtain ⟨vd, hv, hd⟩ := KK.out.2.2.2.2.2 h hh
        exact ⟨vd, hr.cell hv (by simp; omega), (hd hh).off hr (by simp; omega)⟩
      have OK : Hid (Off [A] w3 wr) := Lib.hid KK.out.1
      rename_i hh1
      clear hh1 hF hC2 hW2 hr hc47 hrr hc22 keep hO0 KK HC
      go_wp2_with fail
      refine (marks_any CC.out W2.out hnn h2).mono ?_
      rintro e w5 ⟨v5, T5, rfl, hT5, hma5, O5⟩
      obtain rfl := hT5.unique (FF.out.takenIs HT.out)
      obtain ⟨na, ncap, nb, rfl, hna, hnc⟩ := hma5
      obtain ⟨chg, hchg⟩ := FF.out.chg hnd.out
      have HCH := Lib.hid hchg
      have HNA := Lib.hid hna
      have HNC := Lib.hid hnc
      have HWt : Hid (∀ j, j < 4 * T5.length → _) := Lib.hid fun j hj => O5.cell (HWs.out j hj) (by simp)
      have KK5 : Hid (∀ h, h < 4 → ∃ vd, w5.cell? ⟨A, h, none⟩ = some vd ∧ CardsL (A + 1) w5 vd (dirtyL M T5 h)) := Lib.hid fun h hh => by
        obtain ⟨vd, hv, hd⟩ := KK4.out h hh
        exact ⟨vd, O5.cell hv (by simp), hd.off O5 (by simp)⟩
      have CC5 := Lib.hid (CC.out.off hnn O5 (by simp) (by simp) (by simp) (by simp))
      have O55 := Lib.hid O5
      clear hT5 hna hnc hchg O5 KK4 HWs HWr CC
      go_wp2_with fail
      go_loopw [12, 13] (fun c v wr => ∃ i : Nat, i ≤ 4 * T5.length ∧ v = .int .i64 i ∧ c = .int .i64 (cntF M M2 T5 chg i) ∧ Off [] w5 wr) (fun _ v _ => 4 * T5.length - (intOf v).toNat)
      case atStart => exact ⟨0, by omega, rfl, by rw [cntF_zero], Off.refl _ _⟩
      case round =>
        obtain ⟨i, hi, rfl, rfl, Oi⟩ := hrel
        have OI := Lib.hid Oi
        clear Oi
        by_cases hlt : i < 4 * T5.length
        · obtain ⟨rfl, _⟩ := HWA.out (by omega)
          obtain ⟨rfl, _⟩ := HNA.out (by omega)
          have hcw := OI.out.cell (HWt.out i hlt) (by simp)
          have hcn := OI.out.cell (HNC.out i hlt) (by simp)
          obtain ⟨hsame, hle⟩ := HCH.out i hlt
          have q0 : (0 : Int) ≤ (i : Int) := by omega
          have q1 : (i : Int) < ((4 * T5.length : Nat) : Int) := by omega
          by_cases hls : mkV M2 T5 i < mkV M T5 i
          · obtain ⟨hn1, hn0⟩ := cntF_less hsame hls
            have HN1 := Lib.hid hn1
            rw [hn0]
            clear hsame hn1 hn0
            generalize mkV M2 T5 i = y at *
            generalize mkV M T5 i = xx at *
            have g1 : decide (xx < y) = false := decide_eq_false (by omega)
            have g2 : decide (y < xx) = true := decide_eq_true hls
            go_wp2_with fail
            go_quiet (fail)
            go_wp2_with fail
            go_quiet (fail)
            go_wp2_with fail
            go_roundw
            case rel => exact ⟨i + 1, by omega, by go_num, by rw [HN1.out], OI.out.drewN _⟩
            case measure => simp [intOf]; omega
          · have hee : mkV M2 T5 i = mkV M T5 i := by omega
            have hn1 := cntF_same (chg := chg) hee
            have HN1 := Lib.hid hn1
            clear hsame hn1 hls hle
            rw [hee] at hcn
            clear hee
            generalize mkV M T5 i = xx at *
            have g1 : decide (xx < xx) = false := decide_eq_false (by omega)
            go_wp2_with fail
            go_quiet (fail)
            go_wp2_with fail
            go_quiet (fail)
            go_wp2_with fail
            go_roundw
            case rel => exact ⟨i + 1, by omega, by go_num, by rw [HN1.out], OI.out.drewN _⟩
            case measure => simp [intOf]; omega
        · have hcr := cntF_ran M M2 T5 chg i
          generalize cntF M M2 T5 chg i = cn at hcr ⊢
          obtain ⟨hc0, hc1⟩ := hcr
          go_wp2_with fail
          go_loopw [14] (fun v wr2 => ∃ g : Nat, g ≤ 4 ∧ v = .int .i64 g ∧ Off [] w5 wr2) (fun v _ => 4 - (intOf v).toNat)
          case atStart => exact ⟨0, by omega, rfl, OI.out⟩
          case round =>
            obtain ⟨g, hg, rfl, Og⟩ := hrel
            have OG := Lib.hid Og
            clear Og
            by_cases hg4 : g < 4
            · have q0 : (0 : Int) ≤ (g : Int) := by omega
              have q1 : (g : Int) < 4 := by omega
              go_wp2_with fail
              refine (dirty_any (CC5.out.off hnn OG.out (by simp) (by simp) (by simp) (by simp)) W2.out hnn h2 g).mono ?_
              rintro e w7 ⟨v7, T7, rfl, hT7, hc7, O7⟩
              obtain rfl := hT7.unique (FF.out.takenIs HT.out)
              have hdl := dirtyL_len M2 T7 g
              have hdl0 := dirtyL_len M T7 g
              have HL := Lib.hid hc7
              obtain ⟨da, dcap, db, rfl, _, _⟩ := hc7.form
              have O57 := Lib.hid (OG.out.trans O7)
              obtain ⟨vd, hvd, hLd⟩ := KK5.out g hg4
              obtain ⟨ea, ecap, eb, rfl, hea, hec⟩ := hLd.form
              have HVD := Lib.hid hvd
              have HEA := Lib.hid hea
              have HEC := Lib.hid hec
              clear hc7 O7 hT7 hvd hLd hea hec
              go_wp2_with fail
              go_loopw [16] (fun v wr2 => ∃ i : Nat, i ≤ (dirtyL M T7 g).length ∧ v = .int .i64 i ∧ Off [] w7 wr2) (fun v _ => (dirtyL M T7 g).length - (intOf v).toNat)
              case atStart => exact ⟨0, by omega, rfl, Off.refl _ _⟩
              case round =>
                obtain ⟨j, hj, rfl, Oj⟩ := hrel
                have OJ := Lib.hid Oj
                have hvd := (O57.out.trans Oj).cell HVD.out (by simp)
                clear Oj
                have hdl1 : ((dirtyL M T7 g).length : Int) ≤ 4096 := by omega
                by_cases hlt : j < (dirtyL M T7 g).length
                · obtain ⟨rfl, _⟩ := HEA.out (by omega)
                  obtain ⟨a0, a1⟩ := HEC.out j hlt
                  have a0 := (O57.out.trans OJ.out).cell a0 (by simp)
                  have a1 := (O57.out.trans OJ.out).cell a1 (by simp)
                  have hmem : (dirtyL M T7 g).getD j (0, 0) ∈ dirtyL M2 T7 g := by
                    apply FF.out.dirty
                    rw [List.getD, List.getElem?_eq_getElem hlt]
                    exact List.getElem_mem hlt
                  generalize (dirtyL M T7 g).getD j (0, 0) = pp at a0 a1 hmem
                  obtain ⟨pk, pi⟩ := pp
                  simp only at a0 a1
                  have HM := Lib.hid hmem
                  have r0 : (0 : Int) ≤ (j : Int) := by omega
                  have r1 : (j : Int) < ((dirtyL M T7 g).length : Int) := by omega
                  clear hmem
                  generalize (dirtyL M T7 g).length = dl at *
                  go_wp2_with fail
                  refine (has_any (HL.out.off OJ.out (by simp)) (by omega) pk pi).mono ?_
                  rintro e w9 ⟨rfl, O9⟩
                  rw [decide_eq_true HM.out]
                  have O79 := Lib.hid (OJ.out.trans O9)
                  clear O9 a0 a1 hvd
                  go_wp2_with fail
                  go_roundw
                  case rel => exact ⟨j + 1, by omega, by go_num, O79.out⟩
                  case measure => simp [intOf]; omega
                · have hjl : (j : Int) = ((dirtyL M T7 g).length : Int) := by omega
                  have OF := Lib.hid (O57.out.trans OJ.out)
                  have r1 : ((dirtyL M T7 g).length : Int) ≤ (j : Int) := by omega
                  clear hjl
                  generalize (dirtyL M T7 g).length = dl at *
                  go_wp2_with fail
                  go_roundw
                  case rel => exact ⟨g + 1, by omega, by go_num, OF.out⟩
                  case measure => simp [intOf]; omega
            · obtain rfl : g = 4 := by omega
              go_wp2_with fail
              refine (awake09_true _).mono ?_
              rintro e w9 ⟨rfl, O9⟩
              go_wp2_with fail
              go_ret
              refine ⟨rfl, ?_⟩
              have hbx := HBX.out
              have s1 : Off [A] w3 _ := OK.out
              have s2 := OB3h.out.trans_new s1 (fun x hx => .inr (by simp at hx; omega))
              have s3 := s2.trans_new KS.out (fun x hx => .inr (by simp at hx; omega))
              exact ((s3.trans O55.out).trans OG.out).trans O9

theorem falls_law (limit : Int) (a : Option Addr) (len cap : Nat) (X : Nat → ActS) (x : ActS) (hx : x.Ok) (w : World) (hX : ActsAt w a len X) :
    Calls Try.prog 10 #[.int .i64 limit, .slice a len cap, .agg #[.int .i64 x.doo, .int .i64 x.a, .int .i64 x.b, .int .i64 x.c, .int .u64 x.w]] w fun e w' => e = .returned (.bool true) ∧ Off [] w w' := by
  have O0 := (Off.refl [] w).alloc (.cells #[.int .i64 x.doo, .int .i64 x.a, .int .i64 x.b, .int .i64 x.c, .int .u64 x.w] 92)
  by_cases hb : limit < 8 ∨ 1024 < limit
  · refine falls_none limit a len cap x w ((played_arg limit a len cap _ hb).mono ?_)
    rintro e w' ⟨rfl, rfl⟩
    exact ⟨rfl, O0⟩
  · obtain ⟨n, rfl, h1, h2⟩ : ∃ n : Nat, limit = n ∧ 8 ≤ n ∧ n ≤ 1024 := ⟨limit.toNat, by omega, by omega, by omega⟩
    by_cases hlen : len ≤ 300
    · exact falls_true n h1 h2 a len cap X x hx w hX hlen
    · refine falls_none n a len cap x w ((played_many n h1 h2 a len cap _ (by omega)).mono ?_)
      rintro e w' ⟨rfl, O⟩
      exact ⟨rfl, O0.trans O⟩
end Go.Proofs.Ytoafoodgomnfeaa
