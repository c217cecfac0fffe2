/-
  YtoafoodgomnfeaaPlayed: what an act stores; cards behind calls.
-/
import Derived.Test.YtoafoodgomnfeaaCards
namespace Go.Proofs.Ytoafoodgomnfeaa
open Go.RowKit
set_option linter.unusedVariables false

theorem bits_or_ran (x y : Int) : 0 ≤ bits .or .u64 x y ∧ bits .or .u64 x y ≤ 18446744073709551615 := by
  unfold bits
  simp only [IntKind.wrap, IntKind.signed, IntKind.bits]
  simp
  omega

set_option maxHeartbeats 400000 in
theorem word_any (d a b c u sum : Int) (w : World) (hs0 : 0 ≤ sum) (hs : sum ≤ 100000) (h0 : 0 ≤ u) (h1 : u ≤ 18446744073709551615) :
    Calls Try.prog 47 #[.agg #[.int .i64 d, .int .i64 a, .int .i64 b, .int .i64 c, .int .u64 u], .int .i64 sum] w fun e w' => ∃ r, e = .returned (.int .u64 r) ∧ 0 ≤ r ∧ r ≤ 18446744073709551615 ∧ Off [] w w' := by
  have hA : (w.alloc (.cells #[.int .i64 d, .int .i64 a, .int .i64 b, .int .i64 c, .int .u64 u] 92)).heap[w.heap.size]? = some _ := Array.getElem?_push_size
  have d0 := cell_of_row _ _ 0 _ _ _ hA
  have d2 := cell_of_row _ _ 2 _ _ _ hA
  have d3 := cell_of_row _ _ 3 _ _ _ hA
  have d4 := cell_of_row _ _ 4 _ _ _ hA
  simp only [List.getElem?_toArray, List.getElem?_cons_zero, List.getElem?_cons_succ] at d0 d2 d3 d4
  have O := Lib.hid ((Off.refl [] w).alloc (.cells #[.int .i64 d, .int .i64 a, .int .i64 b, .int .i64 c, .int .u64 u] 92))
  clear hA
  by_cases hret : d = 1 ∨ d = 4 ∨ sum = 0
  · by_cases e1 : d = 1
    · have f1 : (d == 1) = true := beq_iff_eq.2 e1
      clear e1 hret
      go_enter Try.func47, Try.ntmps47
      go_wp2_with fail
      go_ret
      exact ⟨u, rfl, h0, h1, O.out⟩
    have f1 : (d == 1) = false := beq_eq_false_iff_ne.2 e1
    by_cases e4 : d = 4
    · have f4 : (d == 4) = true := beq_iff_eq.2 e4
      clear e1 e4 hret
      go_enter Try.func47, Try.ntmps47
      go_wp2_with fail
      go_ret
      exact ⟨u, rfl, h0, h1, O.out⟩
    have f4 : (d == 4) = false := beq_eq_false_iff_ne.2 e4
    have fs : (sum == 0) = true := beq_iff_eq.2 (by omega)
    clear e1 e4 hret
    go_enter Try.func47, Try.ntmps47
    go_wp2_with fail
    go_ret
    exact ⟨u, rfl, h0, h1, O.out⟩
  · have f1 : (d == 1) = false := beq_eq_false_iff_ne.2 (by omega)
    have f4 : (d == 4) = false := beq_eq_false_iff_ne.2 (by omega)
    have fs : (sum == 0) = false := beq_eq_false_iff_ne.2 (by omega)
    have hpos : 0 < sum := by omega
    clear hret
    go_enter Try.func47, Try.ntmps47
    go_wp2_with fail
    generalize w.alloc _ = w1 at d0 d2 d3 d4 O ⊢
    generalize w.heap.size = B at d0 d2 d3 d4 ⊢
    go_quiet (fail)
    go_wp2_with fail
    go_ret
    exact ⟨_, rfl, (bits_or_ran _ _).1, (bits_or_ran _ _).2, O.out.drewN _⟩
theorem IntsAt.form' {B : Nat} {w : World} {v : Value} {T : List Nat} (h : IntsAt B w v (intsOf T)) : ∃ (a : Option Addr) (cap b o : Nat), v = .slice a T.length cap ∧ (0 < T.length → a = some ⟨b, o, none⟩ ∧ B ≤ b) ∧
    ∀ i, i < T.length → w.cell? ⟨b, o + i, none⟩ = some (.int .i64 ((T.getD i 0 : Nat) : Int)) := by
  rcases h with ⟨rfl, hnil⟩ | ⟨b, o, cap, hb, rfl, hc⟩
  · have : T = [] := by simpa [intsOf] using hnil
    subst this
    exact ⟨none, 0, 0, 0, rfl, fun h => absurd h (by simp), fun i hi => absurd hi (by simp)⟩
  · refine ⟨some ⟨b, o, none⟩, cap, b, o, by simp [intsOf], fun _ => ⟨rfl, hb⟩, fun i hi => ?_⟩
    rw [hc i (by simpa [intsOf] using hi)]
    simp [intsOf, List.getD, List.getElem?_eq_getElem hi]

/-- At the head of each round: cards, whatever has been done to them. -/
def PlRel (w0 : World) (cb pb mb sb n k : Nat) (wr : World) : Prop := ∃ M C, CardAt wr cb pb mb sb n M C ∧ Wf n M k ∧ Kc n M ∧ Off [pb, mb, sb] w0 wr
theorem PlRel.mk {w0 wr : World} {cb pb mb sb n k : Nat} {M : MemS} {C : Nat → Int} (h1 : CardAt wr cb pb mb sb n M C) (h2 : Wf n M k) (h3 : Kc n M) (h4 : Off [pb, mb, sb] w0 wr) : PlRel w0 cb pb mb sb n k wr := ⟨M, C, h1, h2, h3, h4⟩

theorem mayB_kind {g k c : Int} (h : mayB g k c = true) : 0 ≤ g ∧ g ≤ 4 ∧ 0 ≤ k ∧ k ≤ 3 ∧ 1 ≤ c ∧ c ≤ 63 := by have := of_decide_eq_true h; omega
theorem Kc.alloc {n : Nat} {M : MemS} {C : Nat → Int} {g k c r s : Int} {M' : MemS} {C' : Nat → Int} (K : Kc n M) (h : AllocIs n M C g k c r s M' C') : Kc n M' := by
  rcases h with ⟨_, _, _, rfl, _⟩ | ⟨_, _, x, _, ht, _, _, rfl, _⟩ | ⟨_, _, _, _, _, rfl, _⟩ | ⟨_, hm, _, q, hq, _, _, _, rfl, _⟩
  · exact K
  · exact K.bump (by have := ht.2.1; omega) _
  · exact K
  · have := mayB_kind hm
    exact (K.take q g k (by omega) (by omega)).bump hq _

theorem played_arg (limit : Int) (a : Option Addr) (len cap : Nat) (w : World) (h : limit < 8 ∨ 1024 < limit) :
    Calls Try.prog 39 #[.int .i64 limit, .slice a len cap] w fun e w' => e = .returned (.pointer none) ∧ w = w' := by
  have hh := Lib.hid h
  clear h
  go_enter Try.func39, Try.ntmps39
  go_wp2_with fail
  refine (cnew_arg limit w hh.out).mono ?_
  rintro e w1 ⟨rfl, rfl⟩
  go_wp2_with fail
  go_ret
  exact ⟨rfl, rfl⟩
theorem played_many (n : Nat) (h1 : 8 ≤ n) (h2 : n ≤ 1024) (a : Option Addr) (len cap : Nat) (w : World) (h : 300 < len) :
    Calls Try.prog 39 #[.int .i64 n, .slice a len cap] w fun e w' => e = .returned (.pointer none) ∧ Off [] w w' := by
  have h' : (300 : Int) < (len : Int) := by omega
  clear h
  go_enter Try.func39, Try.ntmps39
  go_wp2_with fail
  refine (cnew_ok _ n w rfl h1 h2).mono ?_
  rintro e w1 ⟨cb, pb, mb, sb, rfl, H, O, _⟩
  have O1 := Lib.hid O
  clear H O
  go_wp2_with fail
  go_ret
  exact ⟨rfl, O1.out⟩

set_option maxHeartbeats 2000000 in
set_option maxRecDepth 100000 in
theorem played_some (n : Nat) (h1 : 8 ≤ n) (h2 : n ≤ 1024) (a : Option Addr) (len cap : Nat) (X : Nat → ActS) (w : World) (hX : ActsAt w a len X) (hlen : len ≤ 300) :
    Calls Try.prog 39 #[.int .i64 n, .slice a len cap] w fun e w' => ∃ cb pb mb sb M C, e = .returned (.pointer (some ⟨cb, 0, none⟩)) ∧ CardAt w' cb pb mb sb n M C ∧ Wf n M 300 ∧ Kc n M ∧
      Off [] w w' ∧ w.heap.size ≤ cb ∧ w.heap.size ≤ pb ∧ w.heap.size ≤ mb ∧ w.heap.size ≤ sb := by
  obtain ⟨ab, ao, hao, hact⟩ := hX
  have HX := Lib.hid hact
  have HAO := Lib.hid hao
  have l1 : (len : Int) ≤ 300 := by omega
  have hnn : 0 < n := by omega
  clear hact hao
  go_enter Try.func39, Try.ntmps39
  go_wp2_with fail
  refine (cnew_ok _ n w rfl h1 h2).mono ?_
  rintro e W1 ⟨cb, pb, mb, sb, rfl, H, O, z1, z2, z3, z4⟩
  have H1 := Lib.hid H
  have O1 := Lib.hid O
  clear H O
  go_wp2_with fail
  go_loopw [7, 8] (fun s i wr => ∃ k : Nat, k ≤ len ∧ i = .int .i64 k ∧ ∃ sm : Int, s = .int .i64 sm ∧ 0 ≤ sm ∧ sm ≤ 65536 ∧ PlRel W1 cb pb mb sb n k wr) (fun _ i _ => len - (intOf i).toNat)
  case atStart => exact ⟨0, by omega, rfl, 0, rfl, by omega, by omega, MemS.made n, fun _ => 0, H1.out, (Wf.made n), Kc.made n, Off.refl _ _⟩
  case round =>
    obtain ⟨k, hk, rfl, sm, rfl, hs0, hs1, M, C, H', W', K', O'⟩ := hrel
    have HH := Lib.hid H'
    have WW := Lib.hid W'
    have KK := Lib.hid K'
    have OO := Lib.hid O'
    clear H' W' K' O'
    by_cases hlt : k < len
    · cases HAO.out (by omega)
      obtain ⟨hc, hok⟩ := HX.out k hlt
      have hw1 := World.block_lt_of_cell? _ _ (hc 0 (by omega))
      have hc' : ∀ j, j < 5 → wr.cell? ⟨ab, ao + k * 5 + j, none⟩ = some ((X k).cellOf j) := fun j hj => OO.out.cell (O1.out.cell (hc j hj) (by simp)) (by simp at hw1 ⊢; omega)
      have ha1 := hok.a1
      have hu0 := hok.w0
      have hu1 := hok.w1
      clear hc hok hw1
      generalize X k = x at *
      obtain ⟨d, xa, xb, xc, xu⟩ := x
      have c0 := hc' 0 (by omega)
      have c1 := hc' 1 (by omega)
      have c2 := hc' 2 (by omega)
      have c3 := hc' 3 (by omega)
      have c4 := hc' 4 (by omega)
      simp only [ActS.cellOf, Nat.add_zero] at c0 c1 c2 c3 c4 ha1 hu0 hu1
      have hA : (wr.alloc (.cells #[.int .i64 d, .int .i64 xa, .int .i64 xb, .int .i64 xc, .int .u64 xu] 92)).heap[wr.heap.size]? = some _ := Array.getElem?_push_size
      have d0 := cell_of_row _ _ 0 _ _ _ hA
      have d1 := cell_of_row _ _ 1 _ _ _ hA
      have d2 := cell_of_row _ _ 2 _ _ _ hA
      have d3 := cell_of_row _ _ 3 _ _ _ hA
      simp only [List.getElem?_toArray, List.getElem?_cons_zero, List.getElem?_cons_succ] at d0 d1 d2 d3
      clear hc' hA
      by_cases e0 : d = 0
      · have f0 : (d == 0) = true := beq_iff_eq.2 e0
        have HE := Lib.hid e0
        clear e0
        go_wp2_with fail
        have H2 := HH.out.off hnn ((Off.refl [] wr).alloc (.cells #[.int .i64 d, .int .i64 xa, .int .i64 xb, .int .i64 xc, .int .u64 xu] 92)) (by simp) (by simp) (by simp) (by simp)
        have O2 := OO.out.alloc (.cells #[.int .i64 d, .int .i64 xa, .int .i64 xb, .int .i64 xc, .int .u64 xu] 92)
        clear d0 c0 c1 c2 c3 c4
        generalize wr.alloc _ = w2 at d1 d2 d3 H2 O2 ⊢
        generalize wr.heap.size = B at d1 d2 d3 ⊢
        refine region_tail 10 (by kernel_rfl) (by kernel_rfl) ?_
        intro w3 hw3
        simp only [List.take_succ_cons, List.take_zero, List.drop_succ_cons, List.drop_zero]
        have H3 : CardAt w3 cb pb mb sb n M C := by rw [← hw3]; exact H2.drew
        have O3 : Off [pb, mb, sb] W1 w3 := by rw [← hw3]; exact O2.drew
        have g1 : w3.cell? ⟨B, 1, none⟩ = some (.int .i64 xa) := by rw [← hw3]; exact d1
        have g2 : w3.cell? ⟨B, 2, none⟩ = some (.int .i64 xb) := by rw [← hw3]; exact d2
        have g3 : w3.cell? ⟨B, 3, none⟩ = some (.int .i64 xc) := by rw [← hw3]; exact d3
        have gp := H3.ptr
        have H3' := Lib.hid H3
        have O3' := Lib.hid O3
        clear hw3 d1 d2 d3 H2 O2 H3 O3
        repeat still_step
        refine wpStill_nil ?_
        go_wp2_with fail
        refine (alloc_all H3'.out.sp WW.out hnn h2 (by omega) xa xb xc).mono ?_
        rintro e w4 ⟨r, s, M', C', rfl, hA, H4s, W4, O4⟩
        have K4 := Lib.hid (KK.out.alloc hA)
        have H4c := H3'.out.sp' O4 (by have := H3'.out.np; have := H3'.out.nm; have := H3'.out.ns; simp; omega) H4s
        have H4 := Lib.hid H4c
        have WW4 := Lib.hid W4
        have OO4 := Lib.hid (O3'.out.trans O4)
        have p1 := H4c.ptr
        have p2 := H4c.sp.ptr
        clear hA H4s W4 O4 H4c gp g1 g2 g3
        go_wp2_with fail
        refine (taken_all H4.out.sp.mem WW4.out hnn h2).mono ?_
        rintro e w5 ⟨v, T, rfl, hT, hI, _, O5⟩
        have hTl := hT.len
        obtain ⟨ta, tcap, tb, to, rfl, _, _⟩ := hI.form'
        have RR : Hid (PlRel W1 cb pb mb sb n (k + 1) w5) := Lib.hid (PlRel.mk (H4.out.off hnn O5 (by simp) (by simp) (by simp) (by simp)) WW4.out K4.out (OO4.out.trans (O5.mono (by simp))))
        clear hT hI O5 p1 p2
        have q1 : (0 : Int) ≤ (T.length : Int) := by omega
        have q2 : (T.length : Int) ≤ 1024 := by omega
        go_wp2_with fail
        go_roundw
        case rel => exact ⟨k + 1, by omega, by go_num, 64 * (T.length : Int), rfl, by omega, by omega, RR.out⟩
        case measure => simp [intOf]; omega
      by_cases e1 : d = 1
      · have f1 : (d == 1) = true := beq_iff_eq.2 e1
        have f0 : (d == 0) = false := beq_eq_false_iff_ne.2 e0
        clear e0 e1
        go_wp2_with fail
        refine (word_any d xa xb xc xu sm _ hs0 (by omega) hu0 hu1).mono ?_
        rintro e w4 ⟨r, rfl, r0, r1, O4⟩
        have OA := Lib.hid ((OO.out.alloc (.cells #[.int .i64 d, .int .i64 xa, .int .i64 xb, .int .i64 xc, .int .u64 xu] 92)).trans (O4.mono (by simp)))
        have HA := Lib.hid ((HH.out.off hnn ((Off.refl [] wr).alloc (.cells #[.int .i64 d, .int .i64 xa, .int .i64 xb, .int .i64 xc, .int .u64 xu] 92)) (by simp) (by simp) (by simp) (by simp)).off hnn O4 (by simp) (by simp) (by simp) (by simp))
        have g1 := O4.cell d1 (by simp)
        clear O4 d0 d1 d2 d3
        go_wp2_with fail
        refine (gen_any HA.out hnn h2 r r0 r1).mono ?_
        rintro e w5 ⟨rfl, O5⟩
        have OO5 := Lib.hid (OA.out.trans (O5.mono (by simp)))
        have H5 := Lib.hid (HA.out.off hnn O5 (by simp) (by simp) (by simp) (by simp))
        have k1 := O5.cell g1 (by simp)
        have e7 := bits_and7 r r0 r1
        clear O5 g1 HA OA
        generalize genOf n M r = o
        cases o with
        | some gg =>
          simp only [Option.getD_some, Option.isSome_some]
          go_wp2_with fail
          refine (cstore_all H5.out WW.out KK.out hnn h2 xa r ha1 r0 r1).mono ?_
          rintro e w6 ⟨s6, M6, rfl, _, H6', W6', K6', O6'⟩
          have RR := Lib.hid (PlRel.mk (k := k + 1) H6' (W6'.mono (by omega)) K6' ((OO5.out).trans (O6'.mono (by simp))))
          clear H6' W6' K6' O6'
          go_wp2_with fail
          go_roundw
          case rel => exact ⟨k + 1, by omega, by go_num, sm, rfl, hs0, hs1, RR.out⟩
          case measure => simp [intOf]; omega
        | none =>
          simp only [Option.getD_none, Option.isSome_none]
          by_cases q1 : 1 ≤ r % 8
          · by_cases q3 : r % 8 ≤ 3
            · go_wp2_with fail
              go_roundw
              case rel => exact ⟨k + 1, by omega, by go_num, sm, rfl, hs0, hs1, PlRel.mk H5.out (WW.out.mono (by omega)) KK.out OO5.out⟩
              case measure => simp [intOf]; omega
            · have q3' : decide (r % 8 ≤ 3) = false := decide_eq_false q3
              have q1' : decide (1 ≤ r % 8) = true := decide_eq_true q1
              clear q3
              go_wp2_with fail
              refine (cstore_all H5.out WW.out KK.out hnn h2 xa r ha1 r0 r1).mono ?_
              rintro e w6 ⟨s6, M6, rfl, _, H6', W6', K6', O6'⟩
              have RR := Lib.hid (PlRel.mk (k := k + 1) H6' (W6'.mono (by omega)) K6' ((OO5.out).trans (O6'.mono (by simp))))
              clear H6' W6' K6' O6'
              go_wp2_with fail
              go_roundw
              case rel => exact ⟨k + 1, by omega, by go_num, sm, rfl, hs0, hs1, RR.out⟩
              case measure => simp [intOf]; omega
          · have q1' : decide (1 ≤ r % 8) = false := decide_eq_false q1
            clear q1
            go_wp2_with fail
            refine (cstore_all H5.out WW.out KK.out hnn h2 xa r ha1 r0 r1).mono ?_
            rintro e w6 ⟨s6, M6, rfl, _, H6', W6', K6', O6'⟩
            have RR := Lib.hid (PlRel.mk (k := k + 1) H6' (W6'.mono (by omega)) K6' ((OO5.out).trans (O6'.mono (by simp))))
            clear H6' W6' K6' O6'
            go_wp2_with fail
            go_roundw
            case rel => exact ⟨k + 1, by omega, by go_num, sm, rfl, hs0, hs1, RR.out⟩
            case measure => simp [intOf]; omega
      by_cases e2 : d = 2
      · have f2 : (d == 2) = true := beq_iff_eq.2 e2
        have f0 : (d == 0) = false := beq_eq_false_iff_ne.2 e0
        have f1 : (d == 1) = false := beq_eq_false_iff_ne.2 e1
        clear e0 e1 e2
        go_wp2_with fail
        refine (word_any d xa xb xc xu sm _ hs0 (by omega) hu0 hu1).mono ?_
        rintro e w4 ⟨r, rfl, r0, r1, O4⟩
        have OA := Lib.hid ((OO.out.alloc (.cells #[.int .i64 d, .int .i64 xa, .int .i64 xb, .int .i64 xc, .int .u64 xu] 92)).trans (O4.mono (by simp)))
        have HA := Lib.hid ((HH.out.off hnn ((Off.refl [] wr).alloc (.cells #[.int .i64 d, .int .i64 xa, .int .i64 xb, .int .i64 xc, .int .u64 xu] 92)) (by simp) (by simp) (by simp) (by simp)).off hnn O4 (by simp) (by simp) (by simp) (by simp))
        have g1 := O4.cell d1 (by simp)
        clear O4 d0 d1 d2 d3
        go_wp2_with fail
        refine (gen_any HA.out hnn h2 r r0 r1).mono ?_
        rintro e w5 ⟨rfl, O5⟩
        have OO5 := Lib.hid (OA.out.trans (O5.mono (by simp)))
        have H5 := Lib.hid (HA.out.off hnn O5 (by simp) (by simp) (by simp) (by simp))
        have k1 := O5.cell g1 (by simp)
        have e7 := bits_and7 r r0 r1
        clear O5 g1 HA OA
        generalize genOf n M r = o
        cases o with
        | some gg =>
          simp only [Option.getD_some, Option.isSome_some]
          go_wp2_with fail
          refine (cstore_all H5.out WW.out KK.out hnn h2 xa r ha1 r0 r1).mono ?_
          rintro e w6 ⟨s6, M6, rfl, _, H6', W6', K6', O6'⟩
          have RR := Lib.hid (PlRel.mk (k := k + 1) H6' (W6'.mono (by omega)) K6' ((OO5.out).trans (O6'.mono (by simp))))
          clear H6' W6' K6' O6'
          go_wp2_with fail
          go_roundw
          case rel => exact ⟨k + 1, by omega, by go_num, sm, rfl, hs0, hs1, RR.out⟩
          case measure => simp [intOf]; omega
        | none =>
          simp only [Option.getD_none, Option.isSome_none]
          by_cases q1 : 1 ≤ r % 8
          · by_cases q3 : r % 8 ≤ 3
            · go_wp2_with fail
              go_roundw
              case rel => exact ⟨k + 1, by omega, by go_num, sm, rfl, hs0, hs1, PlRel.mk H5.out (WW.out.mono (by omega)) KK.out OO5.out⟩
              case measure => simp [intOf]; omega
            · have q3' : decide (r % 8 ≤ 3) = false := decide_eq_false q3
              have q1' : decide (1 ≤ r % 8) = true := decide_eq_true q1
              clear q3
              go_wp2_with fail
              refine (cstore_all H5.out WW.out KK.out hnn h2 xa r ha1 r0 r1).mono ?_
              rintro e w6 ⟨s6, M6, rfl, _, H6', W6', K6', O6'⟩
              have RR := Lib.hid (PlRel.mk (k := k + 1) H6' (W6'.mono (by omega)) K6' ((OO5.out).trans (O6'.mono (by simp))))
              clear H6' W6' K6' O6'
              go_wp2_with fail
              go_roundw
              case rel => exact ⟨k + 1, by omega, by go_num, sm, rfl, hs0, hs1, RR.out⟩
              case measure => simp [intOf]; omega
          · have q1' : decide (1 ≤ r % 8) = false := decide_eq_false q1
            clear q1
            go_wp2_with fail
            refine (cstore_all H5.out WW.out KK.out hnn h2 xa r ha1 r0 r1).mono ?_
            rintro e w6 ⟨s6, M6, rfl, _, H6', W6', K6', O6'⟩
            have RR := Lib.hid (PlRel.mk (k := k + 1) H6' (W6'.mono (by omega)) K6' ((OO5.out).trans (O6'.mono (by simp))))
            clear H6' W6' K6' O6'
            go_wp2_with fail
            go_roundw
            case rel => exact ⟨k + 1, by omega, by go_num, sm, rfl, hs0, hs1, RR.out⟩
            case measure => simp [intOf]; omega
      have f0 : (d == 0) = false := beq_eq_false_iff_ne.2 e0
      have f1 : (d == 1) = false := beq_eq_false_iff_ne.2 e1
      have f2 : (d == 2) = false := beq_eq_false_iff_ne.2 e2
      have O2 := Lib.hid (OO.out.alloc (.cells #[.int .i64 d, .int .i64 xa, .int .i64 xb, .int .i64 xc, .int .u64 xu] 92))
      have H2 := Lib.hid (HH.out.off hnn ((Off.refl [] wr).alloc (.cells #[.int .i64 d, .int .i64 xa, .int .i64 xb, .int .i64 xc, .int .u64 xu] 92)) (by simp) (by simp) (by simp) (by simp))
      by_cases e3 : d = 3
      · have f3 : (d == 3) = true := beq_iff_eq.2 e3
        clear e0 e1 e2 e3
        go_wp2_with fail
        refine (again_all H2.out WW.out KK.out hnn h2 xa xb).mono ?_
        rintro e w3 ⟨s3, M3, rfl, _, H3, W3, K3, O3⟩
        have RR : Hid (PlRel W1 cb pb mb sb n (k + 1) w3) := Lib.hid (PlRel.mk H3 (W3.mono (by omega)) K3 (O2.out.trans (O3.mono (by simp))))
        clear H3 W3 K3 O3 d0 d1 d2 d3
        go_wp2_with fail
        go_roundw
        case rel => exact ⟨k + 1, by omega, by go_num, sm, rfl, hs0, hs1, RR.out⟩
        case measure => simp [intOf]; omega
      · have f3 : (d == 3) = false := beq_eq_false_iff_ne.2 e3
        clear e0 e1 e2 e3
        go_wp2_with fail
        go_roundw
        case rel => exact ⟨k + 1, by omega, by go_num, sm, rfl, hs0, hs1, PlRel.mk H2.out (WW.out.mono (by omega)) KK.out O2.out⟩
        case measure => simp [intOf]; omega
    · go_wp2_with fail
      go_ret
      exact ⟨cb, pb, mb, sb, M, C, rfl, HH.out, WW.out.mono (by omega), KK.out, O1.out.trans_new OO.out (fun x hx => .inr (by simp at hx; omega)), z1, z2, z3, z4⟩
end Go.Proofs.Ytoafoodgomnfeaa
