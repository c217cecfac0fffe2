/-
  YtoafoodgomnfeaaCstands: both cards say the same.
-/
import Derived.Test.YtoafoodgomnfeaaCdoes
namespace Go.Proofs.Ytoafoodgomnfeaa
open Go.RowKit
set_option linter.unusedVariables false
set_option maxRecDepth 100000 in
set_option maxHeartbeats 4000000 in
theorem cstands_true {w : World} {cb pb mb sb db qb rb n c : Nat} {M : MemS} {C : Nat → Int} {X : List Nat} (h : CBoth w cb pb mb sb db qb rb n M M C C c X) :
    Calls Try.prog 52 #[.pointer (some ⟨cb, 0, none⟩), .pointer (some ⟨db, 0, none⟩)] w fun e w' => e = .returned (.bool true) ∧ Off [] w w' := by
  obtain ⟨T, V, v, h1, h2, h3⟩ := h.sp.both.ref
  have hTn := h2.len
  have n1 := h.n1
  have hfree := h2.free h.sp.both.wf
  obtain ⟨la, lcap, lg, hv0, hla, hlc⟩ := h1.form
  have hl := h1.l
  have hN := h1.n0
  rw [hv0] at hl
  have HB := Lib.hid h
  have H1 := Lib.hid h1
  have H2 := Lib.hid h2
  have HLC := Lib.hid hlc
  have HLA := Lib.hid hla
  have KEEP : Hid (∀ w', Off [] w w' → (Off [] w w' ∧ w'.cell? ⟨cb, 0, none⟩ = some (.pointer (some ⟨pb, 0, none⟩)) ∧ w'.cell? ⟨pb, 0, none⟩ = some (.pointer (some ⟨mb, 0, none⟩))) ∧ w'.cell? ⟨db, 0, none⟩ = some (.pointer (some ⟨qb, 0, none⟩)) ∧ w'.cell? ⟨qb, 0, none⟩ = some (.pointer (some ⟨rb, 0, none⟩)) ∧ w'.cell? ⟨rb, 0, none⟩ = some (.int .i64 n) ∧ w'.cell? ⟨rb, 1, none⟩ = some (.slice la T.length lcap)) :=
    Lib.hid (fun w' O => ⟨⟨O, O.cell HB.out.cp (by simp), O.cell HB.out.sp.pptr (by simp)⟩, O.cell HB.out.dp (by simp), O.cell HB.out.sp.qptr (by simp), O.cell hN (by simp), O.cell hl (by simp)⟩)
  have q2 : IntKind.i64.wrap ((n : Int) - (T.length : Int)) = (n : Int) - (T.length : Int) := by rw [IntKind.wrap_i64]; omega
  have q3 : (M.free == (n : Int) - (T.length : Int)) = true := beq_iff_eq.2 hfree
  have HQ := Lib.hid (And.intro q2 q3)
  clear h h1 h2 h3 hlc hla hv0 hl hN hfree q2 q3
  go_enter Try.func52, Try.ntmps52
  go_wp2_with fail
  go_loopw [5] (fun i wr => SsOut T w i wr) (fun i _ => T.length - (intOf i).toNat)
  case atStart => exact ⟨0, by omega, rfl, Off.refl _ _⟩
  case round =>
    obtain ⟨i, hi, rfl, O3⟩ := hrel
    have OO3 := Lib.hid O3
    obtain ⟨⟨_, g1, g2⟩, g3, g4, g5, g6⟩ := KEEP.out _ O3
    by_cases hlt : i < T.length
    · obtain ⟨rfl, _⟩ := HLA.out (by omega)
      have kin := getD_mem hlt
      have cells1 := fun j hj => OO3.out.cell (HLC.out i j hlt hj).1 (by simp)
      generalize T.getD i 0 = kk at cells1 kin
      obtain ⟨hkn, hkt⟩ := H2.out.taken kin
      obtain ⟨va, vcap, vg, hV, hva, hvc⟩ := ownsRow_form (H1.out.wrow kk kin)
      have hu := HB.out.sp.both.wf.used kk hkn
      have b0 := cells1 0 (by omega)
      have b1 := cells1 1 (by omega)
      have b2 := cells1 2 (by omega)
      have b3 := cells1 3 (by omega)
      have b4 := cells1 4 (by omega)
      have b5 := cells1 5 (by omega)
      have b6 := cells1 6 (by omega)
      have b7 := cells1 7 (by omega)
      have b8 := cells1 8 (by omega)
      clear cells1
      simp only [cellR, Nat.add_zero] at b0 b1 b2 b3 b4 b5 b6 b7 b8
      rw [hV] at b8
      have HVC : Hid (∀ q : Nat, (q : Int) < (M.S kk).n → w.cell? ⟨vg, q, none⟩ = some (.int .u64 ((M.S kk).words q)) ∧ va = some ⟨vg, 0, none⟩) := Lib.hid (fun q hq => by
        have h1 := (hvc q (by omega)).1
        rw [wordsR_get M kk q hq] at h1
        exact ⟨h1, (hva (by omega)).1⟩)
      generalize hs : M.S kk = s at *
      obtain ⟨gen, kind, un, e0, e1, e2, e3, tk, ws⟩ := s
      simp only [] at b1 b2 b3 b4 b5 b6 b7 b8 hkt hu
      obtain ⟨u, rfl⟩ : ∃ u : Nat, un = u := ⟨un.toNat, by omega⟩
      simp only [Int.toNat_natCast] at b8
      have HS := Lib.hid hs
      have HTK : Hid (M.isTaken n kk) := Lib.hid ⟨by omega, by omega, by rw [Int.toNat_natCast, hs]; exact hkt⟩
      have hread : Hid (∀ q : Nat, q < u → M.hasWord n (64 * (kk : Int) + q)) := Lib.hid (fun q hq => by
        have e1 : (64 * (kk : Int) + q) / 64 = kk := by omega
        refine ⟨by omega, by rw [e1]; exact HTK.out, ?_⟩
        rw [e1, Int.toNat_natCast, HS.out]
        simp only []
        omega)
      have READ : Hid (∀ (w' : World) (q : Nat), Off [] w w' → q < u → Calls Try.prog 21 #[.pointer (some ⟨mb, 0, none⟩), .int .i64 (64 * (kk : Int) + q)] w' fun e w'' => e = .returned (.tuple #[.int .u64 (ws q), .int .i64 0]) ∧ w' = w'') := Lib.hid (fun w' q O hq => by
        refine ((HB.out.off O).sp.both.pread _ (by omega)).mono ?_
        rintro e w'' ⟨⟨v, s, rfl, hR⟩, rfl⟩
        rcases hR with ⟨rfl, _, rfl⟩ | ⟨_, hno, _⟩
        · rw [show (64 * (kk : Int) + q) / 64 = kk by omega, show (64 * (kk : Int) + q) % 64 = q by omega, Int.toNat_natCast, Int.toNat_natCast, HS.out]
          exact ⟨rfl, rfl⟩
        · exact absurd (hread.out q hq) hno)
      have a0 : (0 : Int) ≤ (i : Int) := by omega
      have a1 : (i : Int) < (T.length : Int) := by omega
      have HKN := Lib.hid hkn
      have HKT := Lib.hid hkt
      clear hs hva hvc hV kin O3 HLA
      go_upto_region 5 with fail
      have hA : (wr.alloc (.cells #[.int .i64 (kk : Int), .int .i64 gen, .int .i64 kind, .int .i64 (u : Int), .int .i64 e0, .int .i64 e1, .int .i64 e2, .int .i64 e3, .slice va u vcap] 125)).heap[wr.heap.size]? = some _ := Array.getElem?_push_size
      have x0 := cell_of_row _ _ 0 _ _ _ hA
      have x1 := cell_of_row _ _ 1 _ _ _ hA
      have x2 := cell_of_row _ _ 2 _ _ _ hA
      have x3 := cell_of_row _ _ 3 _ _ _ hA
      have x4 := cell_of_row _ _ 4 _ _ _ hA
      have x5 := cell_of_row _ _ 5 _ _ _ hA
      have x6 := cell_of_row _ _ 6 _ _ _ hA
      have x7 := cell_of_row _ _ 7 _ _ _ hA
      have x8 := cell_of_row _ _ 8 _ _ _ hA
      simp only [List.getElem?_toArray, List.getElem?_cons_zero, List.getElem?_cons_succ] at x0 x1 x2 x3 x4 x5 x6 x7 x8
      have OO4 := Lib.hid (OO3.out.alloc (.cells #[.int .i64 (kk : Int), .int .i64 gen, .int .i64 kind, .int .i64 (u : Int), .int .i64 e0, .int .i64 e1, .int .i64 e2, .int .i64 e3, .slice va u vcap] 125))
      clear hA b0 b1 b2 b3 b4 b5 b6 b7 b8 g1 g2 g3 g4 g5 g6
      generalize wr.alloc (.cells #[.int .i64 (kk : Int), .int .i64 gen, .int .i64 kind, .int .i64 (u : Int), .int .i64 e0, .int .i64 e1, .int .i64 e2, .int .i64 e3, .slice va u vcap] 125) = W3 at x0 x1 x2 x3 x4 x5 x6 x7 x8 OO4 ⊢
      generalize wr.heap.size = B at x0 x1 x2 x3 x4 x5 x6 x7 x8 ⊢
      have XC : Hid (∀ w', Off [] W3 w' → (w'.cell? ⟨B, 0, none⟩ = some (.int .i64 (kk : Int)) ∧ w'.cell? ⟨B, 8, none⟩ = some (.slice va u vcap)) ∧ w'.cell? ⟨B, 1, none⟩ = some (.int .i64 gen) ∧ w'.cell? ⟨B, 2, none⟩ = some (.int .i64 kind) ∧ w'.cell? ⟨B, 3, none⟩ = some (.int .i64 (u : Int)) ∧ w'.cell? ⟨B, 4, none⟩ = some (.int .i64 e0) ∧ w'.cell? ⟨B, 5, none⟩ = some (.int .i64 e1) ∧
          w'.cell? ⟨B, 6, none⟩ = some (.int .i64 e2) ∧ w'.cell? ⟨B, 7, none⟩ = some (.int .i64 e3)) := Lib.hid (fun w' O => ⟨⟨O.cell x0 (by simp), O.cell x8 (by simp)⟩, O.cell x1 (by simp), O.cell x2 (by simp), O.cell x3 (by simp), O.cell x4 (by simp), O.cell x5 (by simp), O.cell x6 (by simp), O.cell x7 (by simp)⟩)
      have hsg : ∀ W, Off [] W3 W → Calls Try.prog 17 #[.pointer (some ⟨mb, 0, none⟩), .int .i64 (kk : Int)] W fun e w' => e = .returned (.tuple #[.agg #[.int .i64 gen, .int .i64 kind, .int .i64 (u : Int), .int .i64 e0, .int .i64 e1, .int .i64 e2, .int .i64 e3], .bool true]) ∧ Off [] W3 w' ∧ Off [] W w' := fun W O => by
        refine (seg_yes' (HB.out.off (OO4.out.trans O)).sp.both.mem HB.out.n1 kk HKN.out _ HS.out HKT.out kk rfl).mono ?_
        rintro e w' ⟨rfl, _, O'⟩
        exact ⟨rfl, O.trans O', O'⟩
      have hsga : Off [] W3 (W3.alloc (.cells #[.int .i64 0, .int .i64 0, .int .i64 0, .int .i64 0, .int .i64 0, .int .i64 0, .int .i64 0] 37)).drew → Calls Try.prog 17 #[.pointer (some ⟨mb, 0, none⟩), .int .i64 (kk : Int)] (W3.alloc (.cells #[.int .i64 0, .int .i64 0, .int .i64 0, .int .i64 0, .int .i64 0, .int .i64 0, .int .i64 0] 37)).drew fun e w' =>
          e = .returned (.tuple #[.agg #[.int .i64 gen, .int .i64 kind, .int .i64 (u : Int), .int .i64 e0, .int .i64 e1, .int .i64 e2, .int .i64 e3], .bool true]) ∧ Off [] W3 w' ∧ Fresh7 w' W3.heap.size :=
        fun O => (hsg _ O).mono fun _ _ ⟨h, o1, o2⟩ => ⟨h, o1, (Fresh7.new W3 37).off (((Off.refl [] _).drew).trans o2)⟩
      have HSG := Lib.hid hsg
      have HSGA := Lib.hid hsga
      have hO0 : Off [] W3 W3 := Off.refl _ _
      have KEEP3 : Hid (∀ w', Off [] W3 w' → Off [] W3 w' ∧ w'.cell? ⟨cb, 0, none⟩ = some (.pointer (some ⟨pb, 0, none⟩)) ∧ w'.cell? ⟨pb, 0, none⟩ = some (.pointer (some ⟨mb, 0, none⟩)) ∧ w'.cell? ⟨B, 0, none⟩ = some (.int .i64 (kk : Int))) := Lib.hid (fun w' O => ⟨O, (KEEP.out _ (OO4.out.trans O)).1.2.1, (KEEP.out _ (OO4.out.trans O)).1.2.2, (XC.out _ O).1.1⟩)
      clear hsg hsga x0 x1 x2 x3 x4 x5 x6 x7 x8
      go_cut [7, 8] from 13 to 95 (fun s8 s9 w' => SegV W3 w' s8 s9 gen kind (u : Int) e0 e1 e2 e3)
      case first =>
        obtain ⟨Bz, hBz⟩ : ∃ Bz, W3.heap.size = Bz := ⟨_, rfl⟩
        rw [hBz] at HSGA
        go_region_held3 (fun w' => Off [] W3 w' ∧ w'.cell? ⟨cb, 0, none⟩ = some (.pointer (some ⟨pb, 0, none⟩)) ∧ w'.cell? ⟨pb, 0, none⟩ = some (.pointer (some ⟨mb, 0, none⟩)) ∧ w'.cell? ⟨B, 0, none⟩ = some (.int .i64 (kk : Int)))
          (first | with_reducible assumption | with_reducible exact KEEP3.out _ hr | with_reducible exact KEEP3.out _ (Off.set7 hr (Nat.le_of_eq hBz) _ _ _ _ _ _ _) | with_reducible exact KEEP3.out _ (Off.alloc hr _) | exact KEEP3.out _ (Off.alloc hr _) | exact KEEP3.out _ (Off.drew hO0) | exact KEEP3.out _ (Off.drew (Off.alloc hO0 _)) | exact KEEP3.out _ (Off.set7 hr (Nat.le_of_eq hBz) _ _ _ _ _ _ _))
          (first
            | (go_at_call 17; have hS : Off [] W3 (W3.alloc (.cells #[.int .i64 0, .int .i64 0, .int .i64 0, .int .i64 0, .int .i64 0, .int .i64 0, .int .i64 0] 37)).drew := (by with_reducible exact (‹Off [] W3 (W3.alloc (.cells #[.int .i64 0, .int .i64 0, .int .i64 0, .int .i64 0, .int .i64 0, .int .i64 0, .int .i64 0] 37)).drew ∧ _›).1); refine (HSGA.out hS).mono ?_; rintro e w' ⟨rfl, hr, hf⟩; obtain ⟨⟨b0, b1, b2, b3, b4, b5, b6⟩, f0, f1, f2, f3, f4, f5, f6⟩ := hf.facts; clear hS)
            | (go_at_call 17; refine (HSG.out W3.drew (‹Off [] W3 W3.drew ∧ _›).1).mono ?_; rintro e w' ⟨rfl, hr, hp⟩)
            | fail)
        · have FIN := Lib.hid (show SegV W3 _ _ _ gen kind (u : Int) e0 e1 e2 e3 from ⟨hr.alloc (.cells #[.int .i64 gen, .int .i64 kind, .int .i64 (u : Int), .int .i64 e0, .int .i64 e1, .int .i64 e2, .int .i64 e3] 37), rfl, _, rfl, Told.new w' 37 gen kind (u : Int) e0 e1 e2 e3⟩)
          clear hr hp
          rename_i hh1
          clear hh1
          go_wp2_with fail
          go_meet
          exact FIN.out
        · have FIN := Lib.hid (show SegV W3 _ _ _ gen kind (u : Int) e0 e1 e2 e3 from ⟨Off.set7 hr (Nat.le_of_eq hBz) (.int .i64 gen) (.int .i64 kind) (.int .i64 (u : Int)) (.int .i64 e0) (.int .i64 e1) (.int .i64 e2) (.int .i64 e3), rfl, _, rfl, hf.told.set gen kind (u : Int) e0 e1 e2 e3⟩)
          clear hr hf b0 b1 b2 b3 b4 b5 b6 f0 f1 f2 f3 f4 f5 f6
          rename_i hh1
          clear hh1
          go_wp2_with fail
          go_meet
          exact FIN.out
      case rest =>
        obtain ⟨O4, rfl, sp, rfl, TD⟩ := hcut
        have OO5 := Lib.hid (OO4.out.trans O4)
        have XW := Lib.hid (XC.out _ O4)
        obtain ⟨_, r1, r2, r3, r4, r5, r6, r7⟩ := XW.out
        obtain ⟨t0, t1, t2, t3, t4, t5, t6⟩ := TD
        clear O4 KEEP3 HSG HSGA hO0
        go_wp2_with fail
        clear t0 t1 t2 t3 t4 t5 t6 r1 r2 r3 r4 r5 r6 r7
        go_loopw [9] (fun v wq => ∃ q : Nat, q ≤ u ∧ v = .int .i64 q ∧ Off [] w wq ∧ wq.cell? ⟨B, 0, none⟩ = some (.int .i64 (kk : Int)) ∧ wq.cell? ⟨B, 8, none⟩ = some (.slice va u vcap)) (fun v _ => u - (intOf v).toNat)
        case atStart => exact ⟨0, by omega, rfl, OO5.out, XW.out.1.1, XW.out.1.2⟩
        case round =>
          obtain ⟨q, hq, rfl, O6, s0, s8⟩ := hrel
          have OO6 := Lib.hid O6
          obtain ⟨⟨_, g1, g2⟩, _⟩ := KEEP.out _ O6
          have S2 := Lib.hid (And.intro s0 s8)
          clear O6
          have q3 : (0 : Int) ≤ (q : Int) := by omega
          have q4 : (q : Int) ≤ (u : Int) := by omega
          by_cases hql : q < u
          · obtain ⟨hvq, rfl⟩ := HVC.out q (by omega)
            have v1 := OO6.out.cell hvq (by simp)
            have q5 : (q : Int) < (u : Int) := by omega
            have q6 : IntKind.i64.wrap (64 * (kk : Int)) = 64 * (kk : Int) := by rw [IntKind.wrap_i64]; omega
            have q7 : IntKind.i64.wrap (64 * (kk : Int) + (q : Int)) = 64 * (kk : Int) + (q : Int) := by rw [IntKind.wrap_i64]; omega
            clear hvq
            go_wp2_with fail
            go_quiet ((go_at_call 21; exact qleft (READ.out _ q (OO6.out.drewN _) hql)))
            go_wp2_with fail
            go_roundw
            case rel => exact ⟨q + 1, by omega, by go_num, OO6.out.drewN _, S2.out.1, S2.out.2⟩
            case measure => simp [intOf]; omega
          · obtain rfl : q = u := by omega
            go_wp2_with fail
            go_roundw
            case rel => first | exact ⟨i + 1, by omega, by go_num, OO6.out⟩ | ((repeat apply Exists.intro); exact ⟨⟨i + 1, by omega, by go_num, OO6.out⟩, rfl⟩)
            case measure => simp [intOf]; omega
    · obtain rfl : i = T.length := by omega
      clear O3
      go_wp2_with fail
      clear g1 g2 g3 g4 g5 g6
      go_loopw [12] (fun v wr => SsGen w v wr) (fun v _ => (6 - intOf v).toNat)
      case atStart => exact ⟨-1, by omega, by omega, rfl, OO3.out⟩
      case round =>
        obtain ⟨g, hg0, hg1, rfl, O4⟩ := hrel
        have OO4 := Lib.hid O4
        have HB4 := Lib.hid (HB.out.off O4)
        obtain ⟨⟨_, g1, g2⟩, g3, g4, g5, g6⟩ := KEEP.out _ O4
        clear O4
        by_cases gg : g ≤ 5
        · clear g1 g2 g3 g4 g5 g6
          go_wp2_with fail
          refine (dirty_any HB4.out.card HB4.out.sp.both.wf HB4.out.n0 HB4.out.n1 g).mono ?_
          rintro e w5 ⟨v5, T5, rfl, hT5, hC5, O5⟩
          obtain rfl := H2.out.unique hT5
          have OO5 := Lib.hid (OO4.out.trans O5)
          have HB5 := Lib.hid (HB4.out.off O5)
          have HC5 := Lib.hid hC5
          clear hT5 hC5 O5
          go_wp2_with fail
          refine (HB5.out.ddirty g H2.out).mono ?_
          rintro e w6 ⟨v6, rfl, hC6, O6⟩
          have HC6 := Lib.hid hC6
          have HC56 := Lib.hid (HC5.out.off O6 (by simp))
          have OO6 := Lib.hid (OO5.out.trans O6)
          have HDL : Hid ((dirtyL M T g).length ≤ 4096) := Lib.hid (by have := dirtyL_len M T g; omega)
          clear hC6 O6
          go_wp2_with fail
          refine (same_any HC56.out HC6.out HDL.out).mono ?_
          rintro e w7 ⟨rfl, O7⟩
          have OO7 := Lib.hid (OO6.out.trans O7)
          clear O7
          go_wp2_with fail
          go_roundw
          case rel => first | exact ⟨g + 1, by omega, by omega, by go_num, OO7.out⟩ | ((repeat apply Exists.intro); exact ⟨⟨g + 1, by omega, by omega, by go_num, OO7.out⟩, rfl⟩)
          case measure => simp [intOf]; omega
        · obtain rfl : g = 6 := by omega
          obtain ⟨q2, q3⟩ := HQ.out
          go_wp2_with fail
          go_quiet ((go_at_call 15; exact qleft ((HB.out.off (OO4.out.drewN _)).sp.both.pfree)))
          go_wp2_with fail
          go_ret
          exact ⟨rfl, OO4.out.drewN _⟩
end Go.Proofs.Ytoafoodgomnfeaa
