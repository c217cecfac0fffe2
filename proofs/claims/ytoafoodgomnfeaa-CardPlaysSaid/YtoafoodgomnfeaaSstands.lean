/-
  YtoafoodgomnfeaaSstands: both spaces say the same.
-/
import Derived.Test.YtoafoodgomnfeaaSdoes
import Derived.Test.YtoafoodgomnfeaaBox
namespace Go.Proofs.Ytoafoodgomnfeaa
open Go.RowKit
set_option linter.unusedVariables false

/-- Two lists of the same numbers. -/
def TwoL (w w' : World) (T : List Nat) (s5 s6 : Value) : Prop :=
  Off [] w w' ∧ ∃ a c b d, s5 = .slice a (intsOf T).length c ∧ s6 = .slice b (intsOf T).length d ∧ IntsAt 0 w' s5 (intsOf T) ∧ IntsAt 0 w' s6 (intsOf T)
/-- At the head of each round. -/
def SsOut (T : List Nat) (W1 : World) (i : Value) (wr : World) : Prop := ∃ k : Nat, k ≤ T.length ∧ i = .int .i64 k ∧ Off [] W1 wr
def SsGen (W1 : World) (v : Value) (wr : World) : Prop := ∃ g : Int, -1 ≤ g ∧ g ≤ 6 ∧ v = .int .i64 g ∧ Off [] W1 wr
/-- A segment's telling in a variable. -/
def SegV (wr w' : World) (s8 s9 : Value) (g k n c0 c1 c2 c3 : Int) : Prop := Off [] wr w' ∧ s9 = .bool true ∧ ∃ B, s8 = .pointer (some ⟨B, 0, none⟩) ∧ Told w' B g k n c0 c1 c2 c3

section
variable {w : World} {pb mb sb qb rb n c : Nat} {M R : MemS} {C D : Nat → Int} {X : List Nat} (h : SBoth w pb mb sb qb rb n M R C D c X)
include h
theorem SBoth.pwords0 {T : List Nat} (hT : TakenIs M n [] T) : Calls Try.prog 69 #[.pointer (some ⟨pb, 0, none⟩), .slice none 0 0] w fun e w' => e = .returned (.int .i64 (sumW M T)) ∧ Off [] w w' := h.pwords [] (by simp) (ints_nil w) hT
theorem SBoth.dwords0 {T : List Nat} (hT : TakenIs R n [] T) : Calls Try.prog 71 #[.pointer (some ⟨qb, 0, none⟩), .slice none 0 0] w fun e w' => e = .returned (.int .i64 (sumW R T)) ∧ Off [] w w' := h.dwords [] (by simp) (ints_nil w) hT
theorem SBoth.pwords2 {B : Nat} {x y : Int} (h0 : w.cell? ⟨B, 0, none⟩ = some (.int .i64 x)) (h1 : w.cell? ⟨B, 1, none⟩ = some (.int .i64 y)) {T : List Nat} (hT : TakenIs M n [x, y] T) :
    Calls Try.prog 69 #[.pointer (some ⟨pb, 0, none⟩), .slice (some ⟨B, 0, none⟩) 2 2] w fun e w' => e = .returned (.int .i64 (sumW M T)) ∧ Off [] w w' := h.pwords [x, y] (by simp) (ints_two h0 h1) hT
theorem SBoth.dwords2 {B : Nat} {x y : Int} (h0 : w.cell? ⟨B, 0, none⟩ = some (.int .i64 x)) (h1 : w.cell? ⟨B, 1, none⟩ = some (.int .i64 y)) {T : List Nat} (hT : TakenIs R n [x, y] T) :
    Calls Try.prog 71 #[.pointer (some ⟨qb, 0, none⟩), .slice (some ⟨B, 0, none⟩) 2 2] w fun e w' => e = .returned (.int .i64 (sumW R T)) ∧ Off [] w w' := h.dwords [x, y] (by simp) (ints_two h0 h1) hT
end

section
variable {w : World} {pb mb sb qb rb n c : Nat} {M : MemS} {C : Nat → Int} {X : List Nat}
set_option maxRecDepth 100000 in
set_option maxHeartbeats 4000000 in
theorem sstands_true (h : SBoth w pb mb sb qb rb n M M C C c X) :
    Calls Try.prog 33 #[.pointer (some ⟨pb, 0, none⟩), .pointer (some ⟨qb, 0, none⟩)] w fun e w' => e = .returned (.bool true) ∧ Off [] w w' := by
  obtain ⟨T, V, v, h1, h2, h3⟩ := h.both.ref
  have hT04 := h2.gen [0, 4]
  have hTn := h2.len
  have n1 := h.n1
  have hfree := h2.free h.both.wf
  obtain ⟨la, lcap, lg, hv0, hla, hlc⟩ := h1.form
  have hl := h1.l
  have hN := h1.n0
  rw [hv0] at hl
  generalize hA : T.filter (genB M [0, 4]) = A at hT04
  have HB := Lib.hid h
  have H1 := Lib.hid h1
  have H2 := Lib.hid h2
  have HA := Lib.hid hT04
  have HLC := Lib.hid hlc
  have HLA := Lib.hid hla
  have HL := Lib.hid hl
  have HN := Lib.hid hN
  have hTl := intsOf_len T
  have HTL := Lib.hid hTl
  have KEEP0 : Hid (∀ w', Off [] w w' → Off [] w w' ∧ w'.cell? ⟨pb, 0, none⟩ = some (.pointer (some ⟨mb, 0, none⟩)) ∧ w'.cell? ⟨qb, 0, none⟩ = some (.pointer (some ⟨rb, 0, none⟩))) := Lib.hid (fun w' O => ⟨O, O.cell HB.out.pptr (by simp), O.cell HB.out.qptr (by simp)⟩)
  clear h h1 h2 h3 hT04 hlc hla hv0 hA hl hN hTl
  go_enter Try.func33, Try.ntmps33
  go_upto_region 1 with fail
  go_cut [5, 6] from 18 to 27 (fun s5 s6 w' => TwoL w w' T s5 s6)
  case first =>
    go_region_held3 (fun w' => Off [] w w' ∧ w'.cell? ⟨pb, 0, none⟩ = some (.pointer (some ⟨mb, 0, none⟩)) ∧ w'.cell? ⟨qb, 0, none⟩ = some (.pointer (some ⟨rb, 0, none⟩)))
      (first | with_reducible assumption | exact KEEP0.out _ (Off.drew (Off.refl _ _)) | exact KEEP0.out _ (Off.trans (‹Off [] w _ ∧ _›).1 (‹Off [] _ _›)) | fail)
      (first
        | (go_at_call 22; with_reducible refine (BothAt.ptaken0 (BothAt.off (SBoth.both HB.out) (‹Off [] w _ ∧ _›).1) H2.out).mono ?_; rintro e w' ⟨a22, c22, rfl, hI22, O22⟩)
        | (go_at_call 61; with_reducible refine (BothAt.dtaken0 (BothAt.off (SBoth.both HB.out) (‹Off [] w _ ∧ _›).1) H2.out).mono ?_; rintro e w' ⟨a61, c61, rfl, hI61, O61⟩)
        | fail)
    all_goals (
      have OF := (‹Off [] w _ ∧ _›).1
      have FIN : Hid (TwoL w w' T (.slice a22 (intsOf T).length c22) (.slice a61 (intsOf T).length c61)) := by
        first
          | exact Lib.hid ⟨OF, _, _, _, _, rfl, rfl, hI22.o O61, hI61⟩
          | exact Lib.hid ⟨OF, _, _, _, _, rfl, rfl, hI22, hI61.o O22⟩
      clear hI22 hI61 O22 O61 OF
      rename_i hh
      clear hh
      go_wp2_with fail
      go_meet
      exact FIN.out)
  case rest =>
    obtain ⟨O1, ta, tcap, ka, kcap, rfl, rfl, hI5, hI6⟩ := hcut
    obtain ⟨tb, tof, hta, htc⟩ := hI5.cells
    obtain ⟨kb, kof, hka, hkc⟩ := hI6.cells
    rw [HTL.out]
    generalize wc = W1 at *
    have OO := Lib.hid O1
    have HTA := Lib.hid hta
    have HTC := Lib.hid htc
    have HKA := Lib.hid hka
    have HKC := Lib.hid hkc
    have HB1 := Lib.hid (HB.out.off O1)
    have KEEP : Hid (∀ w', Off [] W1 w' → Off [] W1 w' ∧ w'.cell? ⟨pb, 0, none⟩ = some (.pointer (some ⟨mb, 0, none⟩)) ∧ w'.cell? ⟨qb, 0, none⟩ = some (.pointer (some ⟨rb, 0, none⟩)) ∧ w'.cell? ⟨rb, 0, none⟩ = some (.int .i64 n) ∧ w'.cell? ⟨rb, 1, none⟩ = some (.slice la T.length lcap)) :=
      Lib.hid (fun w' O => ⟨O, O.cell HB1.out.pptr (by simp), O.cell HB1.out.qptr (by simp), (OO.out.trans O).cell HN.out (by simp), (OO.out.trans O).cell HL.out (by simp)⟩)
    have q2 : IntKind.i64.wrap ((n : Int) - (T.length : Int)) = (n : Int) - (T.length : Int) := by rw [IntKind.wrap_i64]; omega
    have q3 : (M.free == (n : Int) - (T.length : Int)) = true := beq_iff_eq.2 hfree
    clear hI5 hI6 hta htc hka hkc O1
    go_upto_region 2 with fail
    go_cut [81] from 18 to 81 (fun s w' => s = .bool false ∧ Off [] W1 w')
    case first =>
      go_region_held3 (fun w' => Off [] W1 w' ∧ w'.cell? ⟨pb, 0, none⟩ = some (.pointer (some ⟨mb, 0, none⟩)) ∧ w'.cell? ⟨qb, 0, none⟩ = some (.pointer (some ⟨rb, 0, none⟩)) ∧ w'.cell? ⟨rb, 0, none⟩ = some (.int .i64 n) ∧ w'.cell? ⟨rb, 1, none⟩ = some (.slice la T.length lcap))
        (first | with_reducible assumption | with_reducible exact KEEP.out _ (Off.drew (Off.refl _ _)) | with_reducible exact KEEP.out _ (Off.trans (‹Off [] W1 _ ∧ _›).1 (‹Off [] _ _›)) | with_reducible exact KEEP.out _ (Off.alloc (‹Off [] W1 _ ∧ _›).1 _) | fail)
        (first
          | (go_at_call 15; with_reducible refine (BothAt.pfree (SBoth.both (SBoth.off HB1.out (‹Off [] W1 _ ∧ _›).1))).mono ?_; rintro e w' ⟨rfl, rfl⟩)
          | (go_at_call 23; with_reducible refine (BothAt.plimit (SBoth.both (SBoth.off HB1.out (‹Off [] W1 _ ∧ _›).1))).mono ?_; rintro e w' ⟨rfl, rfl⟩)
          | (go_at_call 69; first
              | (with_reducible refine (SBoth.pwords0 (SBoth.off HB1.out (‹Off [] W1 _ ∧ _›).1) H2.out).mono ?_
                 rintro e w' ⟨rfl, O69⟩)
              | (with_reducible refine (SBoth.pwords2 (SBoth.off HB1.out (‹Off [] W1 _ ∧ _›).1) ?_ ?_ HA.out).mono ?_
                 · (first | (simp; done) | exact Off.cell O71 (by simp; done) (by simp))
                 · (first | (simp; done) | exact Off.cell O71 (by simp; done) (by simp))
                 rintro e w' ⟨rfl, O69⟩))
          | (go_at_call 71; first
              | (with_reducible refine (SBoth.dwords0 (SBoth.off HB1.out (‹Off [] W1 _ ∧ _›).1) H2.out).mono ?_
                 rintro e w' ⟨rfl, O71⟩)
              | (with_reducible refine (SBoth.dwords2 (SBoth.off HB1.out (‹Off [] W1 _ ∧ _›).1) ?_ ?_ HA.out).mono ?_
                 · (first | (simp; done) | exact Off.cell O69 (by simp; done) (by simp))
                 · (first | (simp; done) | exact Off.cell O69 (by simp; done) (by simp))
                 rintro e w' ⟨rfl, O71⟩))
          | fail)
      all_goals (
        have OF := Lib.hid (‹Off [] W1 _ ∧ _›).1
        rename_i hh
        clear hh
        go_wp2_with fail
        go_meet
        exact ⟨rfl, OF.out⟩)
    case rest =>
      obtain ⟨rfl, O2⟩ := hcut
      have OO2 := Lib.hid O2
      clear O2 q2 q3
      go_wp2_with fail
      go_loopw [7] (fun i wr => SsOut T W1 i wr) (fun i _ => T.length - (intOf i).toNat)
      case atStart => exact ⟨0, by omega, rfl, OO2.out⟩
      case round =>
        obtain ⟨i, hi, rfl, O3⟩ := hrel
        have OO3 := Lib.hid O3
        by_cases hlt : i < T.length
        · obtain ⟨rfl, _⟩ := HLA.out (by omega)
          cases HTA.out (by omega)
          cases HKA.out (by omega)
          have HB3 := Lib.hid (HB1.out.off OO3.out)
          have kin := getD_mem hlt
          have t0 := HTC.out i hlt
          have kt0 := HKC.out i hlt
          have cells1 := fun j hj => OO.out.cell (HLC.out i j hlt hj).1 (by simp)
          generalize T.getD i 0 = kk at t0 kt0 cells1 kin
          obtain ⟨hkn, hkt⟩ := H2.out.taken kin
          obtain ⟨va, vcap, vg, hV, hva, hvc⟩ := ownsRow_form (H1.out.wrow kk kin)
          have hu := HB.out.both.wf.used kk hkn
          have b1 := cells1 1 (by omega)
          have b2 := cells1 2 (by omega)
          have b3 := cells1 3 (by omega)
          have b4 := cells1 4 (by omega)
          have b5 := cells1 5 (by omega)
          have b6 := cells1 6 (by omega)
          have b7 := cells1 7 (by omega)
          have b8 := cells1 8 (by omega)
          clear cells1
          simp only [cellR] at b1 b2 b3 b4 b5 b6 b7 b8
          rw [hV] at b8
          have HVC : Hid (∀ q : Nat, (q : Int) < (M.S kk).n → W1.cell? ⟨vg, q, none⟩ = some (.int .u64 ((M.S kk).words q)) ∧ va = some ⟨vg, 0, none⟩) := Lib.hid (fun q hq => by
            have h1 := (hvc q (by omega)).1
            rw [wordsR_get M kk q hq] at h1
            exact ⟨OO.out.cell h1 (by simp), (hva (by omega)).1⟩)
          generalize hs : M.S kk = s at *
          obtain ⟨gen, kind, un, e0, e1, e2, e3, tk, ws⟩ := s
          simp only [] at b1 b2 b3 b4 b5 b6 b7 b8 hkt hu
          obtain ⟨u, rfl⟩ : ∃ u : Nat, un = u := ⟨un.toNat, by omega⟩
          simp only [Int.toNat_natCast] at b8
          have HS := Lib.hid hs
          have HTK : Hid (M.isTaken n kk) := Lib.hid ⟨by omega, by omega, by rw [Int.toNat_natCast, hs]; exact hkt⟩
          have hread : Hid (∀ q : Nat, q < u → M.hasWord n (64 * (kk : Int) + q)) := Lib.hid (fun q hq => by
            have e1 : (64 * (kk : Int) + q) / 64 = kk := by omega
            refine ⟨by omega, by rw [e1]; exact HTK.out, ?_⟩
            rw [e1, Int.toNat_natCast, HS.out]
            simp only []
            omega)
          have READ : Hid (∀ (w' : World) (q : Nat), Off [] W1 w' → q < u → Calls Try.prog 21 #[.pointer (some ⟨mb, 0, none⟩), .int .i64 (64 * (kk : Int) + q)] w' fun e w'' => e = .returned (.tuple #[.int .u64 (ws q), .int .i64 0]) ∧ w' = w'') := Lib.hid (fun w' q O hq => by
            refine ((HB1.out.off O).both.pread _ (by omega)).mono ?_
            rintro e w'' ⟨⟨v, s, rfl, hR⟩, rfl⟩
            rcases hR with ⟨rfl, _, rfl⟩ | ⟨_, hno, _⟩
            · rw [show (64 * (kk : Int) + q) / 64 = kk by omega, show (64 * (kk : Int) + q) % 64 = q by omega, Int.toNat_natCast, Int.toNat_natCast, HS.out]
              exact ⟨rfl, rfl⟩
            · exact absurd (hread.out q hq) hno)
          have CE : Hid (∀ w', Off [] W1 w' → (Off [] W1 w' ∧ w'.cell? ⟨tb, tof + i, none⟩ = some (.int .i64 (kk : Int)) ∧ w'.cell? ⟨kb, kof + i, none⟩ = some (.int .i64 (kk : Int)) ∧ w'.cell? ⟨lg, i * 9 + 8, none⟩ = some (.slice va u vcap)) ∧
              (w'.cell? ⟨lg, i * 9 + 1, none⟩ = some (.int .i64 gen) ∧ w'.cell? ⟨lg, i * 9 + 2, none⟩ = some (.int .i64 kind) ∧ w'.cell? ⟨lg, i * 9 + 3, none⟩ = some (.int .i64 (u : Int)) ∧ w'.cell? ⟨lg, i * 9 + 4, none⟩ = some (.int .i64 e0) ∧ w'.cell? ⟨lg, i * 9 + 5, none⟩ = some (.int .i64 e1) ∧
                w'.cell? ⟨lg, i * 9 + 6, none⟩ = some (.int .i64 e2) ∧ w'.cell? ⟨lg, i * 9 + 7, none⟩ = some (.int .i64 e3)) ∧
              (w'.cell? ⟨pb, 0, none⟩ = some (.pointer (some ⟨mb, 0, none⟩)) ∧ w'.cell? ⟨qb, 0, none⟩ = some (.pointer (some ⟨rb, 0, none⟩)) ∧ w'.cell? ⟨rb, 1, none⟩ = some (.slice (some ⟨lg, 0, none⟩) T.length lcap))) :=
            Lib.hid (fun w' O => ⟨⟨O, O.cell t0 (by simp), O.cell kt0 (by simp), O.cell b8 (by simp)⟩, ⟨O.cell b1 (by simp), O.cell b2 (by simp), O.cell b3 (by simp), O.cell b4 (by simp), O.cell b5 (by simp), O.cell b6 (by simp), O.cell b7 (by simp)⟩, (KEEP.out _ O).2.1, (KEEP.out _ O).2.2.1, (KEEP.out _ O).2.2.2.2⟩)
          have q1 : (0 : Int) ≤ (i : Int) := by omega
          have q2 : (i : Int) < (T.length : Int) := by omega
          obtain ⟨⟨_, g1, g2, g3⟩, _, ⟨g4, g5, g6⟩⟩ := CE.out _ O3
          have hsg : ∀ W, Off [] wr W → Calls Try.prog 17 #[.pointer (some ⟨mb, 0, none⟩), .int .i64 (kk : Int)] W fun e w' => e = .returned (.tuple #[.agg #[.int .i64 gen, .int .i64 kind, .int .i64 (u : Int), .int .i64 e0, .int .i64 e1, .int .i64 e2, .int .i64 e3], .bool true]) ∧ Off [] wr w' ∧ Off [] W w' := fun W O => by
            refine (seg_yes' (HB3.out.off O).both.mem HB3.out.n1 kk hkn _ HS.out hkt kk rfl).mono ?_
            rintro e w' ⟨rfl, _, O'⟩
            exact ⟨rfl, O.trans O', O'⟩
          have hsga : Off [] wr (wr.alloc (.cells #[.int .i64 0, .int .i64 0, .int .i64 0, .int .i64 0, .int .i64 0, .int .i64 0, .int .i64 0] 37)).drew → Calls Try.prog 17 #[.pointer (some ⟨mb, 0, none⟩), .int .i64 (kk : Int)] (wr.alloc (.cells #[.int .i64 0, .int .i64 0, .int .i64 0, .int .i64 0, .int .i64 0, .int .i64 0, .int .i64 0] 37)).drew fun e w' =>
              e = .returned (.tuple #[.agg #[.int .i64 gen, .int .i64 kind, .int .i64 (u : Int), .int .i64 e0, .int .i64 e1, .int .i64 e2, .int .i64 e3], .bool true]) ∧ Off [] wr w' ∧ Fresh7 w' wr.heap.size :=
            fun O => (hsg _ O).mono fun _ _ ⟨h, o1, o2⟩ => ⟨h, o1, (Fresh7.new wr 37).off (((Off.refl [] _).drew).trans o2)⟩
          have HSG := Lib.hid hsg
          have HSGA := Lib.hid hsga
          have hO0 : Off [] wr wr := Off.refl _ _
          have KEEP3 : Hid (∀ w', Off [] wr w' → Off [] wr w' ∧ w'.cell? ⟨pb, 0, none⟩ = some (.pointer (some ⟨mb, 0, none⟩)) ∧ w'.cell? ⟨tb, tof + i, none⟩ = some (.int .i64 (kk : Int))) := Lib.hid (fun w' O => ⟨O, (CE.out _ (OO3.out.trans O)).2.2.1, (CE.out _ (OO3.out.trans O)).1.2.1⟩)
          clear hs hva hvc hV kin t0 kt0 b1 b2 b3 b4 b5 b6 b7 b8 hsg hsga O3 HLA
          go_upto_region 7 with fail
          go_cut [8, 9] from 82 to 168 (fun s8 s9 w' => SegV wr w' s8 s9 gen kind (u : Int) e0 e1 e2 e3)
          case first =>
            clear g1 g2 g3 g4 g5 g6
            obtain ⟨Bz, hBz⟩ : ∃ Bz, wr.heap.size = Bz := ⟨_, rfl⟩
            rw [hBz] at HSGA
            go_region_held3 (fun w' => Off [] wr w' ∧ w'.cell? ⟨pb, 0, none⟩ = some (.pointer (some ⟨mb, 0, none⟩)) ∧ w'.cell? ⟨tb, tof + i, none⟩ = some (.int .i64 (kk : Int)))
              (first | with_reducible assumption | with_reducible exact KEEP3.out _ hr | with_reducible exact KEEP3.out _ (Off.set7 hr (Nat.le_of_eq hBz) _ _ _ _ _ _ _) | with_reducible exact KEEP3.out _ (Off.alloc hr _) | exact KEEP3.out _ (Off.alloc hr _) | exact KEEP3.out _ (Off.drew hO0) | exact KEEP3.out _ (Off.drew (Off.alloc hO0 _)) | exact KEEP3.out _ (Off.set7 hr (Nat.le_of_eq hBz) _ _ _ _ _ _ _))
              (first
                | (go_at_call 17; have hS : Off [] wr (wr.alloc (.cells #[.int .i64 0, .int .i64 0, .int .i64 0, .int .i64 0, .int .i64 0, .int .i64 0, .int .i64 0] 37)).drew := (by with_reducible exact (‹Off [] wr (wr.alloc (.cells #[.int .i64 0, .int .i64 0, .int .i64 0, .int .i64 0, .int .i64 0, .int .i64 0, .int .i64 0] 37)).drew ∧ _›).1); refine (HSGA.out hS).mono ?_; rintro e w' ⟨rfl, hr, hf⟩; obtain ⟨⟨b0, b1, b2, b3, b4, b5, b6⟩, f0, f1, f2, f3, f4, f5, f6⟩ := hf.facts; clear hS)
                | (go_at_call 17; refine (HSG.out wr.drew (‹Off [] wr wr.drew ∧ _›).1).mono ?_; rintro e w' ⟨rfl, hr, hp⟩)
                | fail)
            · have FIN := Lib.hid (show SegV wr _ _ _ gen kind (u : Int) e0 e1 e2 e3 from ⟨hr.alloc (.cells #[.int .i64 gen, .int .i64 kind, .int .i64 (u : Int), .int .i64 e0, .int .i64 e1, .int .i64 e2, .int .i64 e3] 37), rfl, _, rfl, Told.new w' 37 gen kind (u : Int) e0 e1 e2 e3⟩)
              clear hr hp
              rename_i hh1
              clear hh1
              go_wp2_with fail
              go_meet
              exact FIN.out
            · have FIN := Lib.hid (show SegV wr _ _ _ gen kind (u : Int) e0 e1 e2 e3 from ⟨Off.set7 hr (Nat.le_of_eq hBz) (.int .i64 gen) (.int .i64 kind) (.int .i64 (u : Int)) (.int .i64 e0) (.int .i64 e1) (.int .i64 e2) (.int .i64 e3), rfl, _, rfl, hf.told.set gen kind (u : Int) e0 e1 e2 e3⟩)
              clear hr hf b0 b1 b2 b3 b4 b5 b6 f0 f1 f2 f3 f4 f5 f6
              rename_i hh1
              clear hh1
              go_wp2_with fail
              go_meet
              exact FIN.out
          case rest =>
            obtain ⟨O4, rfl, sp, rfl, TD⟩ := hcut
            have OO4 := Lib.hid (OO3.out.trans O4)
            have TT := Lib.hid TD
            obtain ⟨⟨_, g1, g2, g3⟩, ⟨r1, r2, r3, r4, r5, r6, r7⟩, ⟨g4, g5, g6⟩⟩ := CE.out _ OO4.out
            obtain ⟨t0, t1, t2, t3, t4, t5, t6⟩ := TD
            clear O4 KEEP3 HSG HSGA hO0
            go_wp2_with fail
            go_quiet (fail)
            go_wp2_with fail
            clear t0 t1 t2 t3 t4 t5 t6 r1 r2 r3 r4 r5 r6 r7 g1 g2 g3 g4 g5 g6
            go_loopw [10] (fun v wq => ∃ q : Nat, q ≤ u ∧ v = .int .i64 q ∧ Off [] W1 wq ∧ wq.cell? ⟨sp, 2, none⟩ = some (.int .i64 (u : Int))) (fun v _ => u - (intOf v).toNat)
            case atStart => exact ⟨0, by omega, rfl, OO4.out.drewN _, TT.out.t2⟩
            case round =>
              obtain ⟨q, hq, rfl, O6, s2⟩ := hrel
              have OO6 := Lib.hid O6
              obtain ⟨⟨_, g1, g2, g3⟩, _, ⟨g4, g5, g6⟩⟩ := CE.out _ O6
              have S2 := Lib.hid s2
              clear O6
              have q3 : (0 : Int) ≤ (q : Int) := by omega
              have q4 : (q : Int) ≤ (u : Int) := by omega
              by_cases hql : q < u
              · obtain ⟨hvq, rfl⟩ := HVC.out q (by omega)
                have v1 := OO6.out.cell hvq (by simp)
                have q5 : (q : Int) < (u : Int) := by omega
                have q6 : IntKind.i64.wrap (64 * (kk : Int)) = 64 * (kk : Int) := by rw [IntKind.wrap_i64]; omega
                have q7 : IntKind.i64.wrap (64 * (kk : Int) + (q : Int)) = 64 * (kk : Int) + (q : Int) := by rw [IntKind.wrap_i64]; omega
                clear hvq
                go_wp2_with fail
                go_quiet ((go_at_call 21; exact qleft (READ.out _ q (OO6.out.drewN _) hql)))
                go_wp2_with fail
                go_roundw
                case rel => exact ⟨q + 1, by omega, by go_num, OO6.out.drewN _, S2.out⟩
                case measure => simp [intOf]; omega
              · obtain rfl : q = u := by omega
                go_wp2_with fail
                go_roundw
                case rel => first | exact ⟨i + 1, by omega, by go_num, OO6.out⟩ | ((repeat apply Exists.intro); exact ⟨⟨i + 1, by omega, by go_num, OO6.out⟩, rfl⟩)
                case measure => simp [intOf]; omega
        · obtain rfl : i = T.length := by omega
          clear O3
          go_wp2_with fail
          go_loopw [13] (fun v wr => SsGen W1 v wr) (fun v _ => (6 - intOf v).toNat)
          case atStart => exact ⟨-1, by omega, by omega, rfl, OO3.out⟩
          case round =>
            obtain ⟨g, hg0, hg1, rfl, O4⟩ := hrel
            have OO4 := Lib.hid O4
            clear O4
            by_cases g5 : g ≤ 5
            · go_wp2_with fail
              go_loopw [14] (fun v wr => ∃ k : Int, -1 ≤ k ∧ k ≤ 5 ∧ v = .int .i64 k ∧ Off [] W1 wr) (fun v _ => (5 - intOf v).toNat)
              case atStart => exact ⟨-1, by omega, by omega, rfl, OO4.out⟩
              case round =>
                obtain ⟨k, hk0, hk1, rfl, O5⟩ := hrel
                have OO5 := Lib.hid O5
                have p1 := (KEEP.out _ O5).2.2.1
                clear O5
                by_cases k4 : k ≤ 4
                · by_cases a1 : g < 0
                  · have a1' : decide (0 ≤ g) = false := decide_eq_false (by omega)
                    have CU := Lib.hid (cur_out (HB1.out.off OO5.out).space g k (by omega))
                    clear p1
                    go_wp2_with fail
                    refine CU.out.mono ?_
                    rintro e w6 ⟨rfl, rfl⟩
                    go_wp2_with fail
                    go_roundw
                    case rel => exact ⟨k + 1, by omega, by omega, by go_num, OO5.out⟩
                    case measure => simp [intOf]; omega
                  · have a1' : decide (0 ≤ g) = true := decide_eq_true (by omega)
                    by_cases a2 : 4 < g
                    · have a2' : decide (g ≤ 4) = false := decide_eq_false (by omega)
                      have CU := Lib.hid (cur_out (HB1.out.off OO5.out).space g k (by omega))
                      clear p1
                      go_wp2_with fail
                      refine CU.out.mono ?_
                      rintro e w6 ⟨rfl, rfl⟩
                      go_wp2_with fail
                      go_roundw
                      case rel => exact ⟨k + 1, by omega, by omega, by go_num, OO5.out⟩
                      case measure => simp [intOf]; omega
                    · have a2' : decide (g ≤ 4) = true := decide_eq_true (by omega)
                      by_cases a3 : k < 0
                      · have a3' : decide (0 ≤ k) = false := decide_eq_false (by omega)
                        have CU := Lib.hid (cur_out (HB1.out.off OO5.out).space g k (by omega))
                        clear p1
                        go_wp2_with fail
                        refine CU.out.mono ?_
                        rintro e w6 ⟨rfl, rfl⟩
                        go_wp2_with fail
                        go_roundw
                        case rel => exact ⟨k + 1, by omega, by omega, by go_num, OO5.out⟩
                        case measure => simp [intOf]; omega
                      · have a3' : decide (0 ≤ k) = true := decide_eq_true (by omega)
                        by_cases a4 : 3 < k
                        · have a4' : decide (k ≤ 3) = false := decide_eq_false (by omega)
                          have CU := Lib.hid (cur_out (HB1.out.off OO5.out).space g k (by omega))
                          clear p1
                          go_wp2_with fail
                          refine CU.out.mono ?_
                          rintro e w6 ⟨rfl, rfl⟩
                          go_wp2_with fail
                          go_roundw
                          case rel => exact ⟨k + 1, by omega, by omega, by go_num, OO5.out⟩
                          case measure => simp [intOf]; omega
                        · have a4' : decide (k ≤ 3) = true := decide_eq_true (by omega)
                          obtain ⟨g', rfl⟩ : ∃ g' : Nat, g = g' := ⟨g.toNat, by omega⟩
                          obtain ⟨k', rfl⟩ : ∃ k' : Nat, k = k' := ⟨k.toNat, by omega⟩
                          have cc := (HB1.out.off OO5.out).qcur (g' * 4 + k') (by omega)
                          rw [← Nat.add_assoc] at cc
                          have hran := HB1.out.okC.ran (g' * 4 + k') (by omega)
                          have z0 : (0 : Int) ≤ (g' : Int) := by omega
                          have z1 : (g' : Int) < 5 := by omega
                          have z2 : (0 : Int) ≤ (k' : Int) := by omega
                          have z3 : (k' : Int) < 4 := by omega
                          by_cases hz : C (g' * 4 + k') = 0
                          · have CU := Lib.hid (cur_zero (HB1.out.off OO5.out).space HB1.out.n1 g' k' (by omega) (by omega) hz)
                            rw [hz, show (0 : Int) - 1 = -1 from rfl] at cc
                            clear hz hran
                            go_wp2_with fail
                            refine CU.out.mono ?_
                            rintro e w6 ⟨rfl, rfl⟩
                            go_wp2_with fail
                            go_roundw
                            case rel => exact ⟨(k' : Int) + 1, by omega, by omega, by go_num, OO5.out⟩
                            case measure => simp [intOf]; omega
                          · have CU := Lib.hid (cur_yes (HB1.out.off OO5.out).space HB1.out.n1 g' k' (by omega) (by omega) hz)
                            have y1 : decide (0 ≤ C (g' * 4 + k') - 1) = true := decide_eq_true (by omega)
                            generalize C (g' * 4 + k') - 1 = y at *
                            clear hz hran
                            go_wp2_with fail
                            refine CU.out.mono ?_
                            rintro e w6 ⟨rfl, rfl⟩
                            go_wp2_with fail
                            go_roundw
                            case rel => exact ⟨(k' : Int) + 1, by omega, by omega, by go_num, OO5.out⟩
                            case measure => simp [intOf]; omega
                · obtain rfl : k = 5 := by omega
                  clear p1
                  go_wp2_with fail
                  go_roundw
                  case rel => first | exact ⟨g + 1, by omega, by omega, by go_num, OO5.out⟩ | ((repeat apply Exists.intro); exact ⟨⟨g + 1, by omega, by omega, by go_num, OO5.out⟩, rfl⟩)
                  case measure => simp [intOf]; omega
            · obtain rfl : g = 6 := by omega
              go_wp2_with fail
              go_ret
              exact ⟨rfl, OO.out.trans OO4.out⟩
end
end Go.Proofs.Ytoafoodgomnfeaa
