/-
  YtoafoodgomnfeaaStands: both memories say the same of all segments, and of all words.
-/
import Derived.Test.YtoafoodgomnfeaaDoes
import Derived.Test.YtoafoodgomnfeaaEqSeg
import Derived.Deep.CutRange
namespace Go.Proofs.Ytoafoodgomnfeaa
open Go.RowKit
set_option linter.unusedVariables false

theorem flT_freeN (M : MemS) (n : Nat) : (flT M [] n).length + freeN M.S n = n := by
  induction n with
  | zero => rfl
  | succ n ih =>
    rw [flT_succ]
    simp only [freeN]
    by_cases h : (M.S n).taken = 0
    · rw [selB_free h]; simp [h]; omega
    · rw [selB_all h]; simp [h]; omega
theorem TakenIs.free {M : MemS} {n c : Nat} {T : List Nat} (hT : TakenIs M n [] T) (W : Wf n M c) : M.free = (n : Int) - (T.length : Int) := by
  have := W.free
  have h1 := flT_freeN M n
  have h2 := hT.perm.length_eq
  omega

theorem IntsAt.o {B : Nat} {w w' : World} {v : Value} {T : List Int} (h : IntsAt B w v T) (O : Off [] w w') : IntsAt B w' v T := h.off O (by simp)
theorem IntsAt.a {B : Nat} {w : World} {v : Value} {T : List Int} (h : IntsAt B w v T) (o : Obj) : IntsAt B (w.alloc o) v T := h.o ((Off.refl _ _).alloc o)
theorem IntsAt.zero {B : Nat} {w : World} {v : Value} {T : List Int} (h : IntsAt B w v T) : IntsAt 0 w v T := by
  rcases h with h | ⟨b, o, cap, hb, hv, hc⟩
  · exact .inl h
  · exact .inr ⟨b, o, cap, Nat.zero_le _, hv, hc⟩
theorem IntsAt.len {B : Nat} {w : World} {v : Value} {T : List Int} (h : IntsAt B w v T) : ∃ a cap, v = .slice a T.length cap := by
  rcases h with ⟨h, rfl⟩ | ⟨b, o, cap, hb, hv, hc⟩
  · exact ⟨none, 0, h⟩
  · exact ⟨_, _, hv⟩
theorem ints_nil (w : World) : IntsAt 0 w (.slice none ([] : List Int).length 0) [] := .inl ⟨rfl, rfl⟩
theorem ints_two {w : World} {B : Nat} {x y : Int} (h0 : w.cell? ⟨B, 0, none⟩ = some (.int .i64 x)) (h1 : w.cell? ⟨B, 1, none⟩ = some (.int .i64 y)) : IntsAt 0 w (.slice (some ⟨B, 0, none⟩) [x, y].length 2) [x, y] :=
  .inr ⟨B, 0, 2, Nat.zero_le _, rfl, fun i hi => by
    match i, hi with
    | 0, _ => exact h0
    | 1, _ => exact h1⟩
theorem ints_one {w : World} {B : Nat} {x : Int} (h0 : w.cell? ⟨B, 0, none⟩ = some (.int .i64 x)) : IntsAt 0 w (.slice (some ⟨B, 0, none⟩) [x].length 1) [x] :=
  .inr ⟨B, 0, 1, Nat.zero_le _, rfl, fun i hi => by
    match i, hi with
    | 0, _ => exact h0⟩
theorem intsOf_len (T : List Nat) : (intsOf T).length = T.length := by simp [intsOf]

theorem qadd {P : Program} {f : FuncId} {args : Array Value} {w : World} {a n : Nat} {v : Value}
    (h : Calls P f args (w.drewN (a + n)) fun e w' => e = .returned v ∧ w.drewN (a + n) = w') :
    Calls P f args (w.drewN (a + n)) fun e w'' => e = .returned v ∧ ∃ m, w'' = w.drewN (a + m) :=
  h.mono fun _ _ ⟨he, hm⟩ => ⟨he, n, hm.symm⟩
theorem qleft {P : Program} {f : FuncId} {args : Array Value} {w : World} {n : Nat} {v : Value}
    (h : Calls P f args (w.drewN n) fun e w' => e = .returned v ∧ w.drewN n = w') : Calls P f args (w.drewN n) fun e w'' => e = .returned v ∧ ∃ m, w'' = w.drewN m :=
  h.mono fun _ _ ⟨he, hm⟩ => ⟨he, n, hm.symm⟩

theorem ints_same {w : World} {a b : Option Addr} {ca cb : Nat} {A : List Int} (ha : IntsAt 0 w (.slice a A.length ca) A) (hc : IntsAt 0 w (.slice b A.length cb) A) (hA : A.length ≤ 4096) :
    Calls Try.prog 60 #[.slice a A.length ca, .slice b A.length cb] w fun e w' => e = .returned (.bool true) ∧ Off [] w w' := by
  refine (ints_any ha hc hA hA).mono ?_
  rintro e w' ⟨rfl, q, rfl⟩
  exact ⟨by simp, (Off.refl _ _).drewN q⟩

section
variable {w : World} {mb sb rb n c : Nat} {M R : MemS} {X : List Nat} (h : BothAt w mb sb rb n M R c X)
include h
theorem BothAt.ptaken {g : Option Addr} {gc : Nat} (G : List Int) (hG : G.length ≤ 4096) (hg : IntsAt 0 w (.slice g G.length gc) G) {T : List Nat} (hT : TakenIs M n G T) :
    Calls Try.prog 22 #[.pointer (some ⟨mb, 0, none⟩), .slice g G.length gc] w fun e w' => ∃ a cap, e = .returned (.slice a (intsOf T).length cap) ∧ IntsAt 0 w' (.slice a (intsOf T).length cap) (intsOf T) ∧ Off [] w w' := by
  refine (taken_any h.mem h.wf h.n0 h.n1 g gc G hG hg).mono ?_
  rintro e w' ⟨v, T', rfl, hT', hI, O⟩
  rw [hT'.unique hT] at hI
  obtain ⟨a, cap, rfl⟩ := hI.len
  exact ⟨a, cap, rfl, hI.zero, O⟩
theorem BothAt.dtaken {g : Option Addr} {gc : Nat} (G : List Int) (hG : G.length ≤ 4096) (hg : IntsAt 0 w (.slice g G.length gc) G) {T : List Nat} (hT : TakenIs R n G T) :
    Calls Try.prog 61 #[.pointer (some ⟨rb, 0, none⟩), .slice g G.length gc] w fun e w' => ∃ a cap, e = .returned (.slice a (intsOf T).length cap) ∧ IntsAt 0 w' (.slice a (intsOf T).length cap) (intsOf T) ∧ Off [] w w' := by
  obtain ⟨T0, V, v, h1, h2, h3⟩ := h.ref
  refine (rtaken_all h1 h2 h.n1 g gc G hG hg hT).mono ?_
  rintro e w' ⟨v', rfl, hI, O⟩
  obtain ⟨a, cap, rfl⟩ := hI.len
  exact ⟨a, cap, rfl, hI.zero, O⟩
theorem BothAt.ptaken0 {T : List Nat} (hT : TakenIs M n [] T) :
    Calls Try.prog 22 #[.pointer (some ⟨mb, 0, none⟩), .slice none 0 0] w fun e w' => ∃ a cap, e = .returned (.slice a (intsOf T).length cap) ∧ IntsAt 0 w' (.slice a (intsOf T).length cap) (intsOf T) ∧ Off [] w w' :=
  h.ptaken [] (by simp) (ints_nil w) hT
theorem BothAt.ptaken2 {B : Nat} {x y : Int} (h0 : w.cell? ⟨B, 0, none⟩ = some (.int .i64 x)) (h1 : w.cell? ⟨B, 1, none⟩ = some (.int .i64 y)) {T : List Nat} (hT : TakenIs M n [x, y] T) :
    Calls Try.prog 22 #[.pointer (some ⟨mb, 0, none⟩), .slice (some ⟨B, 0, none⟩) 2 2] w fun e w' => ∃ a cap, e = .returned (.slice a (intsOf T).length cap) ∧ IntsAt 0 w' (.slice a (intsOf T).length cap) (intsOf T) ∧ Off [] w w' :=
  h.ptaken [x, y] (by simp) (ints_two h0 h1) hT
theorem BothAt.ptaken1 {B : Nat} {x : Int} (h0 : w.cell? ⟨B, 0, none⟩ = some (.int .i64 x)) {T : List Nat} (hT : TakenIs M n [x] T) :
    Calls Try.prog 22 #[.pointer (some ⟨mb, 0, none⟩), .slice (some ⟨B, 0, none⟩) 1 1] w fun e w' => ∃ a cap, e = .returned (.slice a (intsOf T).length cap) ∧ IntsAt 0 w' (.slice a (intsOf T).length cap) (intsOf T) ∧ Off [] w w' :=
  h.ptaken [x] (by simp) (ints_one h0) hT
theorem BothAt.dtaken0 {T : List Nat} (hT : TakenIs R n [] T) :
    Calls Try.prog 61 #[.pointer (some ⟨rb, 0, none⟩), .slice none 0 0] w fun e w' => ∃ a cap, e = .returned (.slice a (intsOf T).length cap) ∧ IntsAt 0 w' (.slice a (intsOf T).length cap) (intsOf T) ∧ Off [] w w' :=
  h.dtaken [] (by simp) (ints_nil w) hT
theorem BothAt.dtaken2 {B : Nat} {x y : Int} (h0 : w.cell? ⟨B, 0, none⟩ = some (.int .i64 x)) (h1 : w.cell? ⟨B, 1, none⟩ = some (.int .i64 y)) {T : List Nat} (hT : TakenIs R n [x, y] T) :
    Calls Try.prog 61 #[.pointer (some ⟨rb, 0, none⟩), .slice (some ⟨B, 0, none⟩) 2 2] w fun e w' => ∃ a cap, e = .returned (.slice a (intsOf T).length cap) ∧ IntsAt 0 w' (.slice a (intsOf T).length cap) (intsOf T) ∧ Off [] w w' :=
  h.dtaken [x, y] (by simp) (ints_two h0 h1) hT
theorem BothAt.dtaken1 {B : Nat} {x : Int} (h0 : w.cell? ⟨B, 0, none⟩ = some (.int .i64 x)) {T : List Nat} (hT : TakenIs R n [x] T) :
    Calls Try.prog 61 #[.pointer (some ⟨rb, 0, none⟩), .slice (some ⟨B, 0, none⟩) 1 1] w fun e w' => ∃ a cap, e = .returned (.slice a (intsOf T).length cap) ∧ IntsAt 0 w' (.slice a (intsOf T).length cap) (intsOf T) ∧ Off [] w w' :=
  h.dtaken [x] (by simp) (ints_one h0) hT
theorem BothAt.plimit : Calls Try.prog 23 #[.pointer (some ⟨mb, 0, none⟩)] w fun e w' => e = .returned (.int .i64 n) ∧ w = w' := limit_any mb n _ _ w h.mem.segs
theorem BothAt.pfree : Calls Try.prog 15 #[.pointer (some ⟨mb, 0, none⟩)] w fun e w' => e = .returned (.int .i64 M.free) ∧ w = w' := free_any mb _ w h.mem.free
end

section
variable {w : World} {mb sb rb n c : Nat} {M : MemS} {X : List Nat}
set_option maxRecDepth 100000 in
set_option maxHeartbeats 4000000 in
theorem stands_true (h : BothAt w mb sb rb n M M c X) :
    Calls Try.prog 25 #[.pointer (some ⟨mb, 0, none⟩), .pointer (some ⟨rb, 0, none⟩)] w fun e w' => e = .returned (.bool true) ∧ Off [] w w' := by
  obtain ⟨T, V, v, h1, h2, h3⟩ := h.ref
  have hT02 := h2.gen [0, 2]
  have hT4 := h2.gen [4]
  have hTn := h2.len
  have n1 := h.n1
  have hfree := h2.free h.wf
  obtain ⟨la, lcap, lg, hv0, hla, hlc⟩ := h1.form
  have hl := h1.l
  have hN := h1.n0
  rw [hv0] at hl
  generalize hA : T.filter (genB M [0, 2]) = A at hT02
  generalize hC : T.filter (genB M [4]) = C at hT4
  have hAn := hT02.len
  have hCn := hT4.len
  have HB := Lib.hid h
  have H1 := Lib.hid h1
  have H2 := Lib.hid h2
  have HA := Lib.hid hT02
  have HC := Lib.hid hT4
  have HLC := Lib.hid hlc
  have HLA := Lib.hid hla
  have HL := Lib.hid hl
  have HN := Lib.hid hN
  clear h h1 h2 h3 hT02 hT4 hlc hla hv0 hA hC hl hN
  go_enter Try.func25, Try.ntmps25
  go_wp2_with fail
  refine (HB.out.ptaken [] (by simp) (ints_nil w) H2.out).mono ?_
  rintro e W1 ⟨ta, tcap, rfl, hI, O1⟩
  have HI := Lib.hid hI
  have OO := Lib.hid O1
  have keep : ∀ w', Off [] W1 w' → Off [] W1 w' ∧ w'.cell? ⟨rb, 0, none⟩ = some (.int .i64 n) ∧ w'.cell? ⟨rb, 1, none⟩ = some (.slice la T.length lcap) := fun w' O => ⟨O, (O1.trans O).cell HN.out (by simp), (O1.trans O).cell HL.out (by simp)⟩
  have HB1 := Lib.hid (HB.out.off O1)
  have q1 : ((n : Int) == (n : Int)) = true := beq_self_eq_true _
  have q2 : IntKind.i64.wrap ((n : Int) - (T.length : Int)) = (n : Int) - (T.length : Int) := by rw [IntKind.wrap_i64]; omega
  have q3 : (M.free == (n : Int) - (T.length : Int)) = true := beq_iff_eq.2 hfree
  clear hI O1
  go_upto_region 2 with fail
  go_cut [68] from 18 to 68 (fun s w' => s = .bool false ∧ Off [] W1 w')
  case first =>
    have KEEP : Hid (∀ w', Off [] W1 w' → Off [] W1 w' ∧ w'.cell? ⟨rb, 0, none⟩ = some (.int .i64 n) ∧ w'.cell? ⟨rb, 1, none⟩ = some (.slice la T.length lcap)) := Lib.hid keep
    clear keep
    go_region_held3 (fun w' => Off [] W1 w' ∧ w'.cell? ⟨rb, 0, none⟩ = some (.int .i64 n) ∧ w'.cell? ⟨rb, 1, none⟩ = some (.slice la T.length lcap))
      (first | with_reducible assumption | with_reducible exact KEEP.out _ (Off.drew (Off.refl _ _)) | with_reducible exact KEEP.out _ (Off.trans (‹Off [] W1 _ ∧ _›).1 (‹Off [] _ _›)) | with_reducible exact KEEP.out _ (Off.alloc (‹Off [] W1 _ ∧ _›).1 _) | fail)
      (first
        | (go_at_call 23; refine (BothAt.plimit (BothAt.off HB1.out (‹Off [] W1 _ ∧ _›).1)).mono ?_; rintro e w' ⟨rfl, rfl⟩)
        | (go_at_call 15; refine (BothAt.pfree (BothAt.off HB1.out (‹Off [] W1 _ ∧ _›).1)).mono ?_; rintro e w' ⟨rfl, rfl⟩)
        | (go_at_call 61; first
            | (with_reducible refine (BothAt.dtaken0 (BothAt.off HB1.out (‹Off [] W1 _ ∧ _›).1) H2.out).mono ?_
               rintro e w' ⟨a61, ca61, rfl, hI61, O61⟩)
            | (with_reducible refine (BothAt.dtaken2 (BothAt.off HB1.out (‹Off [] W1 _ ∧ _›).1) ?_ ?_ HA.out).mono ?_
               · (first | (simp; done) | exact Off.cell O22 (by simp; done) (by simp))
               · (first | (simp; done) | exact Off.cell O22 (by simp; done) (by simp))
               rintro e w' ⟨a61, ca61, rfl, hI61, O61⟩)
            | (with_reducible refine (BothAt.dtaken1 (BothAt.off HB1.out (‹Off [] W1 _ ∧ _›).1) ?_ HC.out).mono ?_
               · (first | (simp; done) | exact Off.cell O22 (by simp; done) (by simp))
               rintro e w' ⟨a61, ca61, rfl, hI61, O61⟩)
          )
        | (go_at_call 22; first
            | (with_reducible refine (BothAt.ptaken2 (BothAt.off HB1.out (‹Off [] W1 _ ∧ _›).1) ?_ ?_ HA.out).mono ?_
               · (first | (simp; done) | exact Off.cell O61 (by simp; done) (by simp))
               · (first | (simp; done) | exact Off.cell O61 (by simp; done) (by simp))
               rintro e w' ⟨a22, ca22, rfl, hI22, O22⟩)
            | (with_reducible refine (BothAt.ptaken1 (BothAt.off HB1.out (‹Off [] W1 _ ∧ _›).1) ?_ HC.out).mono ?_
               · (first | (simp; done) | exact Off.cell O61 (by simp; done) (by simp))
               rintro e w' ⟨a22, ca22, rfl, hI22, O22⟩)
          )
        | (go_at_call 60; first
            | (with_reducible refine (ints_same (IntsAt.o HI.out (‹Off [] W1 _ ∧ _›).1) hI61 (by rw [intsOf_len]; omega)).mono ?_; rintro e w' ⟨rfl, O60⟩)
            | (with_reducible refine (ints_same (IntsAt.o hI22 O61) hI61 (by rw [intsOf_len]; omega)).mono ?_; rintro e w' ⟨rfl, O60⟩)
            | (with_reducible refine (ints_same (IntsAt.o (IntsAt.a hI22 _) O61) hI61 (by rw [intsOf_len]; omega)).mono ?_; rintro e w' ⟨rfl, O60⟩)
            | (with_reducible refine (ints_same hI22 (IntsAt.o hI61 O22) (by rw [intsOf_len]; omega)).mono ?_; rintro e w' ⟨rfl, O60⟩)
            | (with_reducible refine (ints_same hI22 (IntsAt.o (IntsAt.a hI61 _) O22) (by rw [intsOf_len]; omega)).mono ?_; rintro e w' ⟨rfl, O60⟩)
          )
        | fail)
    all_goals (
      have OF := Lib.hid (‹Off [] W1 _ ∧ _›).1
      rename_i hh
      clear hh
      go_wp2_with fail
      go_meet
      exact ⟨rfl, OF.out⟩)
  case rest =>
    obtain ⟨rfl, O2⟩ := hcut
    have OO2 := Lib.hid O2
    obtain ⟨_, k0, k1⟩ := keep _ O2
    clear O2 q1 q2 q3
    go_wp2_with fail
    go_loopw [6] (fun i wr => ∃ k : Nat, k ≤ T.length ∧ i = .int .i64 k ∧ Off [] W1 wr) (fun i _ => T.length - (intOf i).toNat)
    case atStart => exact ⟨0, by omega, rfl, OO2.out⟩
    case round =>
      obtain ⟨k, hk, rfl, O3⟩ := hrel
      have OO3 := Lib.hid O3
      obtain ⟨_, k0, k1⟩ := keep _ O3
      have KEEP := Lib.hid keep
      clear O3 keep
      by_cases hlt : k < T.length
      · obtain ⟨rfl, _⟩ := HLA.out (by omega)
        have HB3 := Lib.hid (HB1.out.off OO3.out)
        have cells1 := fun j hj => OO.out.cell (HLC.out k j hlt hj).1 (by simp)
        have cells := fun j hj => OO3.out.cell (cells1 j hj) (by simp)
        have kin := getD_mem hlt
        generalize hkk : T.getD k 0 = kk at cells cells1 kin
        have KK := Lib.hid hkk
        obtain ⟨hkn, hks⟩ := (H2.out.mem kk).1 kin
        have hkt : (M.S kk).taken ≠ 0 := by simpa [selB] using hks
        have KIN := Lib.hid kin
        obtain ⟨va, vcap, vg, hV, hva, hvc⟩ := ownsRow_form (H1.out.wrow kk kin)
        have hu := HB.out.wf.used kk hkn
        have c0 := cells 0 (by omega)
        have c1 := cells 1 (by omega)
        have c2 := cells 2 (by omega)
        have c3 := cells 3 (by omega)
        have c4 := cells 4 (by omega)
        have c5 := cells 5 (by omega)
        have c6 := cells 6 (by omega)
        have c7 := cells 7 (by omega)
        have c8 := cells 8 (by omega)
        have B0 := cells1 0 (by omega)
        have B8 := cells1 8 (by omega)
        clear cells1
        simp only [cellR, Nat.add_zero] at c0 c1 c2 c3 c4 c5 c6 c7 c8 B0 B8
        rw [hV] at c8 B8
        have HVC : Hid (∀ q : Nat, (q : Int) < (M.S kk).n → W1.cell? ⟨vg, q, none⟩ = some (.int .u64 ((M.S kk).words q)) ∧ va = some ⟨vg, 0, none⟩) := Lib.hid (fun q hq => by
          have h1 := (hvc q (by omega)).1
          rw [wordsR_get M kk q hq] at h1
          exact ⟨OO.out.cell h1 (by simp), (hva (by omega)).1⟩)
        generalize hs : M.S kk = s at *
        obtain ⟨gen, kind, un, e0, e1, e2, e3, tk, ws⟩ := s
        simp only [] at c0 c1 c2 c3 c4 c5 c6 c7 c8 hkt hu
        obtain ⟨u, rfl⟩ : ∃ u : Nat, un = u := ⟨un.toNat, by omega⟩
        simp only [Int.toNat_natCast] at c8 B8
        have hTk : M.isTaken n kk := ⟨by omega, by omega, by rw [Int.toNat_natCast, hs]; exact hkt⟩
        have HTK := Lib.hid hTk
        have HS := Lib.hid hs
        have hread : Hid (∀ q : Nat, q < u → M.hasWord n ((kk : Int) * 64 + q)) := Lib.hid (fun q hq => by
          have e1 : ((kk : Int) * 64 + q) / 64 = kk := by omega
          refine ⟨by omega, by rw [e1]; exact HTK.out, ?_⟩
          rw [e1, Int.toNat_natCast, HS.out]
          simp only []
          omega)
        have hno : Hid (u < 64 → ¬ M.hasWord n ((kk : Int) * 64 + u)) := Lib.hid (fun hu64 hh => by
          have e1 : ((kk : Int) * 64 + u) / 64 = kk := by omega
          have := hh.2.2
          rw [e1, Int.toNat_natCast, HS.out] at this
          simp only [] at this
          omega)
        have READ : Hid (∀ (w' : World) (q : Nat), Off [] W1 w' → q < u → Calls Try.prog 21 #[.pointer (some ⟨mb, 0, none⟩), .int .i64 ((kk : Int) * 64 + q)] w' fun e w'' => e = .returned (.tuple #[.int .u64 (ws q), .int .i64 0]) ∧ w' = w'') := Lib.hid (fun w' q O hq => by
          refine ((HB1.out.off O).pread _ (by omega)).mono ?_
          rintro e w'' ⟨⟨v, s, rfl, hR⟩, rfl⟩
          rcases hR with ⟨rfl, _, rfl⟩ | ⟨_, hno, _⟩
          · rw [show ((kk : Int) * 64 + q) / 64 = kk by omega, show ((kk : Int) * 64 + q) % 64 = q by omega, Int.toNat_natCast, Int.toNat_natCast, HS.out]
            exact ⟨rfl, rfl⟩
          · exact absurd (hread.out q hq) hno)
        have NREAD : Hid (∀ (w' : World), Off [] W1 w' → u < 64 → Calls Try.prog 21 #[.pointer (some ⟨mb, 0, none⟩), .int .i64 ((kk : Int) * 64 + u)] w' fun e w'' => e = .returned (.tuple #[.int .u64 0, .int .i64 18]) ∧ w' = w'') := Lib.hid (fun w' O hq => by
          refine ((HB1.out.off O).pread _ (by omega)).mono ?_
          rintro e w'' ⟨⟨v, s, rfl, hR⟩, rfl⟩
          rcases hR with ⟨_, hyes, _⟩ | ⟨rfl, _, rfl⟩
          · exact absurd hyes (hno.out hq)
          · exact ⟨rfl, rfl⟩)
        have OREAD : Hid (∃ rv rs : Int, ∀ (w' : World), Off [] W1 w' → Calls Try.prog 21 #[.pointer (some ⟨mb, 0, none⟩), .int .i64 ((kk : Int) * 64 + u)] w' fun e w'' => e = .returned (.tuple #[.int .u64 rv, .int .i64 rs]) ∧ w' = w'') := Lib.hid (by
          have ex : ∃ rv rs : Int, ReadIs n M ((kk : Int) * 64 + u) rv rs := by
            by_cases hh : M.hasWord n ((kk : Int) * 64 + u)
            · exact ⟨_, 0, .inl ⟨rfl, hh, rfl⟩⟩
            · exact ⟨0, 18, .inr ⟨rfl, hh, rfl⟩⟩
          obtain ⟨rv, rs, hx⟩ := ex
          refine ⟨rv, rs, fun w' O => ?_⟩
          refine ((HB1.out.off O).pread _ (by omega)).mono ?_
          rintro e w'' ⟨⟨v, s, rfl, hR⟩, rfl⟩
          obtain ⟨rfl, rfl⟩ := hx.one hR
          exact ⟨rfl, rfl⟩)
        have CE : Hid (∀ w', Off [] W1 w' → w'.cell? ⟨lg, k * 9, none⟩ = some (.int .i64 (kk : Int)) ∧ w'.cell? ⟨lg, k * 9 + 8, none⟩ = some (.slice va u vcap)) := Lib.hid (fun w' O => ⟨O.cell B0 (by simp), O.cell B8 (by simp)⟩)
        clear cells kin hvc hva hV hs hkk hks HLA hTk B0 B8
        have q1 : (0 : Int) ≤ (k : Int) := by omega
        have q2 : (k : Int) < (T.length : Int) := by omega
        go_wp2_with fail
        refine (seg_yes' HB3.out.mem HB3.out.n1 kk hkn _ HS.out hkt kk rfl).mono ?_
        rintro e w4 ⟨rfl, _, O4⟩
        have OO4 := Lib.hid (OO3.out.trans O4)
        go_wp2_with fail
        have O5 := O4.alloc (.cells #[.int .i64 gen, .int .i64 kind, .int .i64 (u : Int), .int .i64 e0, .int .i64 e1, .int .i64 e2, .int .i64 e3] 37)
        have OO5 := Lib.hid (OO4.out.alloc (.cells #[.int .i64 gen, .int .i64 kind, .int .i64 (u : Int), .int .i64 e0, .int .i64 e1, .int .i64 e2, .int .i64 e3] 37))
        have d0 := O5.cell c0 (by simp)
        have d1 := O5.cell c1 (by simp)
        have d2 := O5.cell c2 (by simp)
        have d3 := O5.cell c3 (by simp)
        have d4 := O5.cell c4 (by simp)
        have d5 := O5.cell c5 (by simp)
        have d6 := O5.cell c6 (by simp)
        have d7 := O5.cell c7 (by simp)
        have d8 := O5.cell c8 (by simp)
        obtain ⟨_, l0, l1⟩ := KEEP.out _ OO5.out
        have hA : (w4.alloc (.cells #[.int .i64 gen, .int .i64 kind, .int .i64 (u : Int), .int .i64 e0, .int .i64 e1, .int .i64 e2, .int .i64 e3] 37)).heap[w4.heap.size]? = some _ := Array.getElem?_push_size
        have s0 := cell_of_row _ _ 0 _ _ _ hA
        have s1 := cell_of_row _ _ 1 _ _ _ hA
        have s2 := cell_of_row _ _ 2 _ _ _ hA
        have s3 := cell_of_row _ _ 3 _ _ _ hA
        have s4 := cell_of_row _ _ 4 _ _ _ hA
        have s5 := cell_of_row _ _ 5 _ _ _ hA
        have s6 := cell_of_row _ _ 6 _ _ _ hA
        simp only [List.getElem?_toArray, List.getElem?_cons_zero, List.getElem?_cons_succ] at s0 s1 s2 s3 s4 s5 s6
        clear c0 c1 c2 c3 c4 c5 c6 c7 c8 k0 k1 O4 hA O5 OO4 OO3 HB3
        generalize w4.alloc (.cells #[.int .i64 gen, .int .i64 kind, .int .i64 (u : Int), .int .i64 e0, .int .i64 e1, .int .i64 e2, .int .i64 e3] 37) = w5 at *
        generalize w4.heap.size = sp at *
        go_quiet (fail)
        go_wp2_with fail
        go_loopw [9] (fun i wr => ∃ q : Nat, q ≤ u ∧ i = .int .i64 q ∧ Off [] W1 wr) (fun i _ => u - (intOf i).toNat)
        case atStart => exact ⟨0, by omega, rfl, OO5.out.drewN _⟩
        case round =>
          obtain ⟨q, hq, rfl, O6⟩ := hrel
          have OO6 := Lib.hid O6
          obtain ⟨b0, b8⟩ := CE.out _ O6
          obtain ⟨_, l0, l1⟩ := KEEP.out _ O6
          clear O6
          have q3 : (0 : Int) ≤ (q : Int) := by omega
          have q4 : (q : Int) ≤ (u : Int) := by omega
          by_cases hql : q < u
          · obtain ⟨hvq, rfl⟩ := HVC.out q (by omega)
            have v1 := OO6.out.cell hvq (by simp)
            have q5 : (q : Int) < (u : Int) := by omega
            have q6 : IntKind.i64.wrap ((kk : Int) * 64) = (kk : Int) * 64 := by rw [IntKind.wrap_i64]; omega
            have q7 : IntKind.i64.wrap ((kk : Int) * 64 + (q : Int)) = (kk : Int) * 64 + (q : Int) := by rw [IntKind.wrap_i64]; omega
            clear hvq
            go_wp2_with fail
            refine (READ.out _ q OO6.out hql).mono ?_
            rintro e w7 ⟨rfl, rfl⟩
            go_wp2_with fail
            go_roundw
            case rel => exact ⟨q + 1, by omega, by go_num, OO6.out⟩
            case measure => simp [intOf]; omega
          · obtain rfl : q = u := by omega
            have q6 : IntKind.i64.wrap ((kk : Int) * 64) = (kk : Int) * 64 := by rw [IntKind.wrap_i64]; omega
            have q7 : IntKind.i64.wrap ((kk : Int) * 64 + (q : Int)) = (kk : Int) * 64 + (q : Int) := by rw [IntKind.wrap_i64]; omega
            by_cases h64 : q < 64
            · have q8 : (q : Int) < 64 := by omega
              go_wp2_with fail
              go_quiet ((go_at_call 21; exact qleft (NREAD.out _ (OO6.out.drewN _) h64)))
              go_wp2_with fail
              go_roundw
              case rel => exact ⟨k + 1, by omega, by go_num, OO6.out.drewN _⟩
              case measure => simp [intOf]; omega
            · have q8 : ¬ (q : Int) < 64 := by omega
              obtain ⟨rv, rs, hrd⟩ := OREAD.out
              have RD := Lib.hid hrd
              clear hrd
              go_wp2_with fail
              go_quiet ((go_at_call 21; exact qleft (RD.out _ (OO6.out.drewN _))))
              go_wp2_with fail
              go_roundw
              case rel => exact ⟨k + 1, by omega, by go_num, OO6.out.drewN _⟩
              case measure => simp [intOf]; omega
      · obtain rfl : k = T.length := by omega
        have HB3 := Lib.hid (HB1.out.off OO3.out)
        have no1 : Hid (¬ M.isTaken n (-1)) := Lib.hid (fun h => by have := h.1; omega)
        have no2 : Hid (¬ M.isTaken n (n : Int)) := Lib.hid (fun h => by have := h.2.1; omega)
        go_wp2_with fail
        refine (seg_no' HB3.out.mem HB3.out.n0 HB3.out.n1 (-1) no1.out).mono ?_
        rintro e w4 ⟨rfl, _, O4⟩
        have OO4 := Lib.hid (OO3.out.trans O4)
        have O5 := OO4.out.alloc (.cells #[.int .i64 0, .int .i64 0, .int .i64 0, .int .i64 0, .int .i64 0, .int .i64 0, .int .i64 0] 37)
        have OO5 := Lib.hid O5
        obtain ⟨_, l0, l1⟩ := KEEP.out _ O5
        clear O4 O5 k0 k1
        go_wp2_with fail
        refine (seg_no' (HB1.out.off OO5.out).mem HB3.out.n0 HB3.out.n1 _ no2.out).mono ?_
        rintro e w6 ⟨rfl, _, O6⟩
        have OO6 := Lib.hid (OO.out.trans ((OO5.out.trans O6).alloc (.cells #[.int .i64 0, .int .i64 0, .int .i64 0, .int .i64 0, .int .i64 0, .int .i64 0, .int .i64 0] 37)))
        clear O6 l0 l1
        go_wp2_with fail
        go_ret
        exact ⟨rfl, OO6.out⟩
end
end Go.Proofs.Ytoafoodgomnfeaa
