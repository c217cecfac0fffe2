/-
  YtoafoodgomnfeaaSwords: Words of both spaces.
-/
import Derived.Test.YtoafoodgomnfeaaSfresh
namespace Go.Proofs.Ytoafoodgomnfeaa
open Go.RowKit
set_option linter.unusedVariables false

def sumW (M : MemS) (T : List Nat) : Int := (T.map fun k => (M.S k).n).sum
theorem sumW_take (M : MemS) (T : List Nat) (q : Nat) (hq : q < T.length) : sumW M (T.take (q + 1)) = sumW M (T.take q) + (M.S (T.getD q 0)).n := by
  unfold sumW
  rw [List.take_add_one, List.getElem?_eq_getElem hq, List.map_append, List.sum_append]
  simp [List.getD, List.getElem?_eq_getElem hq]
theorem sumW_ran {M : MemS} {n c : Nat} (W : Wf n M c) (T : List Nat) (hT : ∀ k, k ∈ T → k < n) : 0 ≤ sumW M T ∧ sumW M T ≤ 64 * T.length := by
  induction T with
  | nil => simp [sumW]
  | cons k T ih =>
    have h1 := ih (fun x hx => hT x (by simp [hx]))
    have h2 := W.used k (hT k (by simp))
    unfold sumW at *
    simp only [List.map_cons, List.sum_cons, List.length_cons]
    omega
theorem TakenIs.taken {M : MemS} {n : Nat} {G : List Int} {T : List Nat} (h : TakenIs M n G T) {k : Nat} (hk : k ∈ T) : k < n ∧ (M.S k).taken ≠ 0 := by
  obtain ⟨h1, h2⟩ := (h.mem k).1 hk
  refine ⟨h1, fun e => ?_⟩
  rw [selB_free e] at h2
  cases h2
theorem IntsAt.cells {B : Nat} {w : World} {a : Option Addr} {cap : Nat} {T : List Nat} (h : IntsAt B w (.slice a (intsOf T).length cap) (intsOf T)) : ∃ b o, (0 < T.length → a = some ⟨b, o, none⟩) ∧ ∀ i, i < T.length → w.cell? ⟨b, o + i, none⟩ = some (.int .i64 ((T.getD i 0 : Nat) : Int)) := by
  obtain ⟨a', cap', b, o, hv, h1, h2⟩ := h.form'
  rw [Value.slice.injEq] at hv
  rw [hv.1]
  exact ⟨b, o, fun h => (h1 h).1, h2⟩
section
variable {w : World} {pb mb sb qb rb n c : Nat} {M R : MemS} {C D : Nat → Int} {X : List Nat}
set_option maxRecDepth 100000 in
set_option maxHeartbeats 1000000 in
theorem words_any (h : SpaceAt w pb mb sb n M C) (W : Wf n M c) (hn0 : 0 < n) (n1 : n ≤ 1024) {g : Option Addr} {gc : Nat} (G : List Int) (hG : G.length ≤ 4096) (hg : IntsAt 0 w (.slice g G.length gc) G) {T : List Nat} (hT : TakenIs M n G T) :
    Calls Try.prog 69 #[.pointer (some ⟨pb, 0, none⟩), .slice g G.length gc] w fun e w' => e = .returned (.int .i64 (sumW M T)) ∧ Off [] w w' := by
  have HH := Lib.hid h
  have HG := Lib.hid hg
  have HT := Lib.hid hT
  have p0 := h.ptr
  have HW := Lib.hid W
  have hlen := hT.len
  clear h hg hT W
  go_enter Try.func69, Try.ntmps69
  go_wp2_with fail
  refine (none_no HH.out).mono ?_
  rintro e w2 ⟨rfl, rfl⟩
  go_wp2_with fail
  refine (taken_any HH.out.mem HW.out hn0 n1 g gc G hG HG.out).mono ?_
  rintro e W1 ⟨v1, T1, rfl, hT1, hI1, O1⟩
  rw [hT1.unique HT.out] at hI1
  obtain ⟨ta, tcap, rfl⟩ := hI1.len
  have hI := hI1.zero
  clear hI1 hT1
  obtain ⟨tb, tof, hta, htc⟩ := hI.cells
  have HTA := Lib.hid hta
  have HTC := Lib.hid htc
  have OO1 := Lib.hid O1
  have p1 := O1.cell p0 (by simp)
  have hTl := intsOf_len T
  rw [hTl]
  have P1 := Lib.hid p1
  clear hI hta htc O1 p0 p1 hTl
  go_wp2_with fail
  go_loopw [5, 19] (fun s i wr => ∃ q : Nat, q ≤ T.length ∧ i = .int .i64 q ∧ s = .int .i64 (sumW M (T.take q)) ∧ Off [] W1 wr) (fun _ i _ => T.length - (intOf i).toNat)
  case atStart => exact ⟨0, by omega, rfl, by simp [sumW], Off.refl _ _⟩
  case round =>
    obtain ⟨q, hq, rfl, rfl, O2⟩ := hrel
    have OO2 := Lib.hid O2
    by_cases hlt : q < T.length
    · cases HTA.out (by omega)
      have t0 := O2.cell (HTC.out q hlt) (by simp)
      have p1 := O2.cell P1.out (by simp)
      have hin := getD_mem hlt
      have hst := sumW_take M T q hlt
      generalize T.getD q 0 = k at t0 hin hst
      obtain ⟨hk, ht⟩ := HT.out.taken hin
      have hu := HW.out.used k hk
      have hr := sumW_ran HW.out (T.take q) (fun x hx => (HT.out.taken (List.mem_of_mem_take hx)).1)
      rw [List.length_take] at hr
      generalize hs : M.S k = s at *
      obtain ⟨gen, kind, un, e0, e1, e2, e3, tk, ws⟩ := s
      simp only [] at ht hu hst
      have HST := Lib.hid hst
      have HS := Lib.hid hs
      have wr1 : IntKind.i64.wrap (sumW M (T.take q) + un) = sumW M (T.take q) + un := by rw [IntKind.wrap_i64]; omega
      have j0 : (0 : Int) ≤ (q : Int) := by omega
      have j1 : (q : Int) < (T.length : Int) := by omega
      generalize sumW M (T.take q) = sm at *
      clear hst hs O2 hin hr hu
      go_wp2_with fail
      refine (seg_yes' (HH.out.off hn0 (OO1.out.trans OO2.out) (by simp) (by simp) (by simp)).mem n1 k hk _ HS.out ht (k : Int) rfl).mono ?_
      rintro e w4 ⟨rfl, _, O4⟩
      have OO5 := Lib.hid ((OO2.out.trans O4).alloc (.cells #[.int .i64 gen, .int .i64 kind, .int .i64 un, .int .i64 e0, .int .i64 e1, .int .i64 e2, .int .i64 e3] 37))
      have hA : (w4.alloc (.cells #[.int .i64 gen, .int .i64 kind, .int .i64 un, .int .i64 e0, .int .i64 e1, .int .i64 e2, .int .i64 e3] 37)).heap[w4.heap.size]? = some _ := Array.getElem?_push_size
      have s2 := cell_of_row _ _ 2 _ _ _ hA
      simp only [List.getElem?_toArray, List.getElem?_cons_zero, List.getElem?_cons_succ] at s2
      clear hA O4
      go_wp2_with fail
      go_roundw
      case rel => exact ⟨q + 1, by omega, by go_num, by rw [HST.out], OO5.out⟩
      case measure => simp [intOf]; omega
    · obtain rfl : q = T.length := by omega
      rw [List.take_length]
      go_wp2_with fail
      go_ret
      exact ⟨rfl, OO1.out.trans OO2.out⟩

theorem SBoth.pwords (h : SBoth w pb mb sb qb rb n M R C D c X) {g : Option Addr} {gc : Nat} (G : List Int) (hG : G.length ≤ 4096) (hg : IntsAt 0 w (.slice g G.length gc) G) {T : List Nat} (hT : TakenIs M n G T) :
    Calls Try.prog 69 #[.pointer (some ⟨pb, 0, none⟩), .slice g G.length gc] w fun e w' => e = .returned (.int .i64 (sumW M T)) ∧ Off [] w w' := words_any h.space h.both.wf h.n0 h.n1 G hG hg hT

set_option maxRecDepth 100000 in
set_option maxHeartbeats 1000000 in
theorem SBoth.dwords (h : SBoth w pb mb sb qb rb n M R C D c X) {g : Option Addr} {gc : Nat} (G : List Int) (hG : G.length ≤ 4096) (hg : IntsAt 0 w (.slice g G.length gc) G) {T : List Nat} (hT : TakenIs R n G T) :
    Calls Try.prog 71 #[.pointer (some ⟨qb, 0, none⟩), .slice g G.length gc] w fun e w' => e = .returned (.int .i64 (sumW R T)) ∧ Off [] w w' := by
  have HH := Lib.hid h
  have HG := Lib.hid hg
  have HT := Lib.hid hT
  have p0 := h.qptr
  have hlen := hT.len
  have n1 := h.n1
  clear h hg hT
  go_enter Try.func71, Try.ntmps71
  go_wp2_with fail
  refine (HH.out.both.dtaken G hG HG.out HT.out).mono ?_
  rintro e W1 ⟨ta, tcap, rfl, hI, O1⟩
  obtain ⟨tb, tof, hta, htc⟩ := hI.cells
  have HTA := Lib.hid hta
  have HTC := Lib.hid htc
  have OO1 := Lib.hid O1
  have p1 := O1.cell p0 (by simp)
  have hTl := intsOf_len T
  rw [hTl]
  have P1 := Lib.hid p1
  clear hI hta htc O1 p0 p1 hTl
  go_wp2_with fail
  go_loopw [5, 7] (fun s i wr => ∃ q : Nat, q ≤ T.length ∧ i = .int .i64 q ∧ s = .int .i64 (sumW R (T.take q)) ∧ Off [] W1 wr) (fun _ i _ => T.length - (intOf i).toNat)
  case atStart => exact ⟨0, by omega, rfl, by simp [sumW], Off.refl _ _⟩
  case round =>
    obtain ⟨q, hq, rfl, rfl, O2⟩ := hrel
    have OO2 := Lib.hid O2
    by_cases hlt : q < T.length
    · cases HTA.out (by omega)
      have t0 := O2.cell (HTC.out q hlt) (by simp)
      have p1 := O2.cell P1.out (by simp)
      have hin := getD_mem hlt
      have hst := sumW_take R T q hlt
      generalize T.getD q 0 = k at t0 hin hst
      obtain ⟨hk, ht⟩ := HT.out.taken hin
      have hu := HH.out.both.wfr.used k hk
      have hr := sumW_ran HH.out.both.wfr (T.take q) (fun x hx => (HT.out.taken (List.mem_of_mem_take hx)).1)
      rw [List.length_take] at hr
      obtain ⟨_, lcap, lg, len, j, cap, va, l1, hj, hle, l8, hpl⟩ := (HH.out.off (OO1.out.trans OO2.out)).place (x := k) ⟨by omega, by omega, by rw [Int.toNat_natCast]; exact ht⟩
      have HP := Lib.hid hpl
      generalize hun : (R.S k).n = un at *
      obtain ⟨u, rfl⟩ : ∃ u : Nat, un = u := ⟨un.toNat, by omega⟩
      simp only [Int.toNat_natCast] at l8
      have HST := Lib.hid hst
      have wr1 : IntKind.i64.wrap (sumW R (T.take q) + (u : Int)) = sumW R (T.take q) + (u : Int) := by rw [IntKind.wrap_i64]; omega
      have j0 : (0 : Int) ≤ (q : Int) := by omega
      have j1 : (q : Int) < (T.length : Int) := by omega
      have j2 : (0 : Int) ≤ (j : Int) := by omega
      have j3 : (j : Int) < (len : Int) := by omega
      generalize sumW R (T.take q) = sm at *
      clear hst O2 hin hr hu hpl hun
      go_wp2_with fail
      go_quiet ((go_at_call 91; exact qleft (HP.out _ ((Off.refl _ _).drewN _))))
      go_wp2_with fail
      go_roundw
      case rel => exact ⟨q + 1, by omega, by go_num, by rw [HST.out], OO2.out.drewN _⟩
      case measure => simp [intOf]; omega
    · obtain rfl : q = T.length := by omega
      rw [List.take_length]
      go_wp2_with fail
      go_ret
      exact ⟨rfl, OO1.out.trans OO2.out⟩
end
end Go.Proofs.Ytoafoodgomnfeaa
