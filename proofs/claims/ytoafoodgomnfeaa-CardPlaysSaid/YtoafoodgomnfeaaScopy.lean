/-
  YtoafoodgomnfeaaScopy: a space's copy; the chapter's examples; are calls too many?
-/
import Derived.Test.YtoafoodgomnfeaaSmade
import Derived.Deep.MidRow
namespace Go.Proofs.Ytoafoodgomnfeaa
open Go.RowKit
set_option linter.unusedVariables false

def spBuild (x y : Value) : Sem Next := do pure (.value (← Instr.build 83 #[(0, x), (1, y)]))
@[go_sem ↓] theorem execOp_build_sp (ρ : Operand → Value) (dst : Option Tmp) (x y : Operand) (ty : TypeId) (pos : String) (after : Array Edge) (guard : Option (Nat × Bool)) :
    execOp ρ { dst, op := .build 83 #[(0, x), (1, y)], type := ty, pos, after, guard } = spBuild (ρ x) (ρ y) := by
  simp [execOp, spBuild]
set_option maxRecDepth 100000 in
@[go_sem] theorem run_spBuild (p : Option Addr) (x0 x1 x2 x3 x4 x5 x6 x7 x8 x9 x10 x11 x12 x13 x14 x15 x16 x17 x18 x19 : Value) (w : World) :
    (spBuild (.pointer p) (.agg #[x0, x1, x2, x3, x4, x5, x6, x7, x8, x9, x10, x11, x12, x13, x14, x15, x16, x17, x18, x19])).run Try.prog w = .ok (.value (.agg #[.pointer p, x0, x1, x2, x3, x4, x5, x6, x7, x8, x9, x10, x11, x12, x13, x14, x15, x16, x17, x18, x19])) w := by
  kernel_rfl
def spLoad (v : Value) : Sem Next := do pure (.value (← Instr.loadAt 81 v))
@[go_sem ↓] theorem execOp_load_sp (ρ : Operand → Value) (dst : Option Tmp) (x : Operand) (ty : TypeId) (pos : String) (after : Array Edge) (guard : Option (Nat × Bool)) :
    execOp ρ { dst, op := .load 81 x, type := ty, pos, after, guard } = spLoad (ρ x) := by
  simp [execOp, spLoad]
theorem under81 : Try.prog.underlying 81 = some (.array 5 35) := by kernel_rfl
theorem info81 : (Try.prog.info? 81).map (·.size) = some 20 := by kernel_rfl
theorem run_spLoad (w : World) (b o : Nat) (cs : List Value) (hc : w.rangeAt b o cs) (hl : cs.length = 20) : (spLoad (.pointer (some ⟨b, o, none⟩))).run Try.prog w = .ok (.value (.agg cs.toArray)) w := by
  unfold spLoad
  simp only [Sem.run_bind, run_loadAt_mid w b o 81 cs _ hc under81 rfl (by rw [hl]; exact info81), Result.andThen_ok, Sem.run_pure]

/-- What Copy reads of the space's block. -/
def CpS (w : World) (pb mb : Nat) (C : Nat → Int) (w' : World) : Prop := Off [] w w' ∧ w'.cell? ⟨pb, 0, none⟩ = some (.pointer (some ⟨mb, 0, none⟩)) ∧ w'.rangeAt pb 1 [.int .i64 (C 0), .int .i64 (C 1), .int .i64 (C 2), .int .i64 (C 3), .int .i64 (C 4), .int .i64 (C 5), .int .i64 (C 6), .int .i64 (C 7), .int .i64 (C 8), .int .i64 (C 9), .int .i64 (C 10), .int .i64 (C 11), .int .i64 (C 12), .int .i64 (C 13), .int .i64 (C 14), .int .i64 (C 15), .int .i64 (C 16), .int .i64 (C 17), .int .i64 (C 18), .int .i64 (C 19)]
theorem CpS.off {w w' : World} {pb mb sb n : Nat} {M : MemS} {C : Nat → Int} (h : SpaceAt w pb mb sb n M C) (O : Off [] w w') : CpS w pb mb C w' :=
  ⟨O, O.cell h.ptr (by simp), fun j v hv => by
    have key : ∀ i, i < 20 → w'.cell? ⟨pb, 1 + i, none⟩ = some (.int .i64 (C i)) := fun i hi => by
      have := O.cell (h.cur (i / 4) (i % 4) (by omega) (by omega)) (by simp)
      rw [show 1 + i / 4 * 4 + i % 4 = 1 + i by omega, show i / 4 * 4 + i % 4 = i by omega] at this
      exact this
    have hj : j < 20 := by
      rcases Nat.lt_or_ge j 20 with h' | h'
      · exact h'
      · rw [List.getElem?_eq_none (by simpa using h')] at hv; cases hv
    rw [key j hj, ← hv]
    match j, hj with
    | 0, _ | 1, _ | 2, _ | 3, _ | 4, _ | 5, _ | 6, _ | 7, _ | 8, _ | 9, _ | 10, _ | 11, _ | 12, _ | 13, _ | 14, _ | 15, _ | 16, _ | 17, _ | 18, _ | 19, _ => rfl
    | j + 20, h => exact absurd h (by omega)⟩
theorem SpaceAt.boxed {w w1 : World} {pb mb mb' sb sb' n : Nat} {M M' : MemS} {C : Nat → Int} (h : SpaceAt w pb mb sb n M C) (hm : MemAt w1 mb' sb' n M') (hn : 0 < n) (t : TypeId) :
    SpaceAt (w1.alloc (.cells #[.pointer (some ⟨mb', 0, none⟩), .int .i64 (C 0), .int .i64 (C 1), .int .i64 (C 2), .int .i64 (C 3), .int .i64 (C 4), .int .i64 (C 5), .int .i64 (C 6), .int .i64 (C 7), .int .i64 (C 8), .int .i64 (C 9), .int .i64 (C 10), .int .i64 (C 11), .int .i64 (C 12), .int .i64 (C 13), .int .i64 (C 14), .int .i64 (C 15), .int .i64 (C 16), .int .i64 (C 17), .int .i64 (C 18), .int .i64 (C 19)] t)) w1.heap.size mb' sb' n M' C := by
  have h1 := hm.mb_lt
  have h2 := hm.sb_lt hn
  have hA : ∀ o, (w1.alloc o).heap[w1.heap.size]? = some o := fun o => Array.getElem?_push_size
  refine ⟨hm.off hn ((Off.refl [] _).alloc _) (by simp) (by simp), ?_, fun g k hg hk => ?_, fun j => frozen_of_row _ _ j _ _ (hA _), by omega, by omega, h.ran⟩
  · rw [cell_of_row _ _ 0 _ _ _ (hA _)]; rfl
  · rw [cell_of_row _ _ _ _ _ _ (hA _)]
    have : ∃ j, j < 20 ∧ g * 4 + k = j := ⟨g * 4 + k, by omega, by omega⟩
    obtain ⟨j, hj, e⟩ := this
    rw [Nat.add_assoc, e, Nat.add_comm 1 j]
    match j, hj with
    | 0, _ | 1, _ | 2, _ | 3, _ | 4, _ | 5, _ | 6, _ | 7, _ | 8, _ | 9, _ | 10, _ | 11, _ | 12, _ | 13, _ | 14, _ | 15, _ | 16, _ | 17, _ | 18, _ | 19, _ => rfl
    | j + 20, h => exact absurd h (by omega)

set_option maxRecDepth 100000 in
set_option maxHeartbeats 1000000 in
theorem scopy_all {w : World} {pb mb sb n : Nat} {M : MemS} {C : Nat → Int} (h : SpaceAt w pb mb sb n M C) (hn0 : 0 < n) (hn : n ≤ 1024) :
    Calls Try.prog 34 #[.pointer (some ⟨pb, 0, none⟩)] w fun e w' => ∃ pb' mb' sb' cap, e = .returned (.pointer (some ⟨pb', 0, none⟩)) ∧ SpaceAt w' pb' mb' sb' n { M with cap := cap } C ∧ Off [] w w' ∧ w.heap.size ≤ pb' ∧ w.heap.size ≤ mb' ∧ w.heap.size ≤ sb' := by
  have HH := Lib.hid h
  have KEEP : Hid (∀ w', Off [] w w' → CpS w pb mb C w') := Lib.hid (fun w' O => CpS.off h O)
  have h0 : CpS w pb mb C w := CpS.off h (Off.refl _ _)
  have HC : Hid (∀ w1, Off [] w w1 → Calls Try.prog 26 #[.pointer (some ⟨mb, 0, none⟩)] w1 fun e w' => ∃ mb' sb' cap, e = .returned (.pointer (some ⟨mb', 0, none⟩)) ∧ MemAt w' mb' sb' n { M with cap := cap } ∧ Off [] w1 w' ∧ w.heap.size ≤ mb' ∧ w.heap.size ≤ sb') := Lib.hid (fun w1 O => by
    refine (copy_all (h.mem.off hn0 O (by simp) (by simp)) hn0 hn).mono ?_
    rintro e w' ⟨mb', sb', cap, e1, h1, h2, h3, h4⟩
    exact ⟨mb', sb', cap, e1, h1, h2, Nat.le_trans O.size h3, Nat.le_trans O.size h4⟩)
  clear h h0
  have hL : ∀ w', w'.rangeAt pb 1 [.int .i64 (C 0), .int .i64 (C 1), .int .i64 (C 2), .int .i64 (C 3), .int .i64 (C 4), .int .i64 (C 5), .int .i64 (C 6), .int .i64 (C 7), .int .i64 (C 8), .int .i64 (C 9), .int .i64 (C 10), .int .i64 (C 11), .int .i64 (C 12), .int .i64 (C 13), .int .i64 (C 14), .int .i64 (C 15), .int .i64 (C 16), .int .i64 (C 17), .int .i64 (C 18), .int .i64 (C 19)] → (spLoad (.pointer (some ⟨pb, 1, none⟩))).run Try.prog w' = .ok (.value (.agg #[.int .i64 (C 0), .int .i64 (C 1), .int .i64 (C 2), .int .i64 (C 3), .int .i64 (C 4), .int .i64 (C 5), .int .i64 (C 6), .int .i64 (C 7), .int .i64 (C 8), .int .i64 (C 9), .int .i64 (C 10), .int .i64 (C 11), .int .i64 (C 12), .int .i64 (C 13), .int .i64 (C 14), .int .i64 (C 15), .int .i64 (C 16), .int .i64 (C 17), .int .i64 (C 18), .int .i64 (C 19)])) w' := fun w' h => run_spLoad w' pb 1 _ h rfl
  go_enter Try.func34, Try.ntmps34
  go_wp2_with fail
  go_region_held3 (fun w' => Off [] w w' ∧ w'.cell? ⟨pb, 0, none⟩ = some (.pointer (some ⟨mb, 0, none⟩)) ∧ w'.rangeAt pb 1 [.int .i64 (C 0), .int .i64 (C 1), .int .i64 (C 2), .int .i64 (C 3), .int .i64 (C 4), .int .i64 (C 5), .int .i64 (C 6), .int .i64 (C 7), .int .i64 (C 8), .int .i64 (C 9), .int .i64 (C 10), .int .i64 (C 11), .int .i64 (C 12), .int .i64 (C 13), .int .i64 (C 14), .int .i64 (C 15), .int .i64 (C 16), .int .i64 (C 17), .int .i64 (C 18), .int .i64 (C 19)])
    (first | with_reducible assumption | exact KEEP.out _ (Off.drew (Off.refl _ _)) | exact KEEP.out _ (Off.trans (‹Off [] w _ ∧ _›).1 (‹Off [] _ _›)) | exact KEEP.out _ (Off.alloc (‹Off [] w _ ∧ _›).1 _) | fail)
    (first
      | (go_at_call 26; refine (HC.out _ (‹Off [] w _ ∧ _›).1).mono ?_; rintro e w' ⟨mb', sb', cap, rfl, hM, hO, hg1, hg2⟩)
      | fail)
  all_goals (
    have O1 : Off [] w w' := (Off.drew (Off.refl _ _)).trans hO
    have FIN := Lib.hid (show SpaceAt _ _ mb' sb' n { M with cap := cap } C ∧ Off [] w _ ∧ w.heap.size ≤ w'.heap.size ∧ w.heap.size ≤ mb' ∧ w.heap.size ≤ sb' from ⟨SpaceAt.boxed HH.out hM hn0 83, O1.alloc (.cells #[.pointer (some ⟨mb', 0, none⟩), .int .i64 (C 0), .int .i64 (C 1), .int .i64 (C 2), .int .i64 (C 3), .int .i64 (C 4), .int .i64 (C 5), .int .i64 (C 6), .int .i64 (C 7), .int .i64 (C 8), .int .i64 (C 9), .int .i64 (C 10), .int .i64 (C 11), .int .i64 (C 12), .int .i64 (C 13), .int .i64 (C 14), .int .i64 (C 15), .int .i64 (C 16), .int .i64 (C 17), .int .i64 (C 18), .int .i64 (C 19)] 83), O1.size, hg1, hg2⟩)
    clear hL hM hO hg1 hg2 O1
    rename_i hh
    clear hh
    go_wp2_with fail
    go_ret
    exact ⟨_, mb', sb', cap, rfl, FIN.out⟩)

/-! ### The chapter's examples -/
def sa1 : MemS := ((MemS.made 8).take 0 0 0).bump 0 2
def sc1 : Nat → Int := putC (fun _ => 0) (0 * 4 + 0) 1
def sa2 : MemS := sa1.bump 0 2
def sa3 : MemS := (sa2.take 1 0 2).bump 1 40
def sc3 : Nat → Int := putC sc1 (0 * 4 + 2) 2
def sa4 : MemS := (sa3.take 2 0 2).bump 2 30
def sc4 : Nat → Int := putC sc3 (0 * 4 + 2) 3
theorem wf_sa1 : Wf 8 sa1 1 := ((Wf.made 8).take (k := 0) (by omega) rfl 0 (by omega) (by omega)).bump (by omega) (by omega) (by decide)
theorem wf_sa2 : Wf 8 sa2 1 := wf_sa1.bump (by omega) (by omega) (by decide)
theorem wf_sa3 : Wf 8 sa3 2 := (wf_sa2.take (k := 1) (by omega) rfl 2 (by omega) (by omega)).bump (by omega) (by omega) (by decide)
theorem wf_sa4 : Wf 8 sa4 3 := (wf_sa3.take (k := 2) (by omega) rfl 2 (by omega) (by omega)).bump (by omega) (by omega) (by decide)
theorem takenIs_of {M : MemS} {n : Nat} {G : List Int} {T : List Nat} (hf : flT M G n = T) (ho : T.Pairwise fun a b => (M.S a).taken < (M.S b).taken) : TakenIs M n G T := ⟨fun k => by rw [← hf, flT_mem], ho⟩
theorem f_sa4 : flT sa4 [0] 8 = [0, 1, 2] := by decide +kernel
theorem o_sa4 : [0, 1, 2].Pairwise fun a b => (sa4.S a).taken < (sa4.S b).taken := by decide +kernel
theorem w_sa4 : sumW sa4 [0, 1, 2] = 74 := by decide +kernel
theorem t_sa4 : TakenIs sa4 8 [0] [0, 1, 2] := takenIs_of f_sa4 o_sa4
set_option maxRecDepth 100000 in
theorem awake08_true (w : World) : Calls Try.prog 30 #[] w fun e w' => e = .returned (.bool true) ∧ Off [] w w' := by
  go_enter Try.func30, Try.ntmps30
  go_wp2_with fail
  refine (snew_ok 8 8 w rfl (by omega) (by omega)).mono ?_
  rintro e w1 ⟨pb, mb, sb, rfl, H, O, z1, z2, z3⟩
  have H1 := Lib.hid H
  have O1 := Lib.hid O
  have Z : Hid (∀ x, x ∈ [pb, mb, sb] → x ∈ ([] : List Nat) ∨ w.heap.size ≤ x) := Lib.hid (fun x hx => .inr (by simp at hx; omega))
  clear H O z1 z2 z3
  go_wp2_with fail
  refine (alloc_new H1.out (by omega) (by omega) 0 0 (by omega) (by omega) 2 (by decide) (by omega) (by omega) (.inl rfl) 0 (by omega) (by decide) (by decide) (by decide) (by decide) rfl (by omega)).mono ?_
  rintro e w2 ⟨rfl, H, O⟩
  have H2 : Hid (SpaceAt w2 pb mb sb 8 sa1 sc1) := Lib.hid H
  have O2 := Lib.hid O
  clear H O
  go_wp2_with fail
  refine (alloc_cur H2.out (by omega) 0 0 (by omega) (by omega) 2 (by decide) (by omega) 0 rfl (by omega) (by decide) (by decide) (by decide) (by decide)).mono ?_
  rintro e w3 ⟨rfl, H, O⟩
  have H3 : Hid (SpaceAt w3 pb mb sb 8 sa2 sc1) := Lib.hid H
  have O3 := Lib.hid (O2.out.trans (O.mono (by simp)))
  clear H O
  go_wp2_with fail
  refine (alloc_new H3.out (by omega) (by omega) 0 2 (by omega) (by omega) 40 (by decide) (by omega) (by omega) (.inl rfl) 1 (by omega) (by decide) (by decide) (by decide) (by decide) rfl (fun i hi => by cases (show i = 0 by omega); decide)).mono ?_
  rintro e w4 ⟨rfl, H, O⟩
  have H4 : Hid (SpaceAt w4 pb mb sb 8 sa3 sc3) := Lib.hid H
  have O4 := Lib.hid (O3.out.trans O)
  clear H O
  go_wp2_with fail
  refine (alloc_new H4.out (by omega) (by omega) 0 2 (by omega) (by omega) 30 (by decide) (by omega) (by omega) (.inr ⟨2, by omega, bump_full H4.out.mem (by omega) 1 (by omega) (by decide +kernel) _ 30 rfl (by omega) (by decide +kernel) (by decide +kernel) (by decide +kernel)⟩) 2 (by omega) (by decide +kernel) (by decide +kernel) (by decide +kernel) (by decide +kernel) rfl (fun i hi => by
    match i, hi with
    | 0, _ => decide +kernel
    | 1, _ => decide +kernel)).mono ?_
  rintro e w5 ⟨rfl, H, O⟩
  have H5 : Hid (SpaceAt w5 pb mb sb 8 sa4 sc4) := Lib.hid H
  have O5 := Lib.hid (O4.out.trans O)
  clear H O
  go_wp2_with fail
  refine (alloc_arg H5.out 0 0 3 (by decide)).mono ?_
  rintro e w6 ⟨rfl, rfl⟩
  have O6 := (Off.refl [] w5).alloc (.cells #[.int .i64 0] 3)
  have W6 := Lib.hid (words_any (H5.out.off (by omega) O6 (by simp) (by simp) (by simp)) wf_sa4 (by omega) (by omega) [0] (by simp) (ints_one (B := w5.heap.size) (x := 0) (by simp)) t_sa4)
  have O7 := Lib.hid O6
  clear O6
  go_wp2_with fail
  refine W6.out.mono ?_
  rintro e w8 ⟨rfl, O8⟩
  rw [w_sa4]
  go_wp2_with fail
  go_ret
  exact ⟨rfl, (O1.out.trans_new O5.out Z.out).trans (O7.out.trans O8)⟩
end Go.Proofs.Ytoafoodgomnfeaa
