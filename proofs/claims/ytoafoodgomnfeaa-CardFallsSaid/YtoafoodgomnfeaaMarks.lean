/-
  YtoafoodgomnfeaaMarks: the marks of all segments' cards, in order.
-/
import Derived.Test.YtoafoodgomnfeaaVainP
import Derived.Test.YtoafoodgomnfeaaBox
namespace Go.Proofs.Ytoafoodgomnfeaa
open Go.RowKit
set_option linter.unusedVariables false

/-- Mark j of all: of segment j / 4 among T, of its card j % 4. -/
def mkV (M : MemS) (T : List Nat) (j : Nat) : Int := (M.S (T.getD (j / 4) 0)).card (j % 4)
def marksV (M : MemS) (T : List Nat) (m : Nat) : List Value := (List.range m).map fun j => .int .i64 (mkV M T j)
theorem marksV_next (M : MemS) (T : List Nat) (a : Nat) : marksV M T (4 * (a + 1)) = marksV M T (4 * a) ++ [.int .i64 (M.S (T.getD a 0)).c0, .int .i64 (M.S (T.getD a 0)).c1, .int .i64 (M.S (T.getD a 0)).c2, .int .i64 (M.S (T.getD a 0)).c3] := by
  have e0 : mkV M T (4 * a) = (M.S (T.getD a 0)).c0 := by unfold mkV; rw [show 4 * a / 4 = a by omega, show 4 * a % 4 = 0 by omega]; rfl
  have e1 : mkV M T (4 * a + 1) = (M.S (T.getD a 0)).c1 := by unfold mkV; rw [show (4 * a + 1) / 4 = a by omega, show (4 * a + 1) % 4 = 1 by omega]; rfl
  have e2 : mkV M T (4 * a + 2) = (M.S (T.getD a 0)).c2 := by unfold mkV; rw [show (4 * a + 2) / 4 = a by omega, show (4 * a + 2) % 4 = 2 by omega]; rfl
  have e3 : mkV M T (4 * a + 3) = (M.S (T.getD a 0)).c3 := by unfold mkV; rw [show (4 * a + 3) / 4 = a by omega, show (4 * a + 3) % 4 = 3 by omega]; rfl
  unfold marksV
  rw [show 4 * (a + 1) = 4 * a + 1 + 1 + 1 + 1 by omega, List.range_succ, List.range_succ, List.range_succ, List.range_succ]
  simp only [List.map_append, List.map_cons, List.map_nil, List.append_assoc, List.cons_append, List.nil_append, e0, e1, e2, e3]
def MRow (M : MemS) (T : List Nat) (W1 wr : World) (l : Value) (a : Nat) : Prop := Off [] W1 wr ∧ wr.ownsRow W1.heap.size 3 1 l (4 * a) (marksV M T (4 * a))
/-- The slice of the marks. -/
def MarksAt (B : Nat) (w : World) (v : Value) (M : MemS) (T : List Nat) : Prop := ∃ (a : Option Addr) (cap b : Nat), v = .slice a (4 * T.length) cap ∧ (0 < 4 * T.length → a = some ⟨b, 0, none⟩ ∧ B ≤ b) ∧
  ∀ j, j < 4 * T.length → w.cell? ⟨b, j, none⟩ = some (.int .i64 (mkV M T j))

set_option maxHeartbeats 4000000 in
set_option maxRecDepth 100000 in
theorem marks_any {w : World} {cb pb mb sb n cc : Nat} {M : MemS} {C : Nat → Int} (h : CardAt w cb pb mb sb n M C) (W : Wf n M cc) (hnn : 0 < n) (h2 : n ≤ 1024) :
    Calls Try.prog 45 #[.pointer (some ⟨cb, 0, none⟩)] w fun e w' => ∃ v T, e = .returned v ∧ TakenIs M n [] T ∧ MarksAt w.heap.size w' v M T ∧ Off [] w w' := by
  obtain ⟨i0, hi, hz0, hz1, hz2⟩ := info_parts info3t
  have hi' := Lib.hid hi
  have hz0' := Lib.hid hz0
  have hz1' := Lib.hid hz1
  have hz2' := Lib.hid hz2
  clear hi hz0 hz1 hz2
  have p1 := h.ptr
  have p2 := h.sp.ptr
  have ht := Lib.hid (taken_all h.sp.mem W hnn h2)
  have H1 := Lib.hid h
  have WW := Lib.hid W
  clear h W
  go_enter Try.func45, Try.ntmps45
  go_wp2_with fail
  refine ht.out.mono ?_
  rintro e W1 ⟨v, T, rfl, hT, hI, _, O2⟩
  have hTl := hT.len
  obtain ⟨ta, tcap, tb, to, rfl, hta, hcell⟩ := hI.form'
  have HT := Lib.hid hT
  have H2 := Lib.hid (H1.out.off hnn O2 (by simp) (by simp) (by simp) (by simp))
  have O2' := Lib.hid O2
  have HTA := Lib.hid hta
  have HC := Lib.hid hcell
  have htl1 : (T.length : Int) ≤ 1024 := by omega
  clear hT hI O2 hta hcell p1 p2 ht
  go_wp2_with fail
  go_loopw [3, 5] (fun l v wr => ∃ i : Nat, i ≤ T.length ∧ v = .int .i64 i ∧ MRow M T W1 wr l i) (fun _ v _ => T.length - (intOf v).toNat)
  case atStart => exact ⟨0, by omega, rfl, Off.refl _ _, World.ownsRow_nil _ _ _ _⟩
  case round =>
    obtain ⟨i, hi, rfl, hR⟩ := hrel
    have HR := Lib.hid hR
    clear hR
    by_cases hlt : i < T.length
    · obtain ⟨rfl, htb⟩ := HTA.out (by omega)
      have q0 : (0 : Int) ≤ (i : Int) := by omega
      have q1 : (i : Int) < (T.length : Int) := by omega
      have hm : T.getD i 0 ∈ T := by rw [List.getD, List.getElem?_eq_getElem hlt]; exact List.getElem_mem hlt
      have hin := (HT.out.mem _).1 hm
      have ht0 : (M.S (T.getD i 0)).taken ≠ 0 := fun e => by rw [selB_free e] at hin; exact absurd hin.2 (by simp)
      have hkn := hin.1
      have hc := HR.out.1.cell (HC.out i hlt) (by simp)
      have HI := Lib.hid (H2.out.off hnn HR.out.1 (by simp) (by simp) (by simp) (by simp))
      have hseg : ∀ W, MemAt W mb sb n M → _ := fun W H => seg_yes H h2 (T.getD i 0) hkn ht0 ((T.getD i 0 : Nat) : Int) rfl
      have hnx := marksV_next M T i
      have hkn1 : ((T.getD i 0 : Nat) : Int) ≤ 1024 := by omega
      have hkn0 : (0 : Int) ≤ ((T.getD i 0 : Nat) : Int) := by omega
      clear hm hin
      generalize T.getD i 0 = kk at *
      obtain ⟨s, hs⟩ : ∃ s, M.S kk = s := ⟨_, rfl⟩
      rw [hs] at hseg hnx
      have HSG := Lib.hid hseg
      have HNX := Lib.hid hnx
      have p1 := HI.out.ptr
      have p2 := HI.out.sp.ptr
      obtain ⟨gen, kind, nn, c0, c1, c2, c3, t, ws⟩ := s
      clear hs hseg hnx ht0 hkn
      go_wp2_with fail
      have keep : ∀ w', Off [] wr w' → Off [] wr w' ∧ w'.cell? ⟨cb, 0, none⟩ = some (.pointer (some ⟨pb, 0, none⟩)) ∧ w'.cell? ⟨pb, 0, none⟩ = some (.pointer (some ⟨mb, 0, none⟩)) ∧ w'.cell? ⟨tb, to + i, none⟩ = some (.int .i64 (kk : Int)) :=
        fun w' O => ⟨O, O.cell p1 (by simp), O.cell p2 (by simp), O.cell hc (by simp)⟩
      have hsg : ∀ W, Off [] wr W → Calls Try.prog 17 #[.pointer (some ⟨mb, 0, none⟩), .int .i64 (kk : Int)] W fun e w' => e = .returned (.tuple #[.agg #[.int .i64 gen, .int .i64 kind, .int .i64 nn, .int .i64 c0, .int .i64 c1, .int .i64 c2, .int .i64 c3], .bool true]) ∧ Off [] wr w' ∧ Off [] W w' :=
        fun W O => (HSG.out W (HI.out.off hnn O (by simp) (by simp) (by simp) (by simp)).sp.mem).mono fun _ _ ⟨h, o⟩ => ⟨h, O.trans o, o⟩
      have hsga : Off [] wr (wr.alloc (.cells #[.int .i64 0, .int .i64 0, .int .i64 0, .int .i64 0, .int .i64 0, .int .i64 0, .int .i64 0] 37)).drew → Calls Try.prog 17 #[.pointer (some ⟨mb, 0, none⟩), .int .i64 (kk : Int)] (wr.alloc (.cells #[.int .i64 0, .int .i64 0, .int .i64 0, .int .i64 0, .int .i64 0, .int .i64 0, .int .i64 0] 37)).drew fun e w' =>
          e = .returned (.tuple #[.agg #[.int .i64 gen, .int .i64 kind, .int .i64 nn, .int .i64 c0, .int .i64 c1, .int .i64 c2, .int .i64 c3], .bool true]) ∧ Off [] wr w' ∧ Fresh7 w' wr.heap.size :=
        fun O => (hsg _ O).mono fun _ _ ⟨h, o1, o2⟩ => ⟨h, o1, (Fresh7.new wr 37).off (((Off.refl [] _).drew).trans o2)⟩
      have HSG' := Lib.hid hsg
      have HSGA := Lib.hid hsga
      have hO0 : Off [] wr wr := Off.refl _ _
      obtain ⟨Bz, hBz⟩ : ∃ Bz, wr.heap.size = Bz := ⟨_, rfl⟩
      rw [hBz] at HSGA
      have hcell5 := Lib.hid hc
      clear hc p1 p2 hsg hsga
      go_region_held3 (fun w' => Off [] wr w' ∧ w'.cell? ⟨cb, 0, none⟩ = some (.pointer (some ⟨pb, 0, none⟩)) ∧ w'.cell? ⟨pb, 0, none⟩ = some (.pointer (some ⟨mb, 0, none⟩)) ∧ w'.cell? ⟨tb, to + i, none⟩ = some (.int .i64 (kk : Int)))
        (first | with_reducible assumption | with_reducible exact keep _ hr | with_reducible exact keep _ (Off.set7 hr (Nat.le_of_eq hBz) _ _ _ _ _ _ _) | with_reducible exact keep _ (Off.alloc hr _) | exact keep _ (Off.alloc hr _) | exact keep _ (Off.drew hO0) | exact keep _ (Off.drew (Off.alloc hO0 _)) | exact keep _ (Off.set7 hr (Nat.le_of_eq hBz) _ _ _ _ _ _ _))
        (first
          | (go_at_call 17; have hS : Off [] wr (wr.alloc (.cells #[.int .i64 0, .int .i64 0, .int .i64 0, .int .i64 0, .int .i64 0, .int .i64 0, .int .i64 0] 37)).drew := (by with_reducible exact (‹Off [] wr (wr.alloc (.cells #[.int .i64 0, .int .i64 0, .int .i64 0, .int .i64 0, .int .i64 0, .int .i64 0, .int .i64 0] 37)).drew ∧ _›).1); refine (HSGA.out hS).mono ?_; rintro e w' ⟨rfl, hr, hf⟩; obtain ⟨⟨b0, b1, b2, b3, b4, b5, b6⟩, f0, f1, f2, f3, f4, f5, f6⟩ := hf.facts; clear hS)
          | (go_at_call 17; refine (HSG'.out wr.drew (‹Off [] wr wr.drew ∧ _›).1).mono ?_; rintro e w' ⟨rfl, hr, hp⟩)
          | fail)
      · have TD6 := Lib.hid (Told.new w' 37 gen kind nn c0 c1 c2 c3)
        have O6 := hr.alloc (.cells #[.int .i64 gen, .int .i64 kind, .int .i64 nn, .int .i64 c0, .int .i64 c1, .int .i64 c2, .int .i64 c3] 37)
        rename_i hh1
        clear hh1
        generalize w'.alloc _ = w6 at TD6 O6 ⊢
        generalize w'.heap.size = B6 at TD6 ⊢
        have hcell6 := hcell5.out
        have OO6 := Lib.hid O6
        clear O6 hr hp
        have t3 := TD6.out.t3
        have t4 := TD6.out.t4
        have t5 := TD6.out.t5
        have t6 := TD6.out.t6
        have HOWN := Lib.hid (ownsRow_off HR.out.2 OO6.out (by simp))
        have OR6 := Lib.hid (HR.out.1.trans OO6.out)
        have hbase := OR6.out.size
        clear HR hcell6
        go_wp2_with (at_builtin; refine wpList_append_lies _ rfl _ _ 47 rfl W1.heap.size 3 i0 (.int .i64 0) 1 8 Try.underlying47 hi'.out hz0'.out hz1'.out hz2'.out rfl (by decide) _ _ _ rfl (HOWN.out.alloc _) ⟨w6.heap.size, 0, none⟩ 4 4 [.int .i64 c0, .int .i64 c1, .int .i64 c2, .int .i64 c3] rfl rfl ?c1 ?c2 (by decide) ?c3 ?c4 ?c5 (w6.heap.size + 1) ?c6 ?_)
        case c1 => exact World.news_of_block (heap_alloc_new _ _)
        case c2 => intro u hu; simp at hu; rcases hu with rfl | rfl | rfl | rfl <;> rfl
        case c3 => unfold maxLen; omega
        case c4 => omega
        case c5 => simp; omega
        case c6 => simp
        intro g' cap' w8 hown' hgrow hat hlt'
        have RR : Hid (MRow M T W1 w8 (.slice (some ⟨g', 0, none⟩) (4 * i + 4) cap') (i + 1)) := Lib.hid ⟨(OR6.out.alloc _).grown hgrow (fun j hj => (HOWN.out.lt j hj).1), by rw [HNX.out]; exact hown'⟩
        clear hown' hgrow hat hlt' t3 t4 t5 t6
        go_wp2_with fail
        go_roundw
        case rel => exact ⟨i + 1, by omega, by go_num, RR.out⟩
        case measure => simp [intOf]; omega
      · have TD6 := Lib.hid (hf.told.set gen kind nn c0 c1 c2 c3)
        have O6 := Off.set7 hr (Nat.le_of_eq hBz) (.int .i64 gen) (.int .i64 kind) (.int .i64 nn) (.int .i64 c0) (.int .i64 c1) (.int .i64 c2) (.int .i64 c3)
        rename_i hh1
        clear hh1 b0 b1 b2 b3 b4 b5 b6 f0 f1 f2 f3 f4 f5 f6 hf
        generalize ((((((w'.setCell _ _).setCell _ _).setCell _ _).setCell _ _).setCell _ _).setCell _ _).setCell _ _ = w6 at TD6 O6 ⊢
        have hcell6 := hcell5.out
        have OO6 := Lib.hid O6
        clear O6 hr hBz HSGA
        generalize Bz = B6 at TD6 ⊢
        have t3 := TD6.out.t3
        have t4 := TD6.out.t4
        have t5 := TD6.out.t5
        have t6 := TD6.out.t6
        have HOWN := Lib.hid (ownsRow_off HR.out.2 OO6.out (by simp))
        have OR6 := Lib.hid (HR.out.1.trans OO6.out)
        have hbase := OR6.out.size
        clear HR hcell6
        go_wp2_with (at_builtin; refine wpList_append_lies _ rfl _ _ 47 rfl W1.heap.size 3 i0 (.int .i64 0) 1 8 Try.underlying47 hi'.out hz0'.out hz1'.out hz2'.out rfl (by decide) _ _ _ rfl (HOWN.out.alloc _) ⟨w6.heap.size, 0, none⟩ 4 4 [.int .i64 c0, .int .i64 c1, .int .i64 c2, .int .i64 c3] rfl rfl ?c1 ?c2 (by decide) ?c3 ?c4 ?c5 (w6.heap.size + 1) ?c6 ?_)
        case c1 => exact World.news_of_block (heap_alloc_new _ _)
        case c2 => intro u hu; simp at hu; rcases hu with rfl | rfl | rfl | rfl <;> rfl
        case c3 => unfold maxLen; omega
        case c4 => omega
        case c5 => simp; omega
        case c6 => simp
        intro g' cap' w8 hown' hgrow hat hlt'
        have RR : Hid (MRow M T W1 w8 (.slice (some ⟨g', 0, none⟩) (4 * i + 4) cap') (i + 1)) := Lib.hid ⟨(OR6.out.alloc _).grown hgrow (fun j hj => (HOWN.out.lt j hj).1), by rw [HNX.out]; exact hown'⟩
        clear hown' hgrow hat hlt' t3 t4 t5 t6
        go_wp2_with fail
        go_roundw
        case rel => exact ⟨i + 1, by omega, by go_num, RR.out⟩
        case measure => simp [intOf]; omega
    · obtain rfl : i = T.length := by omega
      have hsz := O2'.out.size
      go_wp2_with fail
      go_ret
      refine ⟨_, T, rfl, HT.out, ?_, O2'.out.trans HR.out.1⟩
      have hown := HR.out.2
      rcases hown.2 with ⟨hl, hlen⟩ | ⟨gb, gcap, cur, hl, hgb, _⟩
      · refine ⟨none, 0, 0, by rw [hlen]; exact hl, fun h => by omega, fun j hj => by omega⟩
      · subst hl
        refine ⟨_, gcap, gb, rfl, fun _ => ⟨rfl, by omega⟩, fun j hj => ?_⟩
        rw [hown.cellAt j (by omega)]
        unfold marksV
        rw [List.getElem?_map, List.getElem?_range (by omega)]
        rfl
end Go.Proofs.Ytoafoodgomnfeaa
