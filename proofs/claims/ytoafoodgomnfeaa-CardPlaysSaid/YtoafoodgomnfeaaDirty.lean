/-
  YtoafoodgomnfeaaDirty: Dirty of package card: which cards it tells.
-/
import Derived.Test.YtoafoodgomnfeaaStore
import Derived.Test.YtoafoodgomnfeaaAnyT
import Derived.Deep.AppendLies
namespace Go.Proofs.Ytoafoodgomnfeaa
open Go.RowKit
set_option linter.unusedVariables false

theorem ownsRow_off {L : List Nat} {w w' : World} {base : Nat} {e : TypeId} {size : Nat} {v : Value} {n : Nat} {xs : List Value} (h : w.ownsRow base e size v n xs) (O : Off L w w') (hL : ∀ b, b ∈ L → b < base) : w'.ownsRow base e size v n xs := by
  refine ⟨h.1, ?_⟩
  rcases h.2 with h2 | ⟨g, cap, cur, a, b, c, d⟩
  · exact .inl h2
  · exact .inr ⟨g, cap, cur, a, b, (O.block g (Array.getElem?_eq_some_iff.1 c).1 (fun e => by have := hL g e; omega)).trans c, d⟩

/-- Which cards of a segment are dirty for g, of the first j. -/
def dirtyS (s : SegS) (k : Nat) (g : Int) (j : Nat) : List (Nat × Nat) := ((List.range j).filter fun i => decide (g < s.gen ∧ s.card i ≤ g)).map fun i => (k, i)
/-- Which cards are dirty for g, of the segments T. -/
def dirtyL (M : MemS) (T : List Nat) (g : Int) : List (Nat × Nat) := T.flatMap fun k => dirtyS (M.S k) k g 4
def cardsV (L : List (Nat × Nat)) : List Value := L.flatMap fun p => [.int .i64 (p.1 : Int), .int .i64 (p.2 : Int)]
theorem cardsV_length (L : List (Nat × Nat)) : (cardsV L).length = L.length * 2 := by
  induction L with
  | nil => rfl
  | cons a l ih => simp only [cardsV, List.flatMap_cons, List.length_append, List.length_cons, List.length_nil] at ih ⊢; omega
theorem cardsV_get (L : List (Nat × Nat)) : ∀ i, i < L.length → (cardsV L)[i * 2]? = some (.int .i64 ((L.getD i (0, 0)).1 : Int)) ∧ (cardsV L)[i * 2 + 1]? = some (.int .i64 ((L.getD i (0, 0)).2 : Int)) := by
  induction L with
  | nil => intro i hi; simp at hi
  | cons a l ih =>
    intro i hi
    cases i with
    | zero => exact ⟨rfl, rfl⟩
    | succ i =>
      have := ih i (by simp at hi; omega)
      rw [show (i + 1) * 2 = i * 2 + 2 by omega]
      simpa [cardsV] using this
/-- A slice of cards: nil, or its pairs of numbers lie there, in a block from B on. -/
def CardsL (B : Nat) (w : World) (v : Value) (L : List (Nat × Nat)) : Prop :=
  (v = .slice none 0 0 ∧ L = []) ∨ ∃ b cap, B ≤ b ∧ v = .slice (some ⟨b, 0, none⟩) L.length cap ∧ ∀ i, i < L.length → w.cell? ⟨b, i * 2, none⟩ = some (.int .i64 ((L.getD i (0, 0)).1 : Int)) ∧ w.cell? ⟨b, i * 2 + 1, none⟩ = some (.int .i64 ((L.getD i (0, 0)).2 : Int))
theorem CardsL.off {L : List Nat} {B : Nat} {w w' : World} {v : Value} {T : List (Nat × Nat)} (h : CardsL B w v T) (O : Off L w w') (hL : ∀ b, b ∈ L → b < B) : CardsL B w' v T := by
  rcases h with h | ⟨b, cap, hb, hv, hc⟩
  · exact .inl h
  · exact .inr ⟨b, cap, hb, hv, fun i hi => ⟨O.cell (hc i hi).1 (fun e => by have := hL b e; omega), O.cell (hc i hi).2 (fun e => by have := hL b e; omega)⟩⟩

theorem dirtyS_succ (s : SegS) (k : Nat) (g : Int) (j : Nat) : dirtyS s k g (j + 1) = if g < s.gen ∧ s.card j ≤ g then dirtyS s k g j ++ [(k, j)] else dirtyS s k g j := by
  unfold dirtyS
  rw [List.range_succ, List.filter_append, List.map_append]
  by_cases h : g < s.gen ∧ s.card j ≤ g
  · rw [if_pos h]; simp [h]
  · rw [if_neg h]; simp [h]
theorem dirtyS_len (s : SegS) (k : Nat) (g : Int) (j : Nat) : (dirtyS s k g j).length ≤ j := by
  unfold dirtyS
  rw [List.length_map]
  have := List.length_filter_le (fun i => decide (g < s.gen ∧ s.card i ≤ g)) (List.range j)
  simpa using this
theorem dirtyL_len (M : MemS) (T : List Nat) (g : Int) : (dirtyL M T g).length ≤ T.length * 4 := by
  induction T with
  | nil => simp [dirtyL]
  | cons a l ih =>
    simp only [dirtyL, List.flatMap_cons, List.length_append, List.length_cons] at ih ⊢
    have := dirtyS_len (M.S a) a g 4
    omega
theorem dirtyL_take (M : MemS) (T : List Nat) (g : Int) (a : Nat) (ha : a < T.length) : dirtyL M (T.take (a + 1)) g = dirtyL M (T.take a) g ++ dirtyS (M.S (T.getD a 0)) (T.getD a 0) g 4 := by
  unfold dirtyL
  rw [List.take_add_one, List.flatMap_append, List.getElem?_eq_getElem ha]
  simp [List.getD, List.getElem?_eq_getElem ha]

/-- The row that is told so far. -/
def DRow (W1 wr : World) (l : Value) (L : List (Nat × Nat)) : Prop := Off [] W1 wr ∧ wr.ownsRow W1.heap.size 90 2 l L.length (cardsV L)
/-- Within a segment's round: the told segment lies at B, apart from the row. -/
def DIn (W1 wr : World) (l : Value) (L : List (Nat × Nat)) (B : Nat) (gen : Int) : Prop := DRow W1 wr l L ∧ wr.cell? ⟨B, 0, none⟩ = some (.int .i64 gen) ∧ l.ownBlock ≠ some B

theorem DIn.appended {W1 wr w1 : World} {l : Value} {L : List (Nat × Nat)} {B : Nat} {gen : Int} {k j g cap : Nat} {t : TypeId} {o : Obj} (h : DIn W1 wr l L B gen)
    (hown : w1.ownsRow W1.heap.size 90 2 (.slice (some ⟨g, 0, none⟩) (L.length + 1) cap) (L.length + 1) (cardsV L ++ [.int .i64 (k : Int), .int .i64 (j : Int)]))
    (hgrow : (wr.alloc o).grownBy w1 l.ownBlock) (hat : l.ownBlock = some g ∨ g = wr.heap.size + 1) : DIn W1 w1 (.slice (some ⟨g, 0, none⟩) (L.length + 1) cap) (L ++ [(k, j)]) B gen := by
  have hB := World.block_lt_of_cell? wr _ h.2.1
  refine ⟨⟨(h.1.1.alloc o).grown hgrow (fun j hj => (h.1.2.lt j hj).1), ?_⟩, ?_, ?_⟩
  · have e : cardsV (L ++ [(k, j)]) = cardsV L ++ [.int .i64 (k : Int), .int .i64 (j : Int)] := by simp [cardsV]
    rw [e, List.length_append]
    exact hown
  · rw [hgrow.cell_far _ (by simp at hB ⊢; omega) (fun e => h.2.2 e.symm)]
    exact ((Off.refl [] wr).alloc o).cell h.2.1 (by simp)
  · rcases hat with e | e
    · intro h'
      simp only [Value.ownBlock, Option.some.injEq] at h'
      subst h'
      exact h.2.2 e
    · intro h'
      simp only [Value.ownBlock, Option.some.injEq] at h'
      simp at hB
      omega

theorem info90 : (Try.prog.info? 90).map (fun i => (i.zero, i.size, i.bytes)) = some (some (.agg #[.int .i64 0, .int .i64 0]), 2, 16) := by kernel_rfl

theorem dirty_step_no {s : SegS} {k : Nat} {g : Int} {j : Nat} (D : List (Nat × Nat)) (h : ¬ (g < s.gen ∧ s.card j ≤ g)) : D ++ dirtyS s k g (j + 1) = D ++ dirtyS s k g j := by rw [dirtyS_succ, if_neg h]
theorem dirty_step_yes {s : SegS} {k : Nat} {g : Int} {j : Nat} (D : List (Nat × Nat)) (h : g < s.gen ∧ s.card j ≤ g) : D ++ dirtyS s k g (j + 1) = (D ++ dirtyS s k g j) ++ [(k, j)] := by rw [dirtyS_succ, if_pos h, List.append_assoc]

@[go_sem ↓] theorem run_index4_0 (x0 x1 x2 x3 : Int) (w : World) : (Instr.index 35 (.agg #[.int .i64 x0, .int .i64 x1, .int .i64 x2, .int .i64 x3]) (.int .i64 0)).run Try.prog w = .ok (.int .i64 x0) w := by kernel_rfl
@[go_sem ↓] theorem run_index4_1 (x0 x1 x2 x3 : Int) (w : World) : (Instr.index 35 (.agg #[.int .i64 x0, .int .i64 x1, .int .i64 x2, .int .i64 x3]) (.int .i64 1)).run Try.prog w = .ok (.int .i64 x1) w := by kernel_rfl
@[go_sem ↓] theorem run_index4_2 (x0 x1 x2 x3 : Int) (w : World) : (Instr.index 35 (.agg #[.int .i64 x0, .int .i64 x1, .int .i64 x2, .int .i64 x3]) (.int .i64 2)).run Try.prog w = .ok (.int .i64 x2) w := by kernel_rfl
@[go_sem ↓] theorem run_index4_3 (x0 x1 x2 x3 : Int) (w : World) : (Instr.index 35 (.agg #[.int .i64 x0, .int .i64 x1, .int .i64 x2, .int .i64 x3]) (.int .i64 3)).run Try.prog w = .ok (.int .i64 x3) w := by kernel_rfl
set_option maxRecDepth 100000 in
set_option maxHeartbeats 2000000 in
theorem dirty_any {w : World} {cb pb mb sb n cc : Nat} {M : MemS} {C : Nat → Int} (h : CardAt w cb pb mb sb n M C) (W : Wf n M cc) (hn0 : 0 < n) (hn : n ≤ 1024) (g : Int) :
    Calls Try.prog 42 #[.pointer (some ⟨cb, 0, none⟩), .int .i64 g] w fun e w' => ∃ v T, e = .returned v ∧ TakenIs M n [] T ∧ CardsL w.heap.size w' v (dirtyL M T g) ∧ Off [] w w' := by
  obtain ⟨i0, hi, hz0, hz1, hz2⟩ := info_parts info90
  have hi' := Lib.hid hi
  have hz0' := Lib.hid hz0
  have hz1' := Lib.hid hz1
  have hz2' := Lib.hid hz2
  clear hi hz0 hz1 hz2
  have p1 := h.ptr
  have p2 := h.sp.ptr
  have ht := Lib.hid (taken_all h.sp.mem W hn0 hn)
  have hh := Lib.hid h
  have WW := Lib.hid W
  clear h W
  go_enter Try.func42, Try.ntmps42
  go_wp2_with fail
  refine (cnone_no hh.out).mono ?_
  rintro e w1 ⟨rfl, rfl⟩
  go_wp2_with fail
  refine ht.out.mono ?_
  rintro e W1 ⟨v, T, rfl, hT, hI, _, O⟩
  have HT := Lib.hid hT
  have O1 := Lib.hid O
  have H1 := Lib.hid (hh.out.off hn0 O (by simp) (by simp) (by simp) (by simp))
  have hTl := hT.len
  have hTn : ∀ a, a < T.length → T.getD a 0 < n ∧ (M.S (T.getD a 0)).taken ≠ 0 := fun a ha => by
    have : T.getD a 0 ∈ T := by rw [List.getD, List.getElem?_eq_getElem ha]; exact List.getElem_mem ha
    have := (hT.mem _).1 this
    refine ⟨this.1, fun e => ?_⟩
    rw [selB_free e] at this
    exact absurd this.2 (by simp)
  have HTn := Lib.hid hTn
  obtain ⟨va, vb, vo, vc, hv, hcell⟩ : ∃ (va : Option Addr) (vb vo vc : Nat), v = .slice va T.length vc ∧ ∀ a, a < T.length → va = some ⟨vb, vo, none⟩ ∧ W1.cell? ⟨vb, vo + a, none⟩ = some (.int .i64 ((T.getD a 0 : Nat) : Int)) := by
    rcases hI with ⟨rfl, hnil⟩ | ⟨b, o, cap, hb, rfl, hc⟩
    · have : T = [] := by simpa [intsOf] using hnil
      subst this
      exact ⟨none, 0, 0, 0, rfl, fun a ha => absurd ha (by simp)⟩
    · refine ⟨some ⟨b, o, none⟩, b, o, cap, by simp [intsOf], fun a ha => ⟨rfl, ?_⟩⟩
      rw [hc a (by simpa [intsOf] using ha)]
      simp [intsOf, List.getD, List.getElem?_eq_getElem ha]
  subst hv
  have HC := Lib.hid hcell
  clear O hT hI hcell hTn p1 p2
  go_wp2_with fail
  go_loopw [5, 23] (fun l i wr => ∃ a : Nat, a ≤ T.length ∧ i = .int .i64 a ∧ DRow W1 wr l (dirtyL M (T.take a) g)) (fun _ i _ => T.length - (intOf i).toNat)
  case atStart => exact ⟨0, by omega, rfl, Off.refl _ _, by simpa [dirtyL, cardsV] using World.ownsRow_nil _ _ _ _⟩
  case round =>
    obtain ⟨a, ha, rfl, hD⟩ := hrel
    have HD := Lib.hid hD
    have q1 := hD.1.cell H1.out.ptr (by simp)
    have q2 := hD.1.cell H1.out.sp.ptr (by simp)
    clear hD
    by_cases hlt : a < T.length
    · obtain ⟨hva, hvc⟩ := HC.out a hlt
      have hvc := HD.out.1.cell hvc (by simp)
      subst hva
      obtain ⟨hkn, htk⟩ := HTn.out a hlt
      have hl1 : T.length ≤ 1024 := by omega
      have hseg := seg_yes (H1.out.sp.mem.off hn0 HD.out.1 (by simp) (by simp)) hn _ hkn htk _ rfl
      obtain ⟨D, hDD⟩ : ∃ D, dirtyL M (T.take a) g = D := ⟨_, rfl⟩
      have hnext := dirtyL_take M T g a hlt
      have hDl : D.length ≤ 4096 := by rw [← hDD]; have := dirtyL_len M (T.take a) g; rw [List.length_take] at this; omega
      rw [hDD] at HD hnext
      generalize T.getD a 0 = k at *
      have HK := Lib.hid hkn
      generalize M.S k = s at *
      have HSeg := Lib.hid hseg
      have HN := Lib.hid hnext
      clear hkn htk hseg hnext hDD
      obtain ⟨gen, kind, nn, c0, c1, c2, c3, t, ws⟩ := s
      unfold SegS.told at HSeg
      go_wp2_with fail
      refine HSeg.out.mono ?_
      rintro e w2 ⟨rfl, O⟩
      have HD2 : DRow W1 w2 _ D := ⟨HD.out.1.trans O, ownsRow_off HD.out.2 O (by simp)⟩
      clear q1 q2 hvc O
      go_wp2_with fail
      have hA : (w2.alloc (.cells #[.int .i64 gen, .int .i64 kind, .int .i64 nn, .int .i64 c0, .int .i64 c1, .int .i64 c2, .int .i64 c3] 37)).heap[w2.heap.size]? = some _ := Array.getElem?_push_size
      have d0 := cell_of_row _ _ 0 _ _ _ hA
      simp only [List.getElem?_toArray, List.getElem?_cons_zero] at d0
      have HIN : DIn W1 (w2.alloc (.cells #[.int .i64 gen, .int .i64 kind, .int .i64 nn, .int .i64 c0, .int .i64 c1, .int .i64 c2, .int .i64 c3] 37)) _ D w2.heap.size gen :=
        ⟨⟨HD2.1.alloc _, HD2.2.alloc _⟩, d0, fun e => by have := (HD2.2.lt _ e).2; omega⟩
      have HIN' := Lib.hid HIN
      clear HIN HD2 d0 hA HD
      generalize w2.alloc _ = w3 at HIN' ⊢
      generalize w2.heap.size = B at HIN' ⊢
      go_loopw [5, 41] (fun l j wr => ∃ jj : Nat, jj ≤ 4 ∧ j = .int .i64 jj ∧ DIn W1 wr l (D ++ dirtyS ⟨gen, kind, nn, c0, c1, c2, c3, t, ws⟩ k g jj) B gen) (fun _ j _ => 4 - (intOf j).toNat)
      case atStart => exact ⟨0, by omega, rfl, by simpa [dirtyS] using HIN'.out⟩
      case round =>
        obtain ⟨j, hj, rfl, hin⟩ := hrel
        have HI := Lib.hid hin
        have d0 := hin.2.1
        clear hin
        by_cases hj4 : j < 4
        · have hsl := dirtyS_len ⟨gen, kind, nn, c0, c1, c2, c3, t, ws⟩ k g j
          have hbase := HI.out.1.1.size
          have hkl := HK.out
          clear HIN'
          obtain rfl | rfl | rfl | rfl : j = 0 ∨ j = 1 ∨ j = 2 ∨ j = 3 := by omega
          · by_cases hg : g < gen
            · by_cases hc : c0 ≤ g
              · have hst := dirty_step_yes (s := ⟨gen, kind, nn, c0, c1, c2, c3, t, ws⟩) (k := k) (g := g) (j := 0) D ⟨hg, hc⟩
                have HST := Lib.hid hst
                clear hst
                have hlen : (D ++ dirtyS ⟨gen, kind, nn, c0, c1, c2, c3, t, ws⟩ k g 0).length ≤ 5000 := by rw [List.length_append]; omega
                generalize D ++ dirtyS ⟨gen, kind, nn, c0, c1, c2, c3, t, ws⟩ k g 0 = E at *
                have HLN := Lib.hid hlen
                clear hlen hsl hDl
                go_wp2_with (at_builtin; refine wpList_append_lies _ rfl _ _ 85 rfl W1.heap.size 90 i0 (.agg #[.int .i64 0, .int .i64 0]) 2 16 Try.underlying85 hi'.out hz0'.out hz1'.out hz2'.out rfl (by decide) _ _ _ rfl (HI.out.1.2.alloc _) ⟨wr.heap.size, 0, none⟩ 1 1 [.int .i64 k, .int .i64 0] rfl rfl ?c1 ?c2 (by decide) ?c3 ?c4 ?c5 (wr.heap.size + 1) ?c6 ?_)
                case c1 => exact World.news_of_block (heap_alloc_new _ _)
                case c2 => intro u hu; simp at hu; rcases hu with rfl | rfl <;> rfl
                case c3 => have := HLN.out; unfold maxLen; omega
                case c4 => have := HLN.out; omega
                case c5 => simp; omega
                case c6 => simp
                intro g' cap' w4 hown' hgrow hat hlt'
                have HI2 := Lib.hid (HI.out.appended (k := k) (j := 0) (t := 90) hown' hgrow hat)
                clear hown' hgrow hat hlt' d0
                go_wp2_with fail
                go_roundw
                case rel => exact ⟨0 + 1, by omega, by go_num, by rw [HST.out]; exact HI2.out⟩
                case measure => simp [intOf]
              · have hst := dirty_step_no (s := ⟨gen, kind, nn, c0, c1, c2, c3, t, ws⟩) (k := k) (g := g) (j := 0) D (fun h => hc h.2)
                have HST := Lib.hid hst
                have hc' : g < c0 := by omega
                clear hst hc
                go_wp2_with fail
                go_roundw
                case rel => exact ⟨0 + 1, by omega, by go_num, by rw [HST.out]; exact HI.out⟩
                case measure => simp [intOf]
            · have hst := dirty_step_no (s := ⟨gen, kind, nn, c0, c1, c2, c3, t, ws⟩) (k := k) (g := g) (j := 0) D (fun h => hg h.1)
              have HST := Lib.hid hst
              have hg' : gen ≤ g := by omega
              clear hst hg
              go_wp2_with fail
              go_roundw
              case rel => exact ⟨0 + 1, by omega, by go_num, by rw [HST.out]; exact HI.out⟩
              case measure => simp [intOf]
          · by_cases hg : g < gen
            · by_cases hc : c1 ≤ g
              · have hst := dirty_step_yes (s := ⟨gen, kind, nn, c0, c1, c2, c3, t, ws⟩) (k := k) (g := g) (j := 1) D ⟨hg, hc⟩
                have HST := Lib.hid hst
                clear hst
                have hlen : (D ++ dirtyS ⟨gen, kind, nn, c0, c1, c2, c3, t, ws⟩ k g 1).length ≤ 5000 := by rw [List.length_append]; omega
                generalize D ++ dirtyS ⟨gen, kind, nn, c0, c1, c2, c3, t, ws⟩ k g 1 = E at *
                have HLN := Lib.hid hlen
                clear hlen hsl hDl
                go_wp2_with (at_builtin; refine wpList_append_lies _ rfl _ _ 85 rfl W1.heap.size 90 i0 (.agg #[.int .i64 0, .int .i64 0]) 2 16 Try.underlying85 hi'.out hz0'.out hz1'.out hz2'.out rfl (by decide) _ _ _ rfl (HI.out.1.2.alloc _) ⟨wr.heap.size, 0, none⟩ 1 1 [.int .i64 k, .int .i64 1] rfl rfl ?c1 ?c2 (by decide) ?c3 ?c4 ?c5 (wr.heap.size + 1) ?c6 ?_)
                case c1 => exact World.news_of_block (heap_alloc_new _ _)
                case c2 => intro u hu; simp at hu; rcases hu with rfl | rfl <;> rfl
                case c3 => have := HLN.out; unfold maxLen; omega
                case c4 => have := HLN.out; omega
                case c5 => simp; omega
                case c6 => simp
                intro g' cap' w4 hown' hgrow hat hlt'
                have HI2 := Lib.hid (HI.out.appended (k := k) (j := 1) (t := 90) hown' hgrow hat)
                clear hown' hgrow hat hlt' d0
                go_wp2_with fail
                go_roundw
                case rel => exact ⟨1 + 1, by omega, by go_num, by rw [HST.out]; exact HI2.out⟩
                case measure => simp [intOf]
              · have hst := dirty_step_no (s := ⟨gen, kind, nn, c0, c1, c2, c3, t, ws⟩) (k := k) (g := g) (j := 1) D (fun h => hc h.2)
                have HST := Lib.hid hst
                have hc' : g < c1 := by omega
                clear hst hc
                go_wp2_with fail
                go_roundw
                case rel => exact ⟨1 + 1, by omega, by go_num, by rw [HST.out]; exact HI.out⟩
                case measure => simp [intOf]
            · have hst := dirty_step_no (s := ⟨gen, kind, nn, c0, c1, c2, c3, t, ws⟩) (k := k) (g := g) (j := 1) D (fun h => hg h.1)
              have HST := Lib.hid hst
              have hg' : gen ≤ g := by omega
              clear hst hg
              go_wp2_with fail
              go_roundw
              case rel => exact ⟨1 + 1, by omega, by go_num, by rw [HST.out]; exact HI.out⟩
              case measure => simp [intOf]
          · by_cases hg : g < gen
            · by_cases hc : c2 ≤ g
              · have hst := dirty_step_yes (s := ⟨gen, kind, nn, c0, c1, c2, c3, t, ws⟩) (k := k) (g := g) (j := 2) D ⟨hg, hc⟩
                have HST := Lib.hid hst
                clear hst
                have hlen : (D ++ dirtyS ⟨gen, kind, nn, c0, c1, c2, c3, t, ws⟩ k g 2).length ≤ 5000 := by rw [List.length_append]; omega
                generalize D ++ dirtyS ⟨gen, kind, nn, c0, c1, c2, c3, t, ws⟩ k g 2 = E at *
                have HLN := Lib.hid hlen
                clear hlen hsl hDl
                go_wp2_with (at_builtin; refine wpList_append_lies _ rfl _ _ 85 rfl W1.heap.size 90 i0 (.agg #[.int .i64 0, .int .i64 0]) 2 16 Try.underlying85 hi'.out hz0'.out hz1'.out hz2'.out rfl (by decide) _ _ _ rfl (HI.out.1.2.alloc _) ⟨wr.heap.size, 0, none⟩ 1 1 [.int .i64 k, .int .i64 2] rfl rfl ?c1 ?c2 (by decide) ?c3 ?c4 ?c5 (wr.heap.size + 1) ?c6 ?_)
                case c1 => exact World.news_of_block (heap_alloc_new _ _)
                case c2 => intro u hu; simp at hu; rcases hu with rfl | rfl <;> rfl
                case c3 => have := HLN.out; unfold maxLen; omega
                case c4 => have := HLN.out; omega
                case c5 => simp; omega
                case c6 => simp
                intro g' cap' w4 hown' hgrow hat hlt'
                have HI2 := Lib.hid (HI.out.appended (k := k) (j := 2) (t := 90) hown' hgrow hat)
                clear hown' hgrow hat hlt' d0
                go_wp2_with fail
                go_roundw
                case rel => exact ⟨2 + 1, by omega, by go_num, by rw [HST.out]; exact HI2.out⟩
                case measure => simp [intOf]
              · have hst := dirty_step_no (s := ⟨gen, kind, nn, c0, c1, c2, c3, t, ws⟩) (k := k) (g := g) (j := 2) D (fun h => hc h.2)
                have HST := Lib.hid hst
                have hc' : g < c2 := by omega
                clear hst hc
                go_wp2_with fail
                go_roundw
                case rel => exact ⟨2 + 1, by omega, by go_num, by rw [HST.out]; exact HI.out⟩
                case measure => simp [intOf]
            · have hst := dirty_step_no (s := ⟨gen, kind, nn, c0, c1, c2, c3, t, ws⟩) (k := k) (g := g) (j := 2) D (fun h => hg h.1)
              have HST := Lib.hid hst
              have hg' : gen ≤ g := by omega
              clear hst hg
              go_wp2_with fail
              go_roundw
              case rel => exact ⟨2 + 1, by omega, by go_num, by rw [HST.out]; exact HI.out⟩
              case measure => simp [intOf]
          · by_cases hg : g < gen
            · by_cases hc : c3 ≤ g
              · have hst := dirty_step_yes (s := ⟨gen, kind, nn, c0, c1, c2, c3, t, ws⟩) (k := k) (g := g) (j := 3) D ⟨hg, hc⟩
                have HST := Lib.hid hst
                clear hst
                have hlen : (D ++ dirtyS ⟨gen, kind, nn, c0, c1, c2, c3, t, ws⟩ k g 3).length ≤ 5000 := by rw [List.length_append]; omega
                generalize D ++ dirtyS ⟨gen, kind, nn, c0, c1, c2, c3, t, ws⟩ k g 3 = E at *
                have HLN := Lib.hid hlen
                clear hlen hsl hDl
                go_wp2_with (at_builtin; refine wpList_append_lies _ rfl _ _ 85 rfl W1.heap.size 90 i0 (.agg #[.int .i64 0, .int .i64 0]) 2 16 Try.underlying85 hi'.out hz0'.out hz1'.out hz2'.out rfl (by decide) _ _ _ rfl (HI.out.1.2.alloc _) ⟨wr.heap.size, 0, none⟩ 1 1 [.int .i64 k, .int .i64 3] rfl rfl ?c1 ?c2 (by decide) ?c3 ?c4 ?c5 (wr.heap.size + 1) ?c6 ?_)
                case c1 => exact World.news_of_block (heap_alloc_new _ _)
                case c2 => intro u hu; simp at hu; rcases hu with rfl | rfl <;> rfl
                case c3 => have := HLN.out; unfold maxLen; omega
                case c4 => have := HLN.out; omega
                case c5 => simp; omega
                case c6 => simp
                intro g' cap' w4 hown' hgrow hat hlt'
                have HI2 := Lib.hid (HI.out.appended (k := k) (j := 3) (t := 90) hown' hgrow hat)
                clear hown' hgrow hat hlt' d0
                go_wp2_with fail
                go_roundw
                case rel => exact ⟨3 + 1, by omega, by go_num, by rw [HST.out]; exact HI2.out⟩
                case measure => simp [intOf]
              · have hst := dirty_step_no (s := ⟨gen, kind, nn, c0, c1, c2, c3, t, ws⟩) (k := k) (g := g) (j := 3) D (fun h => hc h.2)
                have HST := Lib.hid hst
                have hc' : g < c3 := by omega
                clear hst hc
                go_wp2_with fail
                go_roundw
                case rel => exact ⟨3 + 1, by omega, by go_num, by rw [HST.out]; exact HI.out⟩
                case measure => simp [intOf]
            · have hst := dirty_step_no (s := ⟨gen, kind, nn, c0, c1, c2, c3, t, ws⟩) (k := k) (g := g) (j := 3) D (fun h => hg h.1)
              have HST := Lib.hid hst
              have hg' : gen ≤ g := by omega
              clear hst hg
              go_wp2_with fail
              go_roundw
              case rel => exact ⟨3 + 1, by omega, by go_num, by rw [HST.out]; exact HI.out⟩
              case measure => simp [intOf]
        · obtain rfl : j = 4 := by omega
          have HR := Lib.hid HI.out.1
          clear HI HIN' d0
          go_wp2_with fail
          go_roundw
          case rel => exact ⟨a + 1, by omega, by go_num, by rw [HN.out]; exact HR.out⟩
          case measure => simp [intOf]; omega
    · obtain rfl : a = T.length := by omega
      have HD' := HD.out
      rw [List.take_length] at HD'
      have hsz := O1.out.size
      have HF := Lib.hid HD'
      clear HD HD' q1 q2
      go_wp2_with fail
      go_ret
      refine ⟨_, T, rfl, HT.out, ?_, O1.out.trans HF.out.1⟩
      have hown := HF.out.2
      rcases hown.2 with ⟨hl, hlen⟩ | ⟨gb, gcap, cur, hl, hgb, _⟩
      · exact .inl ⟨hl, List.eq_nil_of_length_eq_zero hlen⟩
      · subst hl
        refine .inr ⟨gb, gcap, by omega, rfl, fun i hi => ?_⟩
        have := cardsV_get (dirtyL M T g) i hi
        exact ⟨by rw [hown.cellAt (i * 2) (by omega)]; exact this.1, by rw [hown.cellAt (i * 2 + 1) (by omega)]; exact this.2⟩
end Go.Proofs.Ytoafoodgomnfeaa
