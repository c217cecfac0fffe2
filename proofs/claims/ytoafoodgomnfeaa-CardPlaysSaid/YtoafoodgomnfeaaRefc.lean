/-
  YtoafoodgomnfeaaRefc: New and Take of the document's memory.
-/
import Derived.Test.YtoafoodgomnfeaaRefb
import Derived.Deep.AppendLies
namespace Go.Proofs.Ytoafoodgomnfeaa
open Go.RowKit
set_option linter.unusedVariables false

theorem rnew_arg (x : Int) (w : World) (h : x < 8 ∨ 1024 < x) :
    Calls Try.prog 24 #[.int .i64 x] w fun e w' => e = .returned (.pointer none) ∧ w = w' := by
  by_cases h1 : x < 8
  · go_enter Try.func24, Try.ntmps24
    go_wp2
    go_ret
    exact ⟨rfl, rfl⟩
  · have h2 : 1024 < x := by omega
    clear h
    go_enter Try.func24, Try.ntmps24
    go_wp2
    go_ret
    exact ⟨rfl, rfl⟩
theorem rnew_ok (n : Nat) (w : World) (h1 : 8 ≤ n) (h2 : n ≤ 1024) (M : MemS) (V : Nat → Value) :
    Calls Try.prog 24 #[.int .i64 n] w fun e w' => e = .returned (.pointer (some ⟨w.heap.size, 0, none⟩)) ∧ RefAt w' w.heap.size n M [] V (.slice none 0 0) ∧ Off [] w w' := by
  have hA : ∀ o, (w.alloc o).heap[w.heap.size]? = some o := fun o => Array.getElem?_push_size
  have hR : RefAt (w.alloc (.cells #[.int .i64 n, .slice none 0 0] 120)) w.heap.size n M [] V (.slice none 0 0) :=
    ⟨by rw [cell_of_row _ _ 0 _ _ _ (hA _)]; rfl, by rw [cell_of_row _ _ 1 _ _ _ (hA _)]; rfl, frozen_of_row _ _ _ _ _ (hA _), World.ownsRow_nil _ _ _ _, fun k hk => by simp at hk, by simp [Value.ownBlock], fun k hk => by simp at hk, fun k hk => by simp at hk⟩
  have HR := Lib.hid hR
  clear hR hA
  go_enter Try.func24, Try.ntmps24
  go_wp2
  go_ret
  exact ⟨rfl, HR.out, (Off.refl _ _).alloc _⟩

theorem info125 : (Try.prog.info? 125).map (fun i => (i.zero, i.size, i.bytes)) = some (some (.agg #[.int .i64 0, .int .i64 0, .int .i64 0, .int .i64 0, .int .i64 0, .int .i64 0, .int .i64 0, .int .i64 0, .slice none 0 0]), 9, 88) := by kernel_rfl

theorem rowR_append {M M' : MemS} {V V' : Nat → Value} {T : List Nat} {k : Nat} (h : ∀ x, x ∈ T → ∀ q, q < 9 → cellR M' V' x q = cellR M V x q) :
    rowR M' V' (T ++ [k]) = rowR M V T ++ (List.range 9).map (cellR M' V' k) := by
  unfold rowR
  rw [List.length_append, List.length_singleton, Nat.add_mul, Nat.one_mul, List.range_add, List.map_append, List.map_map]
  congr 1
  · refine List.map_congr_left fun q hq => ?_
    rw [List.mem_range] at hq
    have e : (T ++ [k]).getD (q / 9) 0 = T.getD (q / 9) 0 := by rw [List.getD, List.getD, List.getElem?_append_left (by omega)]
    rw [e]
    exact h _ (getD_mem (by omega)) _ (by omega)
  · refine List.map_congr_left fun q hq => ?_
    rw [List.mem_range] at hq
    simp only [Function.comp_apply]
    have e : (T ++ [k]).getD ((T.length * 9 + q) / 9) 0 = k := by
      rw [show (T.length * 9 + q) / 9 = T.length by omega, List.getD, List.getElem?_append_right (by omega)]
      simp
    rw [e, show (T.length * 9 + q) % 9 = q by omega]

theorem TakenIs.take {n c : Nat} {M : MemS} (W : Wf n M c) {T : List Nat} (hT : TakenIs M n [] T) {k : Nat} (hk : k < n) (h0 : (M.S k).taken = 0) (a b : Int) : TakenIs (M.take k a b) n [] (T ++ [k]) := by
  have hs : (M.take k a b).S k = fresh a b (M.count + 1) := MemS.put_same _ _ _
  have ho : ∀ j, j ≠ k → (M.take k a b).S j = M.S j := fun j hj => MemS.put_other _ _ _ hj
  have hc := W.cnt0
  have hne : ∀ x, x ∈ T → x ≠ k := fun x hx e => by have := (hT.mem_taken hx).2; rw [e] at this; exact this h0
  refine ⟨fun x => ?_, ?_⟩
  · rw [List.mem_append, List.mem_singleton]
    by_cases e : x = k
    · subst e
      simp only [or_true, true_iff]
      exact ⟨hk, selB_all (by rw [hs]; show M.count + 1 ≠ 0; omega)⟩
    · simp only [e, or_false]
      rw [hT.mem]
      simp [selB, ho x e]
  · rw [List.pairwise_append]
    refine ⟨?_, by simp, fun x hx y hy => ?_⟩
    · refine (List.Pairwise.and_mem.1 hT.ord).imp ?_
      rintro x y ⟨hx, hy, hxy⟩
      rw [ho x (hne x hx), ho y (hne y hy)]
      exact hxy
    · simp only [List.mem_singleton] at hy
      subst hy
      rw [ho x (hne x hx), hs]
      have := (W.tk x (hT.mem_taken hx).1).2
      show _ < M.count + 1
      omega

theorem Off.grownL {L : List Nat} {a w w' : World} {row : Option Nat} (h : Off L a w) (hg : w.grownBy w' row) (hr : ∀ k, row = some k → k ∈ L ∨ a.heap.size ≤ k) : Off L a w' :=
  ⟨hg.os.trans h.os, hg.tape.trans h.tape, hg.output.trans h.output, Nat.le_trans h.size hg.size, fun k hk hn => (hg.block k (Nat.lt_of_lt_of_le hk h.size) (fun e => by rcases hr k e.symm with h' | h'; exact hn h'; omega)).trans (h.block k hk hn)⟩
/-- The document's memory stands for M', and nothing but its own has turned; what is its own now was so, or is new. -/
def RefTo (rb n : Nat) (M' : MemS) (T : List Nat) (V : Nat → Value) (v : Value) (w w' : World) : Prop :=
  ∃ T' V' v', RefAt w' rb n M' T' V' v' ∧ TakenIs M' n [] T' ∧ RefFrame rb T V v w w' ∧ ∀ b, RefOwn rb T' V' v' b → RefOwn rb T V v b ∨ w.heap.size ≤ b
theorem RefTo.same {w : World} {rb n : Nat} {M : MemS} {T : List Nat} {V : Nat → Value} {v : Value} (h : RefAt w rb n M T V v) (hT : TakenIs M n [] T) : RefTo rb n M T V v w w := ⟨T, V, v, h, hT, RefFrame.refl _ _ _ _ _, fun b hb => .inl hb⟩
/-- The block of a slice. -/
def blkL (v : Value) : List Nat := match v.ownBlock with | some b => [b] | none => []
theorem blkL_mem {v : Value} {b : Nat} (h : v.ownBlock = some b) : b ∈ blkL v := by unfold blkL; rw [h]; simp
theorem blkL_own {v : Value} {b : Nat} (h : b ∈ blkL v) : v.ownBlock = some b := by
  unfold blkL at h
  split at h
  · rename_i c hc; simp at h; rw [hc, h]
  · simp at h

theorem RefAt.taken {w w8 : World} {rb N n c : Nat} {M : MemS} {T : List Nat} {V : Nat → Value} {v : Value} (h : RefAt w rb N M T V v) (W : Wf n M c) (hT : TakenIs M n [] T) {k : Nat} (h0 : (M.S k).taken = 0) (a b : Int) {o : Obj} {g' cap' : Nat}
    (hown : w8.ownsRow 0 125 9 (.slice (some ⟨g', 0, none⟩) (T.length + 1) cap') (T.length + 1) (rowR M V T ++ [.int .i64 (k : Int), .int .i64 a, .int .i64 b, .int .i64 0, .int .i64 5, .int .i64 5, .int .i64 5, .int .i64 5, .slice none 0 0]))
    (hgrow : (w.alloc o).grownBy w8 v.ownBlock) (hat : v.ownBlock = some g' ∨ g' = w.heap.size + 1) :
    RefAt (w8.setCell ⟨rb, 1, none⟩ (.slice (some ⟨g', 0, none⟩) (T.length + 1) cap')) rb N (M.take k a b) (T ++ [k]) (fun x => if x = k then .slice none 0 0 else V x) (.slice (some ⟨g', 0, none⟩) (T.length + 1) cap') ∧
      RefFrame rb T V v w (w8.setCell ⟨rb, 1, none⟩ (.slice (some ⟨g', 0, none⟩) (T.length + 1) cap')) ∧
      ∀ q, RefOwn rb (T ++ [k]) (fun x => if x = k then .slice none 0 0 else V x) (.slice (some ⟨g', 0, none⟩) (T.length + 1) cap') q → RefOwn rb T V v q ∨ w.heap.size ≤ q := by
  have hrb := h.lt (.inl rfl : RefOwn rb T V v rb)
  have hs : (M.take k a b).S k = fresh a b (M.count + 1) := MemS.put_same _ _ _
  have ho : ∀ j, j ≠ k → (M.take k a b).S j = M.S j := fun j hj => MemS.put_other _ _ _ hj
  have hne : ∀ x, x ∈ T → x ≠ k := fun x hx e => by have := (hT.mem_taken hx).2; rw [e] at this; exact this h0
  have hgrb : g' ≠ rb := by
    rcases hat with e | e
    · intro e'; exact h.apv (by rw [e, e'])
    · omega
  have O8 : Off (blkL v) w w8 := ((Off.refl (blkL v) w).alloc o).grownL hgrow (fun j hj => .inl (blkL_mem hj))
  have O9 : Off [rb] w8 (w8.setCell ⟨rb, 1, none⟩ (.slice (some ⟨g', 0, none⟩) (T.length + 1) cap')) := (Off.refl _ _).setCell (by simp) _
  have hrv : rb ∉ blkL v := fun hm => h.apv (blkL_own hm)
  refine ⟨⟨?_, ?_, ?_, ?_, fun x hx => ?_, ?_, fun x hx q hq => ?_, fun x hx y hy hxy q hq => ?_⟩, ?_, ?_⟩
  · rw [World.cell?_setCell_other _ _ _ _ (by simp)]; exact O8.cell h.n0 hrv
  · exact World.cell?_setCell_same _ _ _ (O8.cell h.l hrv)
  · rw [World.frozen?_setCell]; exact (O8.frozen (p := ⟨rb, 1, none⟩) hrb hrv).trans h.fz
  · rw [List.length_append, List.length_singleton, rowR_append (M := M) (V := V) (fun x hx q hq => ?_)]
    · have e : (List.range 9).map (cellR (M.take k a b) (fun x => if x = k then .slice none 0 0 else V x) k) = [.int .i64 (k : Int), .int .i64 a, .int .i64 b, .int .i64 0, .int .i64 5, .int .i64 5, .int .i64 5, .int .i64 5, .slice none 0 0] := by
        simp [List.range, List.range.loop, cellR, hs, fresh]
      rw [e]
      exact ownsRow_off2 hown O9 (fun q hq => by simp only [Value.ownBlock, Option.some.injEq] at hq; simp; omega)
    · have := hne x hx
      match q, hq with
      | 0, _ | 1, _ | 2, _ | 3, _ | 4, _ | 5, _ | 6, _ | 7, _ => simp only [cellR, ho x this]
      | 8, _ => simp only [cellR, if_neg this]
  · rw [List.mem_append, List.mem_singleton] at hx
    by_cases e : x = k
    · subst e
      have e2 : wordsR (M.take x a b) x = [] := by unfold wordsR; rw [hs]; rfl
      have e3 : ((M.take x a b).S x).n.toNat = 0 := by rw [hs]; rfl
      rw [e2, e3]
      simp only [if_true]
      exact World.ownsRow_nil _ _ _ _
    · have hxT : x ∈ T := by rcases hx with h | h; exact h; exact absurd h e
      have e2 : wordsR (M.take k a b) x = wordsR M x := by unfold wordsR; rw [ho x e]
      rw [e2, ho x e]
      simp only [if_neg e]
      exact ownsRow_off2 (ownsRow_off2 (h.wrow x hxT) O8 (fun q hq hm => (h.ap1 x hxT q hq).1 (blkL_own hm))) O9 (fun q hq => by have := (h.ap1 x hxT q hq).2; simpa using this)
  · simp only [Value.ownBlock, ne_eq, Option.some.injEq]; exact hgrb
  · rw [List.mem_append, List.mem_singleton] at hx
    by_cases e : x = k
    · simp only [e, if_true, Value.ownBlock] at hq; cases hq
    · have hxT : x ∈ T := by rcases hx with h | h; exact h; exact absurd h e
      simp only [if_neg e] at hq
      have h1 := h.ap1 x hxT q hq
      refine ⟨?_, h1.2⟩
      simp only [Value.ownBlock, ne_eq, Option.some.injEq]
      rcases hat with e' | e'
      · intro e2; exact h1.1 (by rw [e', e2])
      · have := ((h.wrow x hxT).lt q hq).2; omega
  · rw [List.mem_append, List.mem_singleton] at hx hy
    by_cases e : x = k
    · simp only [e, if_true, Value.ownBlock] at hq; cases hq
    · have hxT : x ∈ T := by rcases hx with h | h; exact h; exact absurd h e
      simp only [if_neg e] at hq
      by_cases e' : y = k
      · simp only [e', if_true, Value.ownBlock]; simp
      · have hyT : y ∈ T := by rcases hy with h | h; exact h; exact absurd h e'
        simp only [if_neg e']
        exact h.ap2 x hxT y hyT hxy q hq
  · refine ⟨rb :: blkL v, (O8.mono (fun q hq => by simp [hq])).trans (O9.mono (fun q hq => by simp at hq; simp [hq])), fun q hq => ?_⟩
    simp only [List.mem_cons] at hq
    rcases hq with rfl | hq
    · exact .inl rfl
    · exact .inr (.inl (blkL_own hq))
  · intro q hq
    rcases hq with rfl | hq | ⟨x, hx, hq⟩
    · exact .inl (.inl rfl)
    · simp only [Value.ownBlock, Option.some.injEq] at hq
      rcases hat with e | e
      · exact .inl (.inr (.inl (by rw [e, hq])))
      · exact .inr (by omega)
    · rw [List.mem_append, List.mem_singleton] at hx
      by_cases e : x = k
      · simp only [e, if_true, Value.ownBlock] at hq; cases hq
      · have hxT : x ∈ T := by rcases hx with h | h; exact h; exact absurd h e
        simp only [if_neg e] at hq
        exact .inl (.inr (.inr ⟨x, hxT, hq⟩))

set_option maxHeartbeats 2000000 in
set_option maxRecDepth 100000 in
theorem rtake_all {w : World} {rb n c : Nat} {M M' : MemS} {T : List Nat} {V : Nat → Value} {v : Value} (h : RefAt w rb n M T V v) (W : Wf n M c) (hT : TakenIs M n [] T) (hn0 : 0 < n) (hn : n ≤ 1024) (a b : Int) {r s : Int} (hR : TakeIs n M a b r s M') :
    Calls Try.prog 63 #[.pointer (some ⟨rb, 0, none⟩), .int .i64 a, .int .i64 b] w fun e w' => e = .returned (.tuple #[.int .i64 r, .int .i64 s]) ∧ RefTo rb n M' T V v w w' := by
  have hTl := hT.len
  have hpn : ∀ k, k < n → (M.S k).taken = 0 → _ := fun k hk h0 => place_none h hT hn (x := (k : Int)) (fun hx => hx.2.2 (by rw [Int.toNat_natCast]; exact h0))
  have hpy : ∀ k, k < n → (M.S k).taken ≠ 0 → ∃ i : Nat, _ := fun k hk h0 => by
    obtain ⟨i, hi, _, hp⟩ := place_taken h hT hn (x := (k : Int)) ⟨by omega, by omega, by rw [Int.toNat_natCast]; exact h0⟩
    exact (⟨i, hp⟩ : ∃ i : Nat, Calls Try.prog 91 #[.pointer (some ⟨rb, 0, none⟩), .int .i64 k] w fun e w' => e = .returned (.int .i64 i) ∧ w = w')
  have HPN := Lib.hid hpn
  have HPY := Lib.hid hpy
  have hn1 := h.n0
  have hh := Lib.hid h
  have hT' := Lib.hid hT
  have WW := Lib.hid W
  clear hpn hpy
  rcases hR with ⟨rfl, k, rfl, hk, hkf, hkl, ha0, ha4, hb0, hb3, rfl⟩ | ⟨rfl, rfl, rfl, hbad⟩ | ⟨rfl, rfl, rfl, hfr, ha0, ha4, hb0, hb3⟩
  · obtain ⟨i0, hi, hz0, hz1, hz2⟩ := info_parts info125
    have hi' := Lib.hid hi
    have hz0' := Lib.hid hz0
    have hz1' := Lib.hid hz1
    have hz2' := Lib.hid hz2
    have HKL := Lib.hid hkl
    have HKF := Lib.hid hkf
    have hrow := h.row
    have hl := h.l
    have hfz := h.fz
    have hrb := hh.out.lt (.inl rfl : RefOwn rb T V v rb)
    clear hi hz0 hz1 hz2 hkl hkf h hT W
    go_enter Try.func63, Try.ntmps63
    go_wp2
    go_loop [8] (fun v => ∃ j : Nat, j ≤ k ∧ v = .int .i64 j) (fun v => k - (intOf v).toNat)
    case atStart => exact ⟨0, by omega, rfl⟩
    case round =>
      obtain ⟨j, hj, rfl⟩ := hrel
      by_cases hlt : j < k
      · obtain ⟨i, hp⟩ := HPY.out j (by omega) (HKL.out j hlt)
        have HP := Lib.hid hp
        clear hp
        have hjn : (j : Int) < (n : Int) := by omega
        go_wp2_with fail
        refine HP.out.mono ?_
        rintro e w2 ⟨rfl, rfl⟩
        have hi0 : (0 : Int) ≤ (i : Int) := by omega
        go_wp2_with fail
        go_round
        case rel => exact ⟨j + 1, by omega, by go_num⟩
        case measure => simp [intOf]; omega
      · obtain rfl : j = k := by omega
        have HP := Lib.hid (HPN.out j hk HKF.out)
        have hjn : (j : Int) < (n : Int) := by omega
        go_wp2_with fail
        refine HP.out.mono ?_
        rintro e w2 ⟨rfl, rfl⟩
        have HOWN := Lib.hid hrow
        go_wp2_with (at_builtin; refine wpList_append_lies _ rfl _ _ 118 rfl 0 125 i0 (.agg #[.int .i64 0, .int .i64 0, .int .i64 0, .int .i64 0, .int .i64 0, .int .i64 0, .int .i64 0, .int .i64 0, .slice none 0 0]) 9 88 Try.underlying118 hi'.out hz0'.out hz1'.out hz2'.out rfl (by decide) _ _ _ rfl (HOWN.out.alloc _) ⟨w.heap.size, 0, none⟩ 1 1 [.int .i64 j, .int .i64 a, .int .i64 b, .int .i64 0, .int .i64 5, .int .i64 5, .int .i64 5, .int .i64 5, .slice none 0 0] rfl rfl ?c1 ?c2 (by decide) ?c3 ?c4 ?c5 (w.heap.size + 1) ?c6 ?_)
        case c1 => exact World.news_of_block (heap_alloc_new _ _)
        case c2 => intro u hu; simp at hu; rcases hu with rfl | rfl | rfl | rfl | rfl | rfl <;> rfl
        case c3 => unfold maxLen; omega
        case c4 => omega
        case c5 => omega
        case c6 => simp
        intro g' cap' w8 hown' hgrow hat hlt'
        have hfin := hh.out.taken WW.out hT'.out (HKF.out) a b hown' hgrow hat
        have hTT := hT'.out.take WW.out hk HKF.out a b
        have hr8 : some rb ≠ v.ownBlock := fun e => hh.out.apv e.symm
        have l8 : w8.cell? ⟨rb, 1, none⟩ = some v := by
          rw [hgrow.cell_far _ (by simp; omega) hr8]
          exact ((Off.refl [] w).alloc _).cell hl (by simp)
        have z8 : w8.frozen? ⟨rb, 1, none⟩ = false := by
          rw [hgrow.frozen_far _ (by simp; omega) hr8]
          exact (((Off.refl [] w).alloc _).frozen (p := ⟨rb, 1, none⟩) hrb (by simp)).trans hfz
        have HFIN := Lib.hid (And.intro hTT hfin)
        clear hown' hgrow hat hlt' hfin hTT hr8 hrow hl hfz HOWN
        obtain ⟨va, vcap, vg, rfl, _, _⟩ := hh.out.form
        go_wp2_with fail
        go_ret2
        exact ⟨rfl, _, _, _, HFIN.out.2.1, HFIN.out.1, HFIN.out.2.2.1, HFIN.out.2.2.2⟩
  · clear h hT W
    have hfin := Lib.hid (RefTo.same hh.out hT'.out)
    by_cases b1 : a < 0
    · go_enter Try.func63, Try.ntmps63
      go_wp2
      go_ret2
      exact ⟨rfl, hfin.out⟩
    by_cases b2 : 4 < a
    · go_enter Try.func63, Try.ntmps63
      go_wp2
      go_ret2
      exact ⟨rfl, hfin.out⟩
    by_cases b3 : b < 0
    · go_enter Try.func63, Try.ntmps63
      go_wp2
      go_ret2
      exact ⟨rfl, hfin.out⟩
    have b4 : 3 < b := by omega
    clear hbad
    go_enter Try.func63, Try.ntmps63
    go_wp2
    go_ret2
    exact ⟨rfl, hfin.out⟩
  · have hall := freeN_zero (S := M'.S) (n := n) (by have := W.free; omega)
    have HALL := Lib.hid hall
    have hfin := Lib.hid (RefTo.same hh.out hT'.out)
    clear h hT W hall hfr
    go_enter Try.func63, Try.ntmps63
    go_wp2
    go_loop [8] (fun v => ∃ j : Nat, j ≤ n ∧ v = .int .i64 j) (fun v => n - (intOf v).toNat)
    case atStart => exact ⟨0, by omega, rfl⟩
    case round =>
      obtain ⟨j, hj, rfl⟩ := hrel
      by_cases hlt : j < n
      · obtain ⟨i, hp⟩ := HPY.out j (by omega) (HALL.out j hlt)
        have HP := Lib.hid hp
        clear hp
        have hjn : (j : Int) < (n : Int) := by omega
        go_wp2_with fail
        refine HP.out.mono ?_
        rintro e w2 ⟨rfl, rfl⟩
        have hi0 : (0 : Int) ≤ (i : Int) := by omega
        go_wp2_with fail
        go_round
        case rel => exact ⟨j + 1, by omega, by go_num⟩
        case measure => simp [intOf]; omega
      · obtain rfl : j = n := by omega
        go_wp2_with fail
        go_ret2
        exact ⟨rfl, hfin.out⟩
end Go.Proofs.Ytoafoodgomnfeaa
