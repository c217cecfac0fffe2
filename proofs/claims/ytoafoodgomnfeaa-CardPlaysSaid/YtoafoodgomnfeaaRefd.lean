/-
  YtoafoodgomnfeaaRefd: Bump of the document's memory.
-/
import Derived.Test.YtoafoodgomnfeaaRefc
namespace Go.Proofs.Ytoafoodgomnfeaa
open Go.RowKit
set_option linter.unusedVariables false

def wordsC (M : MemS) (k c : Nat) : List Value := (List.range c).map fun j => .int .u64 ((M.S k).words j)
theorem wordsC_succ (M : MemS) (k c : Nat) : wordsC M k (c + 1) = wordsC M k c ++ [.int .u64 ((M.S k).words c)] := by simp [wordsC, List.range_succ]

/-- In the loop that bumps: j words more lie there, the slice of them at cell 8 of the segment's nine. -/
def BRel (w wr : World) (M : MemS) (T : List Nat) (V : Nat → Value) (v : Value) (k i lg len j : Nat) : Prop := ∃ u,
  wr.ownsRow 0 29 1 u (len + j) (wordsC M k (len + j)) ∧ wr.ownsRow 0 125 9 v T.length ((rowR M V T).set (i * 9 + 8) u) ∧ Off (lg :: blkL (V k)) w wr ∧ ∀ b, u.ownBlock = some b → (V k).ownBlock = some b ∨ w.heap.size ≤ b

theorem info29 : (Try.prog.info? 29).map (fun i => (i.zero, i.size, i.bytes)) = some (some (.int .u64 0), 1, 8) := by kernel_rfl

theorem own_slice {v : Value} {g : Nat} (h : v.ownBlock = some g) (hv : ∃ a n c, v = .slice a n c) : ∃ a n c, v = .slice (some a) n c ∧ a.block = g := by
  obtain ⟨a, n, c, rfl⟩ := hv
  cases a with
  | none => simp [Value.ownBlock] at h
  | some a => exact ⟨a, n, c, rfl, by simpa [Value.ownBlock] using h⟩

/-- The row's cell q turned. -/
theorem ownsRow_set {w : World} {e : TypeId} {size : Nat} {v : Value} {n g : Nat} {xs : List Value} (h : w.ownsRow 0 e size v n xs) (hg : v.ownBlock = some g) (q : Nat) (u : Value) : (w.setCell ⟨g, q, none⟩ u).ownsRow 0 e size v n (xs.set q u) := by
  rcases h.2 with ⟨h0, _⟩ | ⟨g', cap, cur, h0, _⟩
  · rw [h0] at hg; simp [Value.ownBlock] at hg
  · rw [h0] at hg h
    simp only [Value.ownBlock, Option.some.injEq] at hg
    subst hg
    rw [h0]
    exact (h.stored q u).1

theorem BRel.step {w wr w8 : World} {M : MemS} {T : List Nat} {V : Nat → Value} {v u : Value} {k i lg len j g' cap' : Nat} {o : Obj} (hi : i < T.length) (hg : v.ownBlock = some lg) (hlg : lg < w.heap.size) (hk8 : (V k).ownBlock ≠ some lg)
    (h1 : wr.ownsRow 0 29 1 u (len + j) (wordsC M k (len + j))) (h2 : wr.ownsRow 0 125 9 v T.length ((rowR M V T).set (i * 9 + 8) u)) (h3 : Off (lg :: blkL (V k)) w wr) (h4 : ∀ b, u.ownBlock = some b → (V k).ownBlock = some b ∨ w.heap.size ≤ b)
    (hz : (M.S k).words (len + j) = 0)
    (hown : w8.ownsRow 0 29 1 (.slice (some ⟨g', 0, none⟩) (len + j + 1) cap') (len + j + 1) (wordsC M k (len + j) ++ [.int .u64 0])) (hgrow : (wr.alloc o).grownBy w8 u.ownBlock) (hat : u.ownBlock = some g' ∨ g' = wr.heap.size + 1) :
    BRel w (w8.setCell ⟨lg, i * 9 + 8, none⟩ (.slice (some ⟨g', 0, none⟩) (len + j + 1) cap')) M T V v k i lg len (j + 1) := by
  have hul : u.ownBlock ≠ some lg := fun e => by rcases h4 lg e with h | h; exact hk8 h; omega
  have hgl : g' ≠ lg := by
    rcases hat with e | e
    · intro e'; exact hul (by rw [e, e'])
    · have := h3.size; omega
  have O8 : Off (blkL u) wr w8 := ((Off.refl (blkL u) wr).alloc o).grownL hgrow (fun q hq => .inl (blkL_mem hq))
  have O9 : Off [lg] w8 (w8.setCell ⟨lg, i * 9 + 8, none⟩ (.slice (some ⟨g', 0, none⟩) (len + j + 1) cap')) := (Off.refl _ _).setCell (by simp) _
  refine ⟨.slice (some ⟨g', 0, none⟩) (len + j + 1) cap', ?_, ?_, ?_, fun b hb => ?_⟩
  · rw [← Nat.add_assoc, wordsC_succ, hz]
    exact ownsRow_off2 hown O9 (fun q hq => by simp only [Value.ownBlock, Option.some.injEq] at hq; simp; omega)
  · have h2' := ownsRow_off2 h2 O8 (fun q hq hm => by rw [hg] at hq; cases hq; exact hul (blkL_own hm))
    have := ownsRow_set h2' hg (i * 9 + 8) (.slice (some ⟨g', 0, none⟩) (len + j + 1) cap')
    rw [List.set_set] at this
    exact this
  · refine ((h3.alloc o).grownL hgrow (fun q hq => ?_)).setCell (by simp) _
    rcases h4 q hq with h | h
    · exact .inl (by simp [blkL_mem h])
    · exact .inr h
  · simp only [Value.ownBlock, Option.some.injEq] at hb
    subst hb
    rcases hat with e | e
    · exact h4 g' e
    · exact .inr (by have := h3.size; omega)

theorem TakenIs.bump {n : Nat} {M : MemS} {T : List Nat} (hT : TakenIs M n [] T) (k : Nat) (b : Int) : TakenIs (M.bump k b) n [] T := by
  have h : ∀ x, ((M.bump k b).S x).taken = (M.S x).taken := fun x => by
    unfold MemS.bump
    by_cases e : x = k
    · subst e; rw [MemS.put_same]
    · rw [MemS.put_other _ _ _ e]
  refine ⟨fun x => ?_, ?_⟩
  · rw [hT.mem]; simp [selB, h]
  · simpa [h] using hT.ord
theorem BRel.done {w wr : World} {rb n : Nat} {M : MemS} {T : List Nat} {V : Nat → Value} {v : Value} {k i lg bb : Nat} (h : RefAt w rb n M T V v) (hT : TakenIs M n [] T) (hi : i < T.length) (hk : T.getD i 0 = k) (hg : v.ownBlock = some lg)
    (hB : BRel w wr M T V v k i lg (M.S k).n.toNat bb) (hn0 : 0 ≤ (M.S k).n) :
    RefTo rb n (M.bump k bb) T V v w (wr.setCell ⟨lg, i * 9 + 3, none⟩ (.int .i64 ((M.S k).n + bb))) := by
  obtain ⟨u, h1, h2, h3, h4⟩ := hB
  have hkm : k ∈ T := hk ▸ getD_mem hi
  have hs : (M.bump k bb).S k = { M.S k with n := (M.S k).n + bb } := MemS.put_same _ _ _
  have ho : ∀ x, x ≠ k → (M.bump k bb).S x = M.S x := fun x hx => MemS.put_other _ _ _ hx
  have hrb := h.lt (.inl rfl : RefOwn rb T V v rb)
  have hlg := h.lt (.inr (.inl hg) : RefOwn rb T V v lg)
  have hrl : rb ≠ lg := fun e => h.apv (by rw [hg, e])
  have hk8 : (V k).ownBlock ≠ some lg := fun e => (h.ap1 k hkm lg e).1 hg
  have hul : u.ownBlock ≠ some lg := fun e => by rcases h4 lg e with h | h; exact hk8 h; omega
  have hLr : rb ∉ (lg :: blkL (V k)) := fun hm => by
    simp only [List.mem_cons] at hm
    rcases hm with e | hm
    · exact hrl e
    · exact (h.ap1 k hkm rb (blkL_own hm)).2 rfl
  have O9 : Off [lg] wr (wr.setCell ⟨lg, i * 9 + 3, none⟩ (.int .i64 ((M.S k).n + bb))) := (Off.refl _ _).setCell (by simp) _
  have OW : Off (lg :: blkL (V k)) w (wr.setCell ⟨lg, i * 9 + 3, none⟩ (.int .i64 ((M.S k).n + bb))) := h3.setCell (by simp) _
  have hr1 : (rowR M V T).set (i * 9 + 8) u = rowR M (fun x => if x = k then u else V x) T := by
    refine rowR_set hT.nodup hi (by omega) (fun x hx q hq => ?_)
    rw [hk]
    by_cases e : x = k
    · subst e
      match q, hq with
      | 0, _ | 1, _ | 2, _ | 3, _ | 4, _ | 5, _ | 6, _ | 7, _ | 8, _ => simp [cellR]
    · rw [if_neg (fun h => e h.1)]
      match q, hq with
      | 0, _ | 1, _ | 2, _ | 3, _ | 4, _ | 5, _ | 6, _ | 7, _ => simp only [cellR]
      | 8, _ => simp only [cellR, if_neg e]
  have hr2 : (rowR M (fun x => if x = k then u else V x) T).set (i * 9 + 3) (.int .i64 ((M.S k).n + bb)) = rowR (M.bump k bb) (fun x => if x = k then u else V x) T := by
    refine rowR_set hT.nodup hi (by omega) (fun x hx q hq => ?_)
    rw [hk]
    by_cases e : x = k
    · subst e
      match q, hq with
      | 0, _ | 1, _ | 2, _ | 3, _ | 4, _ | 5, _ | 6, _ | 7, _ | 8, _ => simp [cellR, hs]
    · rw [if_neg (fun h => e h.1)]
      match q, hq with
      | 0, _ | 1, _ | 2, _ | 3, _ | 4, _ | 5, _ | 6, _ | 7, _ | 8, _ => simp only [cellR, ho x e]
  have hnn : ((M.bump k bb).S k).n.toNat = (M.S k).n.toNat + bb := by rw [hs]; simp only []; omega
  refine ⟨T, fun x => if x = k then u else V x, v, ⟨OW.cell h.n0 hLr, OW.cell h.l hLr, (OW.frozen (p := ⟨rb, 1, none⟩) hrb hLr).trans h.fz, ?_, fun x hx => ?_, h.apv, fun x hx q hq => ?_, fun x hx y hy hxy q hq => ?_⟩, hT.bump k bb, ⟨_, OW, fun q hq => ?_⟩, fun q hq => ?_⟩
  · rw [← hr2, ← hr1]
    exact ownsRow_set h2 hg _ _
  · by_cases e : x = k
    · subst e
      simp only [if_true]
      have e2 : wordsR (M.bump x bb) x = wordsC M x ((M.S x).n.toNat + bb) := by unfold wordsR wordsC; rw [hnn, hs]
      rw [hnn, e2]
      exact ownsRow_off2 h1 O9 (fun q hq => by simp; intro e'; exact hul (by rw [hq, e']))
    · simp only [if_neg e]
      have e2 : wordsR (M.bump k bb) x = wordsR M x := by unfold wordsR; rw [ho x e]
      rw [e2, ho x e]
      exact ownsRow_off2 (h.wrow x hx) OW (fun q hq hm => by
        simp only [List.mem_cons] at hm
        rcases hm with e' | hm
        · exact (h.ap1 x hx q hq).1 (by rw [hg, e'])
        · exact h.ap2 x hx k hkm e q hq (blkL_own hm))
  · by_cases e : x = k
    · subst e
      simp only [if_true] at hq
      rcases h4 q hq with h' | h'
      · exact h.ap1 x hx q h'
      · refine ⟨fun e' => ?_, by omega⟩
        rw [hg] at e'
        cases e'
        omega
    · simp only [if_neg e] at hq
      exact h.ap1 x hx q hq
  · by_cases e : x = k
    · subst e
      simp only [if_true] at hq
      have hy' : y ≠ x := fun e => hxy e.symm
      simp only [if_neg hy']
      rcases h4 q hq with h' | h'
      · exact h.ap2 x hx y hy hxy q h'
      · intro e'
        have := ((h.wrow y hy).lt q e').2
        omega
    · simp only [if_neg e] at hq
      by_cases e' : y = k
      · subst e'
        simp only [if_true]
        intro e2
        rcases h4 q e2 with h' | h'
        · exact h.ap2 x hx y hy hxy q hq h'
        · have := ((h.wrow x hx).lt q hq).2
          omega
      · simp only [if_neg e']
        exact h.ap2 x hx y hy hxy q hq
  · simp only [List.mem_cons] at hq
    rcases hq with rfl | hq
    · exact .inr (.inl hg)
    · exact .inr (.inr ⟨k, hkm, blkL_own hq⟩)
  · rcases hq with rfl | hq | ⟨x, hx, hq⟩
    · exact .inl (.inl rfl)
    · exact .inl (.inr (.inl hq))
    · by_cases e : x = k
      · subst e
        simp only [if_true] at hq
        rcases h4 q hq with h' | h'
        · exact .inl (.inr (.inr ⟨x, hx, h'⟩))
        · exact .inr h'
      · simp only [if_neg e] at hq
        exact .inl (.inr (.inr ⟨x, hx, hq⟩))

set_option maxHeartbeats 2000000 in
set_option maxRecDepth 100000 in
theorem rbump_all {w : World} {rb n c : Nat} {M M' : MemS} {T : List Nat} {V : Nat → Value} {v : Value} (h : RefAt w rb n M T V v) (W : Wf n M c) (hT : TakenIs M n [] T) (hn : n ≤ 1024) (a b : Int) {r s : Int} (hR : BumpIs n M a b r s M') :
    Calls Try.prog 65 #[.pointer (some ⟨rb, 0, none⟩), .int .i64 a, .int .i64 b] w fun e w' => e = .returned (.tuple #[.int .i64 r, .int .i64 s]) ∧ RefTo rb n M' T V v w w' := by
  rcases hR with ⟨rfl, hx, hb1, hb2, rfl, rfl⟩ | ⟨rfl, rfl, hx, rfl⟩ | ⟨rfl, rfl, hx, hb, rfl⟩ | ⟨rfl, rfl, hx, hb1, hb2, rfl⟩
  · obtain ⟨i, hi, e, hp⟩ := place_taken h hT hn hx
    have hTl := hT.len
    have hm := getD_mem hi
    obtain ⟨k, hk⟩ : ∃ k, T.getD i 0 = k := ⟨_, rfl⟩
    have hka : a.toNat = k := by omega
    rw [hka] at hb2 ⊢
    rw [hk] at hm
    have hkn := (hT.mem_taken hm).1
    have hu := W.used k hkn
    have hbl := W.blank k hkn
    obtain ⟨i0, hi9, hz0, hz1, hz2⟩ := info_parts info29
    have hi' := Lib.hid hi9
    have hz0' := Lib.hid hz0
    have hz1' := Lib.hid hz1
    have hz2' := Lib.hid hz2
    obtain ⟨la, lcap, lg, hv0, hla, hlc⟩ := h.form
    obtain ⟨rfl, hlo⟩ := hla (by omega)
    have hlg := h.lt (.inr (.inl hlo) : RefOwn rb T V v lg)
    have hk8 : (V k).ownBlock ≠ some lg := fun e => (h.ap1 k hm lg e).1 hlo
    have h1 := h.l
    rw [hv0] at h1
    obtain ⟨bb, rfl⟩ : ∃ bb : Nat, b = bb := ⟨b.toNat, by omega⟩
    obtain ⟨len, hlen⟩ : ∃ len, (M.S k).n.toNat = len := ⟨_, rfl⟩
    have hnl : (M.S k).n = len := by omega
    have hfr3 := (hlc i 3 hi (by omega)).2
    have hB0 : BRel w w M T V v k i lg len 0 := ⟨V k, by have := h.wrow k hm; rw [hlen, show wordsR M k = wordsC M k len by unfold wordsR wordsC; rw [hlen]] at this; exact this, by
        have e8 : (rowR M V T).set (i * 9 + 8) (V k) = rowR M V T := by
          apply List.ext_getElem?
          intro q
          rw [List.getElem?_set, rowR_len]
          split
          · rename_i e; subst e; rw [if_pos (by omega), rowR_get M V T i 8 hi (by omega), hk]; rfl
          · rfl
        rw [e8]; exact h.row, Off.refl _ _, fun b hb => .inl hb⟩
    obtain ⟨wa, wcap, wg, hVk, _, _⟩ := h.words hm
    rw [hlen] at hVk
    have c8 := (hlc i 8 hi (by omega)).1
    simp only [cellR] at c8
    rw [hk, hVk] at c8
    have hh := Lib.hid h
    have hT' := Lib.hid hT
    have hB0' := Lib.hid hB0
    have hp' := Lib.hid hp
    have HBL := Lib.hid hbl
    have HK := Lib.hid hk
    have HN := Lib.hid hnl
    have HU := Lib.hid hu
    have hst : ∀ wr, _ := fun wr => BRel.done (bb := bb) (wr := wr) h hT hi hk hlo
    have HST := Lib.hid hst
    have q1 : (i : Int) < (T.length : Int) := by omega
    have q0 : (0 : Int) ≤ (i : Int) := by omega
    have q2 : (len : Int) + bb ≤ 64 := by omega
    have q3 : (1 : Int) ≤ (bb : Int) := hb1
    have q4 : -9223372036854775808 ≤ a * 64 := by have := hx.1; omega
    have q5 : a ≤ 1024 := by have := hx.2.1; omega
    have q6 : 0 ≤ a := hx.1
    rw [hnl]
    clear hi9 hz0 hz1 hz2 hla hlc hB0 hp hbl hst h hT hx hu hVk hb1 hb2 hka e hm hkn hk hnl
    subst hv0
    go_enter Try.func65, Try.ntmps65
    go_wp2_with fail
    refine hp'.out.mono ?_
    rintro e w1 ⟨rfl, rfl⟩
    go_wp2_with fail
    go_loopw [11] (fun vv wr => ∃ j : Nat, j ≤ bb ∧ vv = .int .i64 j ∧ BRel w wr M T V (.slice (some ⟨lg, 0, none⟩) T.length lcap) k i lg len j) (fun vv _ => bb - (intOf vv).toNat)
    case atStart => exact ⟨0, by omega, rfl, hB0'.out⟩
    case round =>
      obtain ⟨j, hj, rfl, hB⟩ := hrel
      obtain ⟨u, b1, b2, b3, b4⟩ := hB
      obtain ⟨_, _, _, hrv, _, hrc⟩ := ownsRow_form b2
      have r8 := b2.cellAt (i * 9 + 8) (by omega)
      have f8 := b2.frozenAt (i * 9 + 8)
      have f3 := b2.frozenAt (i * 9 + 3)
      have r3 := b2.cellAt (i * 9 + 3) (by omega)
      rw [List.getElem?_set_self (by rw [rowR_len]; omega)] at r8
      rw [List.getElem?_set_ne (by omega), rowR_get M V T i 3 hi (by omega)] at r3
      simp only [cellR] at r3
      obtain ⟨ua, ucap, ug, hu, _, _⟩ := ownsRow_form b1
      have B1 := Lib.hid b1
      have B2 := Lib.hid b2
      have B3 := Lib.hid b3
      have B4 := Lib.hid b4
      have hsz := b3.size
      clear hrv hrc b1 b2 b3 b4
      by_cases hlt : j < bb
      · have q7 : (j : Int) < (bb : Int) := by omega
        have hz : (M.S k).words (len + j) = 0 := HBL.out (len + j) (by have := HN.out; omega)
        have HZ := Lib.hid hz
        have HU2 := Lib.hid hu
        subst hu
        clear hz r3 f3
        go_wp2_with (at_builtin; refine wpList_append_lies _ rfl _ _ 123 rfl 0 29 i0 (.int .u64 0) 1 8 Try.underlying123 hi'.out hz0'.out hz1'.out hz2'.out rfl (by decide) _ _ _ rfl (B1.out.alloc _) ⟨wr.heap.size, 0, none⟩ 1 1 [.int .u64 0] rfl rfl ?c1 ?c2 (by decide) ?c3 ?c4 ?c5 (wr.heap.size + 1) ?c6 ?_)
        case c2 => rfl
        case c3 => unfold maxLen; omega
        case c4 => omega
        intro g' cap' w8 hown' hgrow hat hlt'
        have hul : (Value.slice ua (len + j) ucap).ownBlock ≠ some lg := fun e => by rcases B4.out lg e with h | h; exact hk8 h; omega
        have hne : some lg ≠ (Value.slice ua (len + j) ucap).ownBlock := fun e => hul e.symm
        have l8 := (hgrow.cell_far ⟨lg, i * 9 + 8, none⟩ (by simp; omega) hne).trans (((Off.refl [] wr).alloc _).cell r8 (by simp))
        have z8 := (hgrow.frozen_far ⟨lg, i * 9 + 8, none⟩ (by simp; omega) hne).trans ((((Off.refl [] wr).alloc _).frozen (p := ⟨lg, i * 9 + 8, none⟩) (show lg < wr.heap.size by omega) (by simp)).trans f8)
        have BN := Lib.hid (BRel.step hi hlo hlg hk8 B1.out B2.out B3.out B4.out HZ.out hown' hgrow hat)
        clear hown' hgrow hat hlt' hul hne r8 f8
        go_wp2_with fail
        go_roundw
        case rel => exact ⟨j + 1, by omega, by go_num, BN.out⟩
        case measure => simp [intOf]; omega
      · obtain rfl : j = bb := by omega
        have hfin := HST.out wr (by rw [show (M.S k).n.toNat = len by have := HN.out; omega]; exact ⟨u, B1.out, B2.out, B3.out, B4.out⟩) HU.out.1
        rw [HN.out] at hfin
        have HF := Lib.hid hfin
        subst hu
        clear hfin
        go_wp2_with fail
        go_ret2
        exact ⟨rfl, HF.out⟩
  · have hp' := Lib.hid (place_none h hT hn hx)
    have hfin := Lib.hid (RefTo.same h hT)
    clear h hT hx W
    go_enter Try.func65, Try.ntmps65
    go_wp2_with fail
    refine hp'.out.mono ?_
    rintro e w1 ⟨rfl, rfl⟩
    go_wp2_with fail
    go_ret2
    exact ⟨rfl, hfin.out⟩
  · obtain ⟨i, hi, e, hp⟩ := place_taken h hT hn hx
    have hp' := Lib.hid hp
    have hfin := Lib.hid (RefTo.same h hT)
    clear h hT hx W hp e
    go_enter Try.func65, Try.ntmps65
    go_wp2_with fail
    refine hp'.out.mono ?_
    rintro e w1 ⟨rfl, rfl⟩
    go_wp2_with fail
    go_ret2
    exact ⟨rfl, hfin.out⟩
  · obtain ⟨i, hi, e, hp⟩ := place_taken h hT hn hx
    have hTl := hT.len
    have hm := getD_mem hi
    have hu := W.used _ (hT.mem_taken hm).1
    obtain ⟨la, lcap, lg, hv0, hla, hlc⟩ := h.form
    obtain ⟨rfl, hlo⟩ := hla (by omega)
    obtain ⟨wa, wcap, wg, hVk, _, _⟩ := h.words hm
    have h1 := h.l
    rw [hv0] at h1
    have c8 := (hlc i 8 hi (by omega)).1
    simp only [cellR] at c8
    rw [hVk] at c8
    have hka : a.toNat = T.getD i 0 := by omega
    rw [hka] at hb2
    obtain ⟨len, hlen⟩ : ∃ len, (M'.S (T.getD i 0)).n.toNat = len := ⟨_, rfl⟩
    have hlb : 64 - (len : Int) < b := by omega
    have hl64 : (len : Int) ≤ 64 := by omega
    rw [hlen] at c8
    have hp' := Lib.hid hp
    have hfin := Lib.hid (RefTo.same h hT)
    have q1 : (i : Int) < (T.length : Int) := by omega
    have q0 : (0 : Int) ≤ (i : Int) := by omega
    clear h hT hx W hp e hm hu hla hlc hlo hVk hka hlen hv0
    by_cases hb64 : 64 < b
    · go_enter Try.func65, Try.ntmps65
      go_wp2_with fail
      refine hp'.out.mono ?_
      rintro e w1 ⟨rfl, rfl⟩
      go_wp2_with fail
      go_ret2
      exact ⟨rfl, hfin.out⟩
    · have hlb2 : 64 < (len : Int) + b := by omega
      have hb64' : b ≤ 64 := by omega
      clear hb64
      go_enter Try.func65, Try.ntmps65
      go_wp2_with fail
      refine hp'.out.mono ?_
      rintro e w1 ⟨rfl, rfl⟩
      go_wp2_with fail
      go_ret2
      exact ⟨rfl, hfin.out⟩
end Go.Proofs.Ytoafoodgomnfeaa
