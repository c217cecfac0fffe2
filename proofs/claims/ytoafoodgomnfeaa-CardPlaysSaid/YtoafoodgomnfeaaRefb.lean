/-
  YtoafoodgomnfeaaRefb: Write and Mark of the document's memory.
-/
import Derived.Test.YtoafoodgomnfeaaRefa
namespace Go.Proofs.Ytoafoodgomnfeaa
open Go.RowKit
set_option linter.unusedVariables false

theorem rowR_len (M : MemS) (V : Nat → Value) (T : List Nat) : (rowR M V T).length = T.length * 9 := by simp [rowR]
theorem rowR_congr {M M' : MemS} {V V' : Nat → Value} {T : List Nat} (h : ∀ k, k ∈ T → ∀ q, q < 9 → cellR M' V' k q = cellR M V k q) : rowR M' V' T = rowR M V T := by
  unfold rowR
  refine List.map_congr_left fun q hq => ?_
  rw [List.mem_range] at hq
  exact h _ (getD_mem (by omega)) _ (by omega)
theorem rowR_set {M M' : MemS} {V V' : Nat → Value} {T : List Nat} (hnd : T.Nodup) {i j : Nat} (hi : i < T.length) (hj : j < 9) {u : Value}
    (h : ∀ k, k ∈ T → ∀ q, q < 9 → cellR M' V' k q = if k = T.getD i 0 ∧ q = j then u else cellR M V k q) : (rowR M V T).set (i * 9 + j) u = rowR M' V' T := by
  apply List.ext_getElem?
  intro p
  rw [List.getElem?_set, rowR_len]
  by_cases hp : p < T.length * 9
  · obtain ⟨x, y, hx, hy, rfl⟩ : ∃ x y, x < T.length ∧ y < 9 ∧ p = x * 9 + y := ⟨p / 9, p % 9, by omega, by omega, by omega⟩
    rw [rowR_get M V T x y hx hy, rowR_get M' V' T x y hx hy, h _ (getD_mem hx) y hy]
    by_cases e : i * 9 + j = x * 9 + y
    · have e1 : i = x := by omega
      have e2 : j = y := by omega
      subst e1 e2
      rw [if_pos rfl, if_pos (by omega), if_pos ⟨rfl, rfl⟩]
    · rw [if_neg e]
      have : ¬ (T.getD x 0 = T.getD i 0 ∧ y = j) := fun ⟨h1, h2⟩ => e (by rw [getD_inj hnd hx hi h1, h2])
      rw [if_neg this]
  · rw [if_neg (by omega), List.getElem?_eq_none (by rw [rowR_len]; omega), List.getElem?_eq_none (by rw [rowR_len]; omega)]

/-- A segment turned of which only what is told turns, and no word. -/
theorem RefAt.setElem {w : World} {rb N : Nat} {M M' : MemS} {T : List Nat} {V : Nat → Value} {v : Value} (h : RefAt w rb N M T V v) (hnd : T.Nodup) {i j : Nat} (hi : i < T.length) (hj : j < 9) {u : Value} {g : Nat} (hg : v.ownBlock = some g)
    (hc : ∀ k, k ∈ T → ∀ q, q < 9 → cellR M' V k q = if k = T.getD i 0 ∧ q = j then u else cellR M V k q) (hn : ∀ k, k ∈ T → (M'.S k).n = (M.S k).n ∧ (M'.S k).words = (M.S k).words) :
    RefAt (w.setCell ⟨g, i * 9 + j, none⟩ u) rb N M' T V v := by
  have O : Off [g] w (w.setCell ⟨g, i * 9 + j, none⟩ u) := (Off.refl _ _).setCell (by simp) _
  have hrb : rb ≠ g := fun e => h.apv (by rw [hg, e])
  refine ⟨O.cell h.n0 (by simpa using hrb), O.cell h.l (by simpa using hrb), by rw [World.frozen?_setCell]; exact h.fz, ?_, fun k hk => ?_, h.apv, h.ap1, h.ap2⟩
  · have hrow := h.row
    rcases hrow.2 with ⟨h0, _⟩ | ⟨g', cap, cur, h0, _⟩
    · rw [h0] at hg; simp [Value.ownBlock] at hg
    · rw [h0] at hg hrow
      simp only [Value.ownBlock, Option.some.injEq] at hg
      subst hg
      have := (hrow.stored (i * 9 + j) u).1
      rw [rowR_set hnd hi hj hc] at this
      rw [h0]
      exact this
  · have e : wordsR M' k = wordsR M k := by unfold wordsR; rw [(hn k hk).1, (hn k hk).2]
    rw [(hn k hk).1, e]
    exact ownsRow_off2 (h.wrow k hk) O (fun b hb => by have := (h.ap1 k hk b hb).1; simp; intro e; exact this (by rw [hg, e]))

/-- A word turned. -/
theorem RefAt.setWord {w : World} {rb N : Nat} {M : MemS} {T : List Nat} {V : Nat → Value} {v : Value} (h : RefAt w rb N M T V v) {k : Nat} (hk : k ∈ T) {j : Nat} (hj : (j : Int) < (M.S k).n) (u : Int) {g : Nat} (hg : (V k).ownBlock = some g) :
    RefAt (w.setCell ⟨g, j, none⟩ (.int .u64 u)) rb N (M.put k ((M.S k).putWord j u)) T V v := by
  have O : Off [g] w (w.setCell ⟨g, j, none⟩ (.int .u64 u)) := (Off.refl _ _).setCell (by simp) _
  have hrb : rb ≠ g := fun e => (h.ap1 k hk g hg).2 e.symm
  have hS : ∀ x, x ≠ k → (M.put k ((M.S k).putWord j u)).S x = M.S x := fun x e => MemS.put_other _ _ _ e
  have hSk : (M.put k ((M.S k).putWord j u)).S k = (M.S k).putWord j u := MemS.put_same _ _ _
  refine ⟨O.cell h.n0 (by simpa using hrb), O.cell h.l (by simpa using hrb), by rw [World.frozen?_setCell]; exact h.fz, ?_, fun x hx => ?_, h.apv, h.ap1, h.ap2⟩
  · have : rowR (M.put k ((M.S k).putWord j u)) V T = rowR M V T := rowR_congr fun x hx q hq => by
      by_cases e : x = k
      · subst e
        match q, hq with
        | 0, _ | 1, _ | 2, _ | 3, _ | 4, _ | 5, _ | 6, _ | 7, _ | 8, _ => simp [cellR, MemS.put_same, SegS.putWord]
      · match q, hq with
        | 0, _ | 1, _ | 2, _ | 3, _ | 4, _ | 5, _ | 6, _ | 7, _ | 8, _ => simp only [cellR, hS x e]
    rw [this]
    exact ownsRow_off2 h.row O (fun b hb => by have := (h.ap1 k hk g hg).1; simp; intro e; exact this (by rw [hb, e]))
  · by_cases e : x = k
    · subst e
      have hrow := h.wrow x hx
      rw [hSk]
      rcases hrow.2 with ⟨h0, _⟩ | ⟨g', cap, cur, h0, _⟩
      · rw [h0] at hg; simp [Value.ownBlock] at hg
      · rw [h0] at hg hrow
        simp only [Value.ownBlock, Option.some.injEq] at hg
        subst hg
        have := (hrow.stored j (.int .u64 u)).1
        have e2 : (wordsR M x).set j (.int .u64 u) = wordsR (M.put x ((M.S x).putWord j u)) x := by
          apply List.ext_getElem?
          intro p
          unfold wordsR
          rw [hSk, List.getElem?_set]
          simp only [SegS.putWord, List.length_map, List.length_range, List.getElem?_map]
          by_cases hp : p < (M.S x).n.toNat
          · rw [List.getElem?_range hp]
            by_cases e : j = p
            · subst e; simp [hp]
            · rw [if_neg e]
              simp only [Option.map_some]
              rw [if_neg (fun h => e h.symm)]
          · rw [List.getElem?_eq_none (by simpa using hp)]
            by_cases e : j = p
            · subst e; simp [hp]
            · rw [if_neg e]; rfl
        rw [e2] at this
        rw [h0]
        exact this
    · have e2 : wordsR (M.put k ((M.S k).putWord j u)) x = wordsR M x := by unfold wordsR; rw [hS x e]
      rw [hS x e, e2]
      exact ownsRow_off2 (h.wrow x hx) O (fun b hb => by have := h.ap2 x hx k hk e b hb; simp; intro e'; exact this (by rw [hg, e']))

theorem rwrite_all {w : World} {rb N n : Nat} {M M' : MemS} {T : List Nat} {V : Nat → Value} {v : Value} (h : RefAt w rb N M T V v) (hT : TakenIs M n [] T) (hn : n ≤ 1024) (hu : ∀ k, k < n → 0 ≤ (M.S k).n ∧ (M.S k).n ≤ 64) (a : Int) (ha : a ≤ 9223372036854775807) {x s : Int} (hR : WriteIs n M a x s M') :
    Calls Try.prog 66 #[.pointer (some ⟨rb, 0, none⟩), .int .i64 a, .int .u64 x] w fun e w' => e = .returned (.int .i64 s) ∧ RefAt w' rb N M' T V v ∧ RefFrame rb T V v w w' := by
  rcases hR with ⟨rfl, hx, rfl⟩ | ⟨rfl, hx, rfl⟩
  · obtain ⟨i, hi, e, hp⟩ := rword_some h hT hn hu a ha hx
    have hT' := hT.len
    have hm := getD_mem hi
    have hk := (hT.mem_taken hm).1
    have hnn := hu _ hk
    obtain ⟨la, lcap, lg, hv0, hla, hlc⟩ := h.form
    obtain ⟨rfl, _⟩ := hla (by omega)
    obtain ⟨wa, wcap, wg, hv, hwa, hwc⟩ := h.words hm
    have c8 := (hlc i 8 hi (by omega)).1
    simp only [cellR] at c8
    rw [hv] at c8
    have h1 := h.l
    rw [hv0] at h1
    have hlt := hx.2.2
    have h0 := hx.1
    rw [← e] at hlt
    obtain ⟨rfl, hwo⟩ := hwa (by omega)
    obtain ⟨j, hj⟩ : ∃ j : Nat, a % 64 = j := ⟨(a % 64).toNat, by omega⟩
    have cw := hwc j (by omega)
    have hfin := h.setWord hm (j := j) (by omega) x hwo
    have hM : M.put (T.getD i 0) ((M.S (T.getD i 0)).putWord j x) = M.write a x := by unfold MemS.write; rw [← e, hj, Int.toNat_natCast]
    rw [hM] at hfin
    have hfr : RefFrame rb T V v w (w.setCell ⟨wg, j, none⟩ (.int .u64 x)) := ⟨[wg], (Off.refl _ _).setCell (by simp) _, fun b hb => by simp at hb; subst hb; exact .inr (.inr ⟨_, hm, hwo⟩)⟩
    have hlen : (j : Int) < (((M.S (T.getD i 0)).n.toNat : Nat) : Int) := by omega
    have q1 : (i : Int) < (T.length : Int) := by omega
    have q0 : (0 : Int) ≤ (i : Int) := by omega
    have q2 : (0 : Int) ≤ (j : Int) := by omega
    have hl2 : (((M.S (T.getD i 0)).n.toNat : Nat) : Int) ≤ 64 := by omega
    rw [hj] at hp
    obtain ⟨cw0, cw1⟩ := cw
    have HF := Lib.hid (And.intro hfin hfr)
    have hp' := Lib.hid hp
    generalize (M.S (T.getD i 0)).n.toNat = len at *
    generalize (M.S (T.getD i 0)).words j = y at cw0
    clear h hT hp hla hlc hv hlt hnn hu hm hk e hwa hwc hx hj hfin hfr hM hwo hv0
    go_enter Try.func66, Try.ntmps66
    go_wp2_with fail
    refine hp'.out.mono ?_
    rintro e w1 ⟨rfl, rfl⟩
    go_wp2_with fail
    go_ret
    exact ⟨rfl, HF.out⟩
  · have hp' := Lib.hid (rword_none h hT hn hu a ha hx)
    have hh := Lib.hid h
    clear h hT hx hu
    go_enter Try.func66, Try.ntmps66
    go_wp2_with fail
    refine hp'.out.mono ?_
    rintro e w1 ⟨rfl, rfl⟩
    go_wp2_with fail
    go_ret
    exact ⟨rfl, hh.out, RefFrame.refl _ _ _ _ _⟩

theorem rmark_all {w : World} {rb N n : Nat} {M M' : MemS} {T : List Nat} {V : Nat → Value} {v : Value} (h : RefAt w rb N M T V v) (hT : TakenIs M n [] T) (hn : n ≤ 1024) (a c m : Int) {s : Int} (hR : MarkIs n M a c m s M') :
    Calls Try.prog 68 #[.pointer (some ⟨rb, 0, none⟩), .int .i64 a, .int .i64 c, .int .i64 m] w fun e w' => e = .returned (.int .i64 s) ∧ RefAt w' rb N M' T V v ∧ RefFrame rb T V v w w' := by
  rcases hR with ⟨rfl, hx, hc0, hc4, hm0, hm5, rfl⟩ | ⟨rfl, hx, rfl⟩ | ⟨rfl, hx, hbad, rfl⟩
  · obtain ⟨i, hi, e, hp⟩ := place_taken h hT hn hx
    have hT' := hT.len
    obtain ⟨la, lcap, lg, hv0, hla, hlc⟩ := h.form
    obtain ⟨rfl, hlo⟩ := hla (by omega)
    have h1 := h.l
    rw [hv0] at h1
    obtain ⟨q, hq⟩ : ∃ q : Nat, c = q := ⟨c.toNat, by omega⟩
    subst hq
    have hq4 : q < 4 := by omega
    have cq := hlc i (4 + q) hi (by omega)
    have hk : a.toNat = T.getD i 0 := by omega
    have hfin : RefAt (w.setCell ⟨lg, i * 9 + (4 + q), none⟩ (.int .i64 m)) rb N (M.mark a q m) T V v := by
      refine h.setElem hT.nodup hi (by omega) hlo (fun k hk' p hp => ?_) (fun k hk' => ?_)
      · unfold MemS.mark
        rw [hk]
        by_cases ek : k = T.getD i 0
        · rw [← ek]
          match q, hq4, p, hp with
          | 0, _, 0, _ | 0, _, 1, _ | 0, _, 2, _ | 0, _, 3, _ | 0, _, 4, _ | 0, _, 5, _ | 0, _, 6, _ | 0, _, 7, _ | 0, _, 8, _
          | 1, _, 0, _ | 1, _, 1, _ | 1, _, 2, _ | 1, _, 3, _ | 1, _, 4, _ | 1, _, 5, _ | 1, _, 6, _ | 1, _, 7, _ | 1, _, 8, _
          | 2, _, 0, _ | 2, _, 1, _ | 2, _, 2, _ | 2, _, 3, _ | 2, _, 4, _ | 2, _, 5, _ | 2, _, 6, _ | 2, _, 7, _ | 2, _, 8, _
          | 3, _, 0, _ | 3, _, 1, _ | 3, _, 2, _ | 3, _, 3, _ | 3, _, 4, _ | 3, _, 5, _ | 3, _, 6, _ | 3, _, 7, _ | 3, _, 8, _ => simp [cellR, MemS.put_same, SegS.putCard]
        · rw [if_neg (fun h => ek h.1)]
          match p, hp with
          | 0, _ | 1, _ | 2, _ | 3, _ | 4, _ | 5, _ | 6, _ | 7, _ | 8, _ => simp only [cellR, MemS.put_other _ _ _ ek]
      · unfold MemS.mark
        rw [hk]
        by_cases ek : k = T.getD i 0
        · rw [ek, MemS.put_same]; exact ⟨rfl, rfl⟩
        · rw [MemS.put_other _ _ _ ek]; exact ⟨rfl, rfl⟩
    have hfr : RefFrame rb T V v w (w.setCell ⟨lg, i * 9 + (4 + q), none⟩ (.int .i64 m)) := ⟨[lg], (Off.refl _ _).setCell (by simp) _, fun b hb => by simp at hb; subst hb; exact .inr (.inl hlo)⟩
    obtain ⟨cq0, cq1⟩ := cq
    obtain ⟨old, ho⟩ : ∃ old, cellR M V (T.getD i 0) (4 + q) = .int .i64 old := by
      match q, hq4 with
      | 0, _ | 1, _ | 2, _ | 3, _ => exact ⟨_, rfl⟩
    rw [ho] at cq0
    rw [← Nat.add_assoc] at cq0 cq1 hfin hfr
    have HF := Lib.hid (And.intro hfin hfr)
    have hp' := Lib.hid hp
    have q1 : (i : Int) < (T.length : Int) := by omega
    have q0 : (0 : Int) ≤ (i : Int) := by omega
    have q2 : (0 : Int) ≤ (q : Int) := by omega
    clear h hT hp hla hlc e hx hfin hfr hlo hv0 hk ho
    go_enter Try.func68, Try.ntmps68
    go_wp2_with fail
    refine hp'.out.mono ?_
    rintro e w1 ⟨rfl, rfl⟩
    go_wp2_with fail
    go_ret
    exact ⟨rfl, HF.out⟩
  · have hp' := Lib.hid (place_none h hT hn hx)
    have hh := Lib.hid h
    clear h hT hx
    go_enter Try.func68, Try.ntmps68
    go_wp2_with fail
    refine hp'.out.mono ?_
    rintro e w1 ⟨rfl, rfl⟩
    go_wp2_with fail
    go_ret
    exact ⟨rfl, hh.out, RefFrame.refl _ _ _ _ _⟩
  · obtain ⟨i, hi, e, hp⟩ := place_taken h hT hn hx
    have hT' := hT.len
    have hp' := Lib.hid hp
    have hh := Lib.hid h
    clear h hT hx hp e
    by_cases b1 : c < 0
    · go_enter Try.func68, Try.ntmps68
      go_wp2_with fail
      refine hp'.out.mono ?_
      rintro e w1 ⟨rfl, rfl⟩
      go_wp2_with fail
      go_ret
      exact ⟨rfl, hh.out, RefFrame.refl _ _ _ _ _⟩
    by_cases b2 : 3 < c
    · go_enter Try.func68, Try.ntmps68
      go_wp2_with fail
      refine hp'.out.mono ?_
      rintro e w1 ⟨rfl, rfl⟩
      go_wp2_with fail
      go_ret
      exact ⟨rfl, hh.out, RefFrame.refl _ _ _ _ _⟩
    by_cases b3 : m < 0
    · go_enter Try.func68, Try.ntmps68
      go_wp2_with fail
      refine hp'.out.mono ?_
      rintro e w1 ⟨rfl, rfl⟩
      go_wp2_with fail
      go_ret
      exact ⟨rfl, hh.out, RefFrame.refl _ _ _ _ _⟩
    have b4 : 5 < m := by omega
    clear hbad
    go_enter Try.func68, Try.ntmps68
    go_wp2_with fail
    refine hp'.out.mono ?_
    rintro e w1 ⟨rfl, rfl⟩
    go_wp2_with fail
    go_ret
    exact ⟨rfl, hh.out, RefFrame.refl _ _ _ _ _⟩
end Go.Proofs.Ytoafoodgomnfeaa
