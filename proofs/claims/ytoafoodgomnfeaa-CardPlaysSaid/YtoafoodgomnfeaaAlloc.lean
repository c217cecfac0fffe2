/-
  YtoafoodgomnfeaaAlloc: Alloc of package space, in one contract: what it answers, and what the space is behind it.
-/
import Derived.Test.YtoafoodgomnfeaaSpace
import Derived.Test.YtoafoodgomnfeaaAny
namespace Go.Proofs.Ytoafoodgomnfeaa
open Go.RowKit
set_option linter.unusedVariables false

theorem alloc_arg {w : World} {pb mb sb n : Nat} {M : MemS} {C : Nat → Int} (h : SpaceAt w pb mb sb n M C) (g k c : Int) (hm : mayB g k c = false) :
    Calls Try.prog 35 #[.pointer (some ⟨pb, 0, none⟩), .int .i64 g, .int .i64 k, .int .i64 c] w fun e w' => e = .returned (.tuple #[.int .i64 0, .int .i64 1]) ∧ w = w' := by
  have hh := Lib.hid h
  have hm' := Lib.hid hm
  clear h hm
  go_enter Try.func35, Try.ntmps35
  go_wp2_with fail
  refine (none_no hh.out).mono ?_
  rintro e w1 ⟨rfl, rfl⟩
  go_wp2_with fail
  refine (may_any g k c w).mono ?_
  rintro e w1 ⟨rfl, rfl⟩
  rw [hm'.out]
  go_wp2_with fail
  go_ret2
  exact ⟨rfl, rfl⟩

/-- There is room in the current segment, x. -/
theorem alloc_cur {w : World} {pb mb sb n : Nat} {M : MemS} {C : Nat → Int} (h : SpaceAt w pb mb sb n M C) (hn : n ≤ 1024) (g k : Nat) (hg : g < 5) (hk : k < 4) (c : Int) (hm : mayB g k c = true) (hc : 1 ≤ c)
    (x : Nat) (hx : C (g * 4 + k) = x + 1) (hxn : x < n) (ht : (M.S x).taken ≠ 0) (hu0 : 0 ≤ (M.S x).n) (hu : (M.S x).n ≤ 64) (hr : c ≤ 64 - (M.S x).n) :
    Calls Try.prog 35 #[.pointer (some ⟨pb, 0, none⟩), .int .i64 g, .int .i64 k, .int .i64 c] w fun e w' => e = .returned (.tuple #[.int .i64 (x * 64 + (M.S x).n), .int .i64 0]) ∧
      SpaceAt w' pb mb sb n (M.bump x c) C ∧ Off [sb] w w' := by
  have hc0 : C (g * 4 + k) ≠ 0 := by omega
  have hcall := cur_yes h hn g k hg hk hc0
  rw [hx, show (x : Int) + 1 - 1 = x by omega] at hcall
  have hb := bump_yes h.mem hn x hxn ht x c rfl hc hu0 hu hr
  have hptr := h.ptr
  have hh := Lib.hid h
  have hm' := Lib.hid hm
  have hcall' := Lib.hid hcall
  have hb' := Lib.hid hb
  clear h hm hcall hb ht hu0 hu hr hx hc0
  go_enter Try.func35, Try.ntmps35
  go_wp2_with fail
  refine (none_no hh.out).mono ?_
  rintro e w1 ⟨rfl, rfl⟩
  go_wp2_with fail
  refine (may_any g k c w).mono ?_
  rintro e w1 ⟨rfl, rfl⟩
  rw [hm'.out]
  go_wp2_with fail
  refine hcall'.out.mono ?_
  rintro e w1 ⟨rfl, rfl⟩
  go_wp2_with fail
  refine hb'.out.mono ?_
  rintro e w1 ⟨rfl, H, O⟩
  have HS := hh.out.mem' O (by simp; exact hh.out.ns) H
  have HH := Lib.hid HS
  have OO := Lib.hid O
  clear H O HS
  go_wp2_with fail
  go_ret2
  exact ⟨rfl, HH.out, OO.out⟩

/-- No room, no free segment. (v: what is current, one above.) -/
theorem alloc_full {w : World} {pb mb sb n : Nat} {M : MemS} {C : Nat → Int} (h : SpaceAt w pb mb sb n M C) (hn0 : 0 < n) (hn : n ≤ 1024) (g k : Nat) (hg : g < 5) (hk : k < 4) (c : Int) (hm : mayB g k c = true) (hc : 1 ≤ c)
    (hno : C (g * 4 + k) = 0 ∨ ∃ s : Int, s ≠ 0 ∧ Calls Try.prog 19 #[.pointer (some ⟨mb, 0, none⟩), .int .i64 (C (g * 4 + k) - 1), .int .i64 c] w fun e w' => e = .returned (.tuple #[.int .i64 0, .int .i64 s]) ∧ w = w')
    (hfr : M.free = 0) :
    Calls Try.prog 35 #[.pointer (some ⟨pb, 0, none⟩), .int .i64 g, .int .i64 k, .int .i64 c] w fun e w' => e = .returned (.tuple #[.int .i64 0, .int .i64 2]) ∧ w = w' := by
  have htake := take_full mb sb n _ g k w h.mem.segs (by rw [← hfr]; exact h.mem.free) hn0 (by omega) (by omega) (by omega) (by omega)
  have hptr := h.ptr
  have hh := Lib.hid h
  have hm' := Lib.hid hm
  have htake' := Lib.hid htake
  by_cases hz : C (g * 4 + k) = 0
  · have hcall' := Lib.hid (cur_zero h hn g k hg hk hz)
    clear h hm htake hfr hz hno
    go_enter Try.func35, Try.ntmps35
    go_wp2_with fail
    refine (none_no hh.out).mono ?_
    rintro e w1 ⟨rfl, rfl⟩
    go_wp2_with fail
    refine (may_any g k c w).mono ?_
    rintro e w1 ⟨rfl, rfl⟩
    rw [hm'.out]
    go_wp2_with fail
    refine hcall'.out.mono ?_
    rintro e w1 ⟨rfl, rfl⟩
    go_wp2_with fail
    refine htake'.out.mono ?_
    rintro e w1 ⟨rfl, rfl⟩
    go_wp2_with fail
    go_ret2
    exact ⟨rfl, rfl⟩
  · obtain ⟨s, hs, hbump⟩ := hno.resolve_left hz
    have hcall' := Lib.hid (cur_yes h hn g k hg hk hz)
    have hbump' := Lib.hid hbump
    have hs0 : (s == 0) = false := beq_eq_false_iff_ne.2 hs
    clear h hm htake hfr hz hno hbump hs
    go_enter Try.func35, Try.ntmps35
    go_wp2_with fail
    refine (none_no hh.out).mono ?_
    rintro e w1 ⟨rfl, rfl⟩
    go_wp2_with fail
    refine (may_any g k c w).mono ?_
    rintro e w1 ⟨rfl, rfl⟩
    rw [hm'.out]
    go_wp2_with fail
    refine hcall'.out.mono ?_
    rintro e w1 ⟨rfl, rfl⟩
    go_wp2_with fail
    refine hbump'.out.mono ?_
    rintro e w1 ⟨rfl, rfl⟩
    go_wp2_with fail
    refine htake'.out.mono ?_
    rintro e w1 ⟨rfl, rfl⟩
    go_wp2_with fail
    go_ret2
    exact ⟨rfl, rfl⟩

set_option maxHeartbeats 400000 in
/-- No room, and q is the first that is free. -/
theorem alloc_new {w : World} {pb mb sb n : Nat} {M : MemS} {C : Nat → Int} (h : SpaceAt w pb mb sb n M C) (hn0 : 0 < n) (hn : n ≤ 1024) (g k : Nat) (hg : g < 5) (hk : k < 4) (c : Int) (hm : mayB g k c = true) (hc : 1 ≤ c) (hc63 : c ≤ 63)
    (hno : C (g * 4 + k) = 0 ∨ ∃ s : Int, s ≠ 0 ∧ Calls Try.prog 19 #[.pointer (some ⟨mb, 0, none⟩), .int .i64 (C (g * 4 + k) - 1), .int .i64 c] w fun e w' => e = .returned (.tuple #[.int .i64 0, .int .i64 s]) ∧ w = w')
    (q : Nat) (hq : q < n) (hfr : 0 < M.free) (hfr2 : M.free ≤ 1024) (hc0 : 0 ≤ M.count) (hcnt : M.count ≤ 1000000) (hfree : (M.S q).taken = 0) (hall : ∀ i, i < q → 0 < (M.S i).taken) :
    Calls Try.prog 35 #[.pointer (some ⟨pb, 0, none⟩), .int .i64 g, .int .i64 k, .int .i64 c] w fun e w' => e = .returned (.tuple #[.int .i64 (q * 64), .int .i64 0]) ∧
      SpaceAt w' pb mb sb n ((M.take q g k).bump q c) (putC C (g * 4 + k) (q + 1)) ∧ Off [pb, mb, sb] w w' := by
  have hns := h.ns
  have hnm := h.nm
  have htake := take_ok mb sb n q g k M w h.mem hn (by omega) (by omega) (by omega) (by omega) hq hfr hfr2 hc0 hcnt hfree hall
  have hT : MemS.put { M with count := M.count + 1, free := M.free - 1 } q (fresh g k (M.count + 1)) = M.take q g k := rfl
  rw [hT] at htake
  have hptr := h.ptr
  have hcurp := h.cur g k hg hk
  have hfz := h.fz (1 + g * 4 + k)
  have key : ∀ w1, MemAt w1 mb sb n (M.take q g k) → Off [mb, sb] w w1 → SpaceAt w1 pb mb sb n (M.take q g k) C := fun w1 H O => h.mem' O (by simp; omega) H
  have key2 : ∀ w1, SpaceAt w1 pb mb sb n (M.take q g k) C → SpaceAt (w1.setCell ⟨pb, 1 + g * 4 + k, none⟩ (.int .i64 (q + 1))) pb mb sb n (M.take q g k) (putC C (g * 4 + k) (q + 1)) := fun w1 H => H.setCur hg hk (q + 1) (by omega) (by omega)
  have key3 : ∀ w1, MemAt w1 mb sb n (M.take q g k) → Calls Try.prog 19 #[.pointer (some ⟨mb, 0, none⟩), .int .i64 q, .int .i64 c] w1 fun e w' => e = .returned (.tuple #[.int .i64 (q * 64), .int .i64 0]) ∧
      MemAt w' mb sb n ((M.take q g k).bump q c) ∧ Off [sb] w1 w' := fun w1 H => by
    have hs : (M.take q g k).S q = fresh g k (M.count + 1) := MemS.put_same _ _ _
    have := bump_yes H hn q hq (by rw [hs]; show M.count + 1 ≠ 0; omega) q c rfl hc (by rw [hs]; exact Int.le_refl _) (by rw [hs]; show (0 : Int) ≤ 64; omega) (by rw [hs]; show c ≤ 64 - 0; omega)
    refine this.mono ?_
    rintro e w' ⟨rfl, H, O⟩
    exact ⟨by rw [hs]; simp [fresh], H, O⟩
  have hh := Lib.hid h
  have hm' := Lib.hid hm
  have htake' := Lib.hid htake
  have k1 := Lib.hid key
  have k2 := Lib.hid key2
  have k3 := Lib.hid key3
  have step : ∀ w1, MemAt w1 mb sb n (M.take q g k) → Off [mb, sb] w w1 → w1.cell? ⟨pb, 0, none⟩ = some (.pointer (some ⟨mb, 0, none⟩)) ∧ w1.cell? ⟨pb, 1 + g * 4 + k, none⟩ = some (.int .i64 (C (g * 4 + k))) ∧ w1.frozen? ⟨pb, 1 + g * 4 + k, none⟩ = false := fun w1 H O => by
    have := key w1 H O
    exact ⟨this.ptr, this.cur g k hg hk, this.fz _⟩
  have k4 := Lib.hid step
  by_cases hz : C (g * 4 + k) = 0
  · have hcall' := Lib.hid (cur_zero h hn g k hg hk hz)
    clear h hm htake hfr hz hno hcurp hfz key key2 key3 step hT hfree hall hfr2 hc0 hcnt
    go_enter Try.func35, Try.ntmps35
    go_wp2_with fail
    refine (none_no hh.out).mono ?_
    rintro e w1 ⟨rfl, rfl⟩
    go_wp2_with fail
    refine (may_any g k c w).mono ?_
    rintro e w1 ⟨rfl, rfl⟩
    rw [hm'.out]
    go_wp2_with fail
    refine hcall'.out.mono ?_
    rintro e w1 ⟨rfl, rfl⟩
    go_wp2_with fail
    refine htake'.out.mono ?_
    rintro e w2 ⟨rfl, H, O⟩
    obtain ⟨d0, d1, d2⟩ := k4.out _ H O
    have HH := Lib.hid (k2.out _ (k1.out _ H O))
    have OO := Lib.hid O
    clear H O
    go_wp2_with fail
    refine (k3.out _ HH.out.mem).mono ?_
    rintro e w3 ⟨rfl, H, O⟩
    have H3 := Lib.hid (HH.out.mem' O (by simp; omega) H)
    have O3 := Lib.hid O
    clear H O
    go_wp2_with fail
    go_ret2
    exact ⟨rfl, H3.out, ((OO.out.mono (by simp)).setCell (by simp) _).trans (O3.out.mono (by simp))⟩
  · obtain ⟨s, hs, hbump⟩ := hno.resolve_left hz
    have hcall' := Lib.hid (cur_yes h hn g k hg hk hz)
    have hbump' := Lib.hid hbump
    have hs0 : (s == 0) = false := beq_eq_false_iff_ne.2 hs
    clear h hm htake hfr hz hno hbump hs hcurp hfz key key2 key3 step hT hfree hall hfr2 hc0 hcnt
    go_enter Try.func35, Try.ntmps35
    go_wp2_with fail
    refine (none_no hh.out).mono ?_
    rintro e w1 ⟨rfl, rfl⟩
    go_wp2_with fail
    refine (may_any g k c w).mono ?_
    rintro e w1 ⟨rfl, rfl⟩
    rw [hm'.out]
    go_wp2_with fail
    refine hcall'.out.mono ?_
    rintro e w1 ⟨rfl, rfl⟩
    go_wp2_with fail
    refine hbump'.out.mono ?_
    rintro e w1 ⟨rfl, rfl⟩
    go_wp2_with fail
    refine htake'.out.mono ?_
    rintro e w2 ⟨rfl, H, O⟩
    obtain ⟨d0, d1, d2⟩ := k4.out _ H O
    have HH := Lib.hid (k2.out _ (k1.out _ H O))
    have OO := Lib.hid O
    clear H O
    go_wp2_with fail
    refine (k3.out _ HH.out.mem).mono ?_
    rintro e w3 ⟨rfl, H, O⟩
    have H3 := Lib.hid (HH.out.mem' O (by simp; omega) H)
    have O3 := Lib.hid O
    clear H O
    go_wp2_with fail
    go_ret2
    exact ⟨rfl, H3.out, ((OO.out.mono (by simp)).setCell (by simp) _).trans (O3.out.mono (by simp))⟩

/-- There is room in what is current for the generation and kind. -/
def Room (n : Nat) (M : MemS) (C : Nat → Int) (g k c : Int) : Prop := ∃ x : Nat, C (g.toNat * 4 + k.toNat) = x + 1 ∧ M.isTaken n x ∧ c ≤ 64 - (M.S x).n
/-- What Alloc of (g, k, c) answers: r, s; M', C' are behind it. -/
def AllocIs (n : Nat) (M : MemS) (C : Nat → Int) (g k c r s : Int) (M' : MemS) (C' : Nat → Int) : Prop :=
  (s = 1 ∧ r = 0 ∧ mayB g k c = false ∧ M' = M ∧ C' = C) ∨
  (s = 0 ∧ mayB g k c = true ∧ ∃ x : Nat, C (g.toNat * 4 + k.toNat) = x + 1 ∧ M.isTaken n x ∧ c ≤ 64 - (M.S x).n ∧ r = x * 64 + (M.S x).n ∧ M' = M.bump x c ∧ C' = C) ∨
  (s = 2 ∧ r = 0 ∧ mayB g k c = true ∧ ¬ Room n M C g k c ∧ M.free = 0 ∧ M' = M ∧ C' = C) ∨
  (s = 0 ∧ mayB g k c = true ∧ ¬ Room n M C g k c ∧ ∃ q : Nat, q < n ∧ (M.S q).taken = 0 ∧ (∀ i, i < q → (M.S i).taken ≠ 0) ∧ r = q * 64 ∧ M' = (M.take q g k).bump q c ∧ C' = putC C (g.toNat * 4 + k.toNat) (q + 1))

theorem alloc_all {w : World} {pb mb sb n cc : Nat} {M : MemS} {C : Nat → Int} (h : SpaceAt w pb mb sb n M C) (W : Wf n M cc) (hn0 : 0 < n) (hn : n ≤ 1024) (hcc : cc ≤ 1000000) (g k c : Int) :
    Calls Try.prog 35 #[.pointer (some ⟨pb, 0, none⟩), .int .i64 g, .int .i64 k, .int .i64 c] w fun e w' => ∃ r s M' C', e = .returned (.tuple #[.int .i64 r, .int .i64 s]) ∧
      AllocIs n M C g k c r s M' C' ∧ SpaceAt w' pb mb sb n M' C' ∧ Wf n M' (cc + 1) ∧ Off [pb, mb, sb] w w' := by
  by_cases hm : mayB g k c = true
  case neg =>
    have hm : mayB g k c = false := by simpa using hm
    refine (alloc_arg h g k c hm).mono ?_
    rintro e w' ⟨rfl, rfl⟩
    exact ⟨0, 1, M, C, rfl, .inl ⟨rfl, rfl, hm, rfl, rfl⟩, h, W.mono (by omega), Off.refl _ _⟩
  have hmm := of_decide_eq_true hm
  obtain ⟨g', rfl⟩ : ∃ g' : Nat, g = g' := ⟨g.toNat, by omega⟩
  obtain ⟨k', rfl⟩ : ∃ k' : Nat, k = k' := ⟨k.toNat, by omega⟩
  have hg : g' < 5 := by omega
  have hk : k' < 4 := by omega
  have hc1 : 1 ≤ c := by omega
  have hc63 : c ≤ 63 := by omega
  by_cases hroom : Room n M C g' k' c
  · obtain ⟨x, hx, ht, hr⟩ := hroom
    simp only [Int.toNat_natCast] at hx
    have hxn : x < n := by have := ht.2.1; omega
    have ht3 := ht.2.2
    simp only [Int.toNat_natCast] at ht3
    have hu := W.used x hxn
    refine (alloc_cur h hn g' k' hg hk c hm hc1 x hx hxn ht3 hu.1 hu.2 hr).mono ?_
    rintro e w' ⟨rfl, H, O⟩
    exact ⟨_, 0, _, C, rfl, .inr (.inl ⟨rfl, hm, x, by simpa using hx, ht, hr, rfl, rfl, rfl⟩), H, (W.bump hxn (by omega) (by omega)).mono (by omega), O.mono (by simp)⟩
  · have hran := h.ran (g' * 4 + k') (by omega)
    have hno : C (g' * 4 + k') = 0 ∨ ∃ s : Int, s ≠ 0 ∧ Calls Try.prog 19 #[.pointer (some ⟨mb, 0, none⟩), .int .i64 (C (g' * 4 + k') - 1), .int .i64 c] w fun e w' => e = .returned (.tuple #[.int .i64 0, .int .i64 s]) ∧ w = w' := by
      by_cases hz : C (g' * 4 + k') = 0
      · exact .inl hz
      refine .inr ?_
      by_cases ht : M.isTaken n (C (g' * 4 + k') - 1)
      · have hxn : (C (g' * 4 + k') - 1).toNat < n := by have := ht.2.1; have := ht.1; omega
        have hu := W.used _ hxn
        refine ⟨2, by omega, bump_full h.mem hn (C (g' * 4 + k') - 1).toNat hxn ht.2.2 _ c (by omega) hc1 hu.1 hu.2 ?_⟩
        by_cases hf : 64 - (M.S (C (g' * 4 + k') - 1).toNat).n < c
        · exact hf
        · refine absurd ⟨(C (g' * 4 + k') - 1).toNat, by simp only [Int.toNat_natCast]; omega, ?_, by omega⟩ hroom
          rw [show (((C (g' * 4 + k') - 1).toNat : Nat) : Int) = C (g' * 4 + k') - 1 by omega]
          exact ht
      · exact ⟨19, by omega, bump_no h.mem hn _ c ht⟩
    have f0 := W.free0
    have f1 := W.free_le
    by_cases hz : M.free = 0
    · refine (alloc_full h hn0 hn g' k' hg hk c hm hc1 hno hz).mono ?_
      rintro e w' ⟨rfl, rfl⟩
      exact ⟨0, 2, M, C, rfl, .inr (.inr (.inl ⟨rfl, rfl, hm, hroom, hz, rfl, rfl⟩)), h, W.mono (by omega), Off.refl _ _⟩
    · obtain ⟨q, hq, hqf, hql⟩ := freeN_pos (S := M.S) (n := n) (by have := W.free; omega)
      refine (alloc_new h hn0 hn g' k' hg hk c hm hc1 hc63 hno q hq (by omega) (by omega) W.cnt0 (by have := W.cnt; omega) hqf (fun i hi => by have a1 := hql i hi; have a2 := (W.tk i (by omega)).1; omega)).mono ?_
      rintro e w' ⟨rfl, H, O⟩
      have hs : (M.take q g' k').S q = fresh g' k' (M.count + 1) := MemS.put_same _ _ _
      exact ⟨_, 0, _, _, rfl, .inr (.inr (.inr ⟨rfl, hm, hroom, q, hq, hqf, hql, rfl, rfl, by simp⟩)), H,
        (W.take hq hqf k' (by omega) (by omega)).bump hq (by omega) (by rw [hs]; show c ≤ 64 - 0; omega), O⟩
end Go.Proofs.Ytoafoodgomnfeaa
