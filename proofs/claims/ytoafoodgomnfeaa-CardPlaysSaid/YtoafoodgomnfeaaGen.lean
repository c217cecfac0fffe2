/-
  YtoafoodgomnfeaaGen: package word's Tag and Addr; package card's none, Gen and younger: what they answer.
-/
import Derived.Test.YtoafoodgomnfeaaAlloc
namespace Go.Proofs.Ytoafoodgomnfeaa
open Go.RowKit
set_option linter.unusedVariables false

theorem bits_and7 (v : Int) (h0 : 0 ≤ v) (h1 : v ≤ 18446744073709551615) : bits .and .u64 v 7 = v % 8 := by
  obtain ⟨n, rfl⟩ := Int.eq_ofNat_of_zero_le h0
  have hn : n < 2 ^ 64 := by omega
  have e : ((BitVec.ofInt 64 (n : Int)) &&& (BitVec.ofInt 64 7)).toNat = n % 8 := by
    rw [BitVec.toNat_and, BitVec.toNat_ofInt, BitVec.toNat_ofInt]
    have e1 : ((n : Int) % (2 ^ 64 : Nat)).toNat = n := by omega
    have e2 : ((7 : Int) % (2 ^ 64 : Nat)).toNat = 2 ^ 3 - 1 := by decide
    rw [e1, e2, Nat.and_two_pow_sub_one_eq_mod]
  show IntKind.u64.wrap ((((BitVec.ofInt 64 (n : Int)) &&& (BitVec.ofInt 64 7)).toNat : Nat) : Int) = _
  rw [e]
  simp only [IntKind.wrap, IntKind.signed, IntKind.bits]
  simp
  omega
theorem tag_any (v : Int) (w : World) (h0 : 0 ≤ v) (h1 : v ≤ 18446744073709551615) :
    Calls Try.prog 81 #[.int .u64 v] w fun e w' => e = .returned (.int .i64 (v % 8)) ∧ w = w' := by
  have e := bits_and7 v h0 h1
  go_enter Try.func81, Try.ntmps81
  go_wp2
  go_ret
  exact ⟨rfl, rfl⟩
def isPlace (t : Int) : Bool := decide (1 ≤ t ∧ t ≤ 3 ∨ t = 6)
theorem place_any (t : Int) (w : World) :
    Calls Try.prog 95 #[.int .i64 t] w fun e w' => e = .returned (.bool (isPlace t)) ∧ w = w' := by
  by_cases h1 : 1 ≤ t
  · by_cases h2 : t ≤ 3
    · have e : isPlace t = true := decide_eq_true (by omega)
      rw [e]
      clear e
      go_enter Try.func95, Try.ntmps95
      go_wp2
      go_ret
      exact ⟨rfl, rfl⟩
    · have e : isPlace t = (t == 6) := by unfold isPlace; rw [Bool.eq_iff_iff]; simp; omega
      have h3 : decide (t ≤ 3) = false := decide_eq_false h2
      rw [e]
      clear e h2
      go_enter Try.func95, Try.ntmps95
      go_wp2
      go_ret
      exact ⟨rfl, rfl⟩
  · have e : isPlace t = (t == 6) := by unfold isPlace; rw [Bool.eq_iff_iff]; simp; omega
    have h3 : t < 1 := by omega
    rw [e]
    clear h1 e
    go_enter Try.func95, Try.ntmps95
    go_wp2
    go_ret
    exact ⟨rfl, rfl⟩
theorem at117 (v a b : Int) (B : Nat) (w : World) (h0 : 0 ≤ v) (h1 : v ≤ 18446744073709551615) (ha : 0 ≤ a) (ha2 : a ≤ 63) (hb : 0 ≤ b) (hb2 : b ≤ 63) (hc : w.cell? ⟨B, 0, none⟩ = some (.int .u64 v)) :
    Calls Try.prog 117 #[.int .i64 a, .int .i64 b, .pointer (some ⟨B, 0, none⟩)] w fun e w' => (∃ r, e = .returned (.int .u64 r)) ∧ ∃ q, w' = w.drewN q := by
  go_enter Try.func117, Try.ntmps117
  go_wp2
  go_quiet (fail)
  go_wp2
  go_ret
  exact ⟨⟨_, rfl⟩, _, rfl⟩
theorem parts_any (v : Int) (w : World) (h0 : 0 ≤ v) (h1 : v ≤ 18446744073709551615) :
    Calls Try.prog 109 #[.int .u64 v] w fun e w' => (∃ a b c, e = .returned (.tuple #[.int .i64 a, .int .i64 b, .int .u64 c])) ∧ Off [] w w' := by
  have hc : (w.alloc (.cells #[.int .u64 v] 29)).cell? ⟨w.heap.size, 0, none⟩ = some (.int .u64 v) := by
    rw [cell_of_row _ _ 0 _ _ _ (Array.getElem?_push_size)]; rfl
  have O := (Off.refl [] w).alloc (.cells #[.int .u64 v] 29)
  have OO := Lib.hid O
  clear O
  go_enter Try.func109, Try.ntmps109
  go_wp2_with fail
  generalize w.alloc _ = w1 at hc OO ⊢
  refine (at117 v _ _ _ w1 h0 h1 (by omega) (by omega) (by omega) (by omega) hc).mono ?_
  rintro e w2 ⟨⟨r, rfl⟩, q, rfl⟩
  have hc2 : (w1.drewN q).cell? ⟨w.heap.size, 0, none⟩ = some (.int .u64 v) := hc
  have O2 := Lib.hid (OO.out.drewN q)
  generalize w1.drewN q = w2 at hc2 O2 ⊢
  go_wp2_with fail
  refine (at117 v _ _ _ w2 h0 h1 (by omega) (by omega) (by omega) (by omega) hc2).mono ?_
  rintro e w3 ⟨⟨r3, rfl⟩, q3, rfl⟩
  have hc3 : (w2.drewN q3).cell? ⟨w.heap.size, 0, none⟩ = some (.int .u64 v) := hc2
  have O3 := Lib.hid (O2.out.drewN q3)
  generalize w2.drewN q3 = w3 at hc3 O3 ⊢
  go_wp2_with fail
  refine (at117 v _ _ _ w3 h0 h1 (by omega) (by omega) (by omega) (by omega) hc3).mono ?_
  rintro e w4 ⟨⟨r4, rfl⟩, q4, rfl⟩
  have O4 := Lib.hid (O3.out.drewN q4)
  generalize w3.drewN q4 = w4 at O4 ⊢
  go_wp2_with fail
  go_ret3
  exact ⟨⟨_, _, _, rfl⟩, O4.out⟩
/-- 'May' of a word whose tag is that of an address. -/
theorem may_place (v : Int) (w : World) (h0 : 0 ≤ v) (h1 : v ≤ 18446744073709551615) (ht : v % 8 = 1 ∨ v % 8 = 2 ∨ v % 8 = 3 ∨ v % 8 = 6) :
    Calls Try.prog 96 #[.int .u64 v] w fun e w' => e = .returned (.bool (decide (v / 8 < 65536))) ∧ Off [] w w' := by
  have hp := Lib.hid (parts_any v w h0 h1)
  have ht' := Lib.hid ht
  clear ht
  go_enter Try.func96, Try.ntmps96
  go_wp2_with fail
  refine hp.out.mono ?_
  rintro e w1 ⟨⟨a, b, c, rfl⟩, O⟩
  have O1 := Lib.hid O
  clear O
  go_wp2_with fail
  refine (tag_any v w1 h0 h1).mono ?_
  rintro e w2 ⟨rfl, rfl⟩
  obtain h | h | h | h := ht'.out
  all_goals
    rw [h]
    go_wp2_with fail
    go_ret
    exact ⟨rfl, O1.out⟩
def isAddr (v : Int) : Bool := isPlace (v % 8) && decide (v / 8 < 65536)
theorem addr_yes (v : Int) (w : World) (h0 : 0 ≤ v) (h1 : v ≤ 18446744073709551615) (h : isAddr v = true) :
    Calls Try.prog 80 #[.int .u64 v] w fun e w' => e = .returned (.tuple #[.int .i64 (v / 8), .bool true]) ∧ Off [] w w' := by
  unfold isAddr at h
  rw [Bool.and_eq_true] at h
  obtain ⟨ha, hb⟩ := h
  have ht : v % 8 = 1 ∨ v % 8 = 2 ∨ v % 8 = 3 ∨ v % 8 = 6 := by have := of_decide_eq_true ha; omega
  have hlt := of_decide_eq_true hb
  have hm := Lib.hid (may_place v w h0 h1 ht)
  rw [hb] at hm
  have ha' := Lib.hid ha
  clear ha hb ht
  go_enter Try.func80, Try.ntmps80
  go_wp2_with fail
  refine (tag_any v w h0 h1).mono ?_
  rintro e w2 ⟨rfl, rfl⟩
  go_wp2_with fail
  refine (place_any _ w).mono ?_
  rintro e w2 ⟨rfl, rfl⟩
  rw [ha'.out]
  go_wp2_with fail
  refine hm.out.mono ?_
  rintro e w2 ⟨rfl, O⟩
  have O1 := Lib.hid O
  clear O
  go_wp2_with fail
  go_ret2
  exact ⟨rfl, O1.out⟩
theorem addr_no (v : Int) (w : World) (h0 : 0 ≤ v) (h1 : v ≤ 18446744073709551615) (h : isAddr v = false) :
    Calls Try.prog 80 #[.int .u64 v] w fun e w' => e = .returned (.tuple #[.int .i64 0, .bool false]) ∧ Off [] w w' := by
  by_cases ha : isPlace (v % 8) = true
  · have hb : decide (v / 8 < 65536) = false := by unfold isAddr at h; rw [ha] at h; simpa using h
    have ht : v % 8 = 1 ∨ v % 8 = 2 ∨ v % 8 = 3 ∨ v % 8 = 6 := by have := of_decide_eq_true ha; omega
    have hm := Lib.hid (may_place v w h0 h1 ht)
    rw [hb] at hm
    have ha' := Lib.hid ha
    clear ha hb ht h
    go_enter Try.func80, Try.ntmps80
    go_wp2_with fail
    refine (tag_any v w h0 h1).mono ?_
    rintro e w2 ⟨rfl, rfl⟩
    go_wp2_with fail
    refine (place_any _ w).mono ?_
    rintro e w2 ⟨rfl, rfl⟩
    rw [ha'.out]
    go_wp2_with fail
    refine hm.out.mono ?_
    rintro e w2 ⟨rfl, O⟩
    have O1 := Lib.hid O
    clear O
    go_wp2_with fail
    go_ret2
    exact ⟨rfl, O1.out⟩
  · have ha : isPlace (v % 8) = false := by simpa using ha
    have ha' := Lib.hid ha
    clear ha h
    go_enter Try.func80, Try.ntmps80
    go_wp2_with fail
    refine (tag_any v w h0 h1).mono ?_
    rintro e w2 ⟨rfl, rfl⟩
    go_wp2_with fail
    refine (place_any _ w).mono ?_
    rintro e w2 ⟨rfl, rfl⟩
    rw [ha'.out]
    go_wp2_with fail
    go_ret2
    exact ⟨rfl, Off.refl _ _⟩

/-- Cards: a block that points to a space. -/
structure CardAt (w : World) (cb pb mb sb n : Nat) (M : MemS) (C : Nat → Int) : Prop where
  sp : SpaceAt w pb mb sb n M C
  ptr : w.cell? ⟨cb, 0, none⟩ = some (.pointer (some ⟨pb, 0, none⟩))
  np : cb ≠ pb
  nm : cb ≠ mb
  ns : cb ≠ sb
theorem CardAt.cb_lt {w : World} {cb pb mb sb n : Nat} {M : MemS} {C : Nat → Int} (h : CardAt w cb pb mb sb n M C) : cb < w.heap.size := World.block_lt_of_cell? w _ h.ptr
theorem CardAt.off {w w' : World} {cb pb mb sb n : Nat} {M : MemS} {C : Nat → Int} {L : List Nat} (h : CardAt w cb pb mb sb n M C) (hn : 0 < n) (ho : Off L w w') (h0 : cb ∉ L) (h1 : pb ∉ L) (h2 : mb ∉ L) (h3 : sb ∉ L) : CardAt w' cb pb mb sb n M C :=
  ⟨h.sp.off hn ho h1 h2 h3, ho.cell h.ptr h0, h.np, h.nm, h.ns⟩
theorem CardAt.sp' {w w' : World} {cb pb mb sb n : Nat} {M M' : MemS} {C C' : Nat → Int} {L : List Nat} (h : CardAt w cb pb mb sb n M C) (ho : Off L w w') (h0 : cb ∉ L) (H : SpaceAt w' pb mb sb n M' C') : CardAt w' cb pb mb sb n M' C' :=
  ⟨H, ho.cell h.ptr h0, h.np, h.nm, h.ns⟩
/-- Only the memory's segments have turned. -/
theorem CardAt.mem' {w w' : World} {cb pb mb sb n : Nat} {M M' : MemS} {C : Nat → Int} {L : List Nat} (h : CardAt w cb pb mb sb n M C) (ho : Off L w w') (h0 : cb ∉ L) (h1 : pb ∉ L) (H : MemAt w' mb sb n M') : CardAt w' cb pb mb sb n M' C :=
  h.sp' ho h0 (h.sp.mem' ho h1 H)

theorem cnone_no {w : World} {cb pb mb sb n : Nat} {M : MemS} {C : Nat → Int} (h : CardAt w cb pb mb sb n M C) :
    Calls Try.prog 77 #[.pointer (some ⟨cb, 0, none⟩)] w fun e w' => e = .returned (.bool false) ∧ w = w' := by
  have h0 := h.ptr
  have h1 := h.sp.ptr
  clear h
  go_enter Try.func77, Try.ntmps77
  go_wp2
  go_ret
  exact ⟨rfl, rfl⟩

instance (M : MemS) (n : Nat) (x : Int) : Decidable (M.isTaken n x) := by unfold MemS.isTaken; infer_instance
/-- A word is an address, and of which generation what it points to is. -/
def genOf (n : Nat) (M : MemS) (v : Int) : Option Int :=
  if isAddr v = true ∧ v % 8 ≠ 6 ∧ M.isTaken n (v / 8 / 64) then some (M.S (v / 8 / 64).toNat).gen else none

theorem gen_any {w : World} {cb pb mb sb n : Nat} {M : MemS} {C : Nat → Int} (h : CardAt w cb pb mb sb n M C) (hn0 : 0 < n) (hn : n ≤ 1024) (v : Int) (h0 : 0 ≤ v) (h1 : v ≤ 18446744073709551615) :
    Calls Try.prog 48 #[.pointer (some ⟨cb, 0, none⟩), .int .u64 v] w fun e w' => e = .returned (.tuple #[.int .i64 ((genOf n M v).getD 0), .bool (genOf n M v).isSome]) ∧ Off [] w w' := by
  have hh := Lib.hid h
  by_cases ha : isAddr v = true
  · have hy := Lib.hid (addr_yes v w h0 h1 ha)
    by_cases h6 : v % 8 = 6
    · have e : genOf n M v = none := if_neg (fun h => h.2.1 h6)
      rw [e]
      clear ha h e
      have h6' := Lib.hid h6
      clear h6
      go_enter Try.func48, Try.ntmps48
      go_wp2_with fail
      refine hy.out.mono ?_
      rintro e w1 ⟨rfl, O⟩
      have O1 := Lib.hid O
      have H1 := Lib.hid (hh.out.off hn0 O (by simp) (by simp) (by simp) (by simp))
      clear O
      go_wp2_with fail
      refine (cnone_no H1.out).mono ?_
      rintro e w2 ⟨rfl, rfl⟩
      go_wp2_with fail
      refine (tag_any v w1 h0 h1).mono ?_
      rintro e w2 ⟨rfl, rfl⟩
      rw [h6'.out]
      go_wp2_with fail
      go_ret2
      exact ⟨rfl, O1.out⟩
    · have e6 : (v % 8 == 6) = false := beq_eq_false_iff_ne.2 h6
      have hlt : v / 8 < 65536 := by unfold isAddr at ha; rw [Bool.and_eq_true] at ha; exact of_decide_eq_true ha.2
      by_cases ht : M.isTaken n (v / 8 / 64)
      · have e : genOf n M v = some (M.S (v / 8 / 64).toNat).gen := if_pos ⟨ha, h6, ht⟩
        rw [e]
        simp only [Option.getD_some, Option.isSome_some]
        have hs : ∀ w1, MemAt w1 mb sb n M → Calls Try.prog 17 #[.pointer (some ⟨mb, 0, none⟩), .int .i64 (v / 8 / 64)] w1 fun e w' =>
            e = .returned (.tuple #[(M.S (v / 8 / 64).toNat).told, .bool true]) ∧ Off [] w1 w' := fun w1 H => seg_yes H hn _ (by have := ht.1; have := ht.2.1; omega) ht.2.2 _ (by have := ht.1; omega)
        generalize M.S (v / 8 / 64).toNat = s at hs ⊢
        have hs' := Lib.hid hs
        clear ha h e h6 ht hs
        go_enter Try.func48, Try.ntmps48
        go_wp2_with fail
        refine hy.out.mono ?_
        rintro e w1 ⟨rfl, O⟩
        have O1 := Lib.hid O
        have H1 := Lib.hid (hh.out.off hn0 O (by simp) (by simp) (by simp) (by simp))
        clear O
        go_wp2_with fail
        refine (cnone_no H1.out).mono ?_
        rintro e w2 ⟨rfl, rfl⟩
        go_wp2_with fail
        refine (tag_any v w1 h0 h1).mono ?_
        rintro e w2 ⟨rfl, rfl⟩
        have p1 := H1.out.ptr
        have p2 := H1.out.sp.ptr
        go_wp2_with fail
        refine (hs'.out _ H1.out.sp.mem).mono ?_
        rintro e w2 ⟨rfl, O⟩
        have O2 := Lib.hid (O1.out.trans O)
        clear O
        unfold SegS.told
        go_wp2_with fail
        go_ret2
        exact ⟨rfl, O2.out.alloc _⟩
      · have e : genOf n M v = none := if_neg (fun h => ht h.2.2)
        rw [e]
        simp only [Option.getD_none, Option.isSome_none]
        have hs : ∀ w1, MemAt w1 mb sb n M → Calls Try.prog 17 #[.pointer (some ⟨mb, 0, none⟩), .int .i64 (v / 8 / 64)] w1 fun e w' =>
            e = .returned (.tuple #[SegS.zero.told, .bool false]) ∧ Off [] w1 w' := fun w1 H => seg_no H hn0 hn _ ht
        have hs' := Lib.hid hs
        clear ha h e h6 ht hs
        go_enter Try.func48, Try.ntmps48
        go_wp2_with fail
        refine hy.out.mono ?_
        rintro e w1 ⟨rfl, O⟩
        have O1 := Lib.hid O
        have H1 := Lib.hid (hh.out.off hn0 O (by simp) (by simp) (by simp) (by simp))
        clear O
        go_wp2_with fail
        refine (cnone_no H1.out).mono ?_
        rintro e w2 ⟨rfl, rfl⟩
        go_wp2_with fail
        refine (tag_any v w1 h0 h1).mono ?_
        rintro e w2 ⟨rfl, rfl⟩
        have p1 := H1.out.ptr
        have p2 := H1.out.sp.ptr
        go_wp2_with fail
        refine (hs'.out _ H1.out.sp.mem).mono ?_
        rintro e w2 ⟨rfl, O⟩
        have O2 := Lib.hid (O1.out.trans O)
        clear O
        unfold SegS.told SegS.zero
        go_wp2_with fail
        go_ret2
        exact ⟨rfl, O2.out.alloc _⟩
  · have ha : isAddr v = false := by simpa using ha
    have hy := Lib.hid (addr_no v w h0 h1 ha)
    have e : genOf n M v = none := if_neg (fun h => by rw [ha] at h; exact absurd h.1 (by simp))
    rw [e]
    clear ha h e
    go_enter Try.func48, Try.ntmps48
    go_wp2_with fail
    refine hy.out.mono ?_
    rintro e w1 ⟨rfl, O⟩
    have O1 := Lib.hid O
    have H1 := Lib.hid (hh.out.off hn0 O (by simp) (by simp) (by simp) (by simp))
    clear O
    go_wp2_with fail
    refine (cnone_no H1.out).mono ?_
    rintro e w2 ⟨rfl, rfl⟩
    go_wp2_with fail
    go_ret2
    exact ⟨rfl, O1.out⟩

/-- A mark that knows of a word, too. -/
def younger (n : Nat) (M : MemS) (s : SegS) (v mark : Int) : Int :=
  match genOf n M v with
  | some g => if s.kind ≠ 3 ∧ g < s.gen then min mark g else mark
  | none => mark
theorem younger_any {w : World} {cb pb mb sb n : Nat} {M : MemS} {C : Nat → Int} (h : CardAt w cb pb mb sb n M C) (hn0 : 0 < n) (hn : n ≤ 1024) (s : SegS) (v mark : Int) (h0 : 0 ≤ v) (h1 : v ≤ 18446744073709551615) :
    Calls Try.prog 79 #[.pointer (some ⟨cb, 0, none⟩), .agg #[.int .i64 s.gen, .int .i64 s.kind, .int .i64 s.n, .int .i64 s.c0, .int .i64 s.c1, .int .i64 s.c2, .int .i64 s.c3], .int .u64 v, .int .i64 mark] w fun e w' => e = .returned (.int .i64 (younger n M s v mark)) ∧ Off [] w w' := by
  have hh := Lib.hid h
  have hg : ∀ w1, CardAt w1 cb pb mb sb n M C → _ := fun w1 h => gen_any h hn0 hn v h0 h1
  have hgen := Lib.hid hg
  obtain ⟨gen, kind, nn, c0, c1, c2, c3, t, ws⟩ := s
  unfold younger
  clear h hg
  generalize genOf n M v = o at hgen ⊢
  have O0 := Lib.hid ((Off.refl [] w).alloc (.cells #[.int .i64 gen, .int .i64 kind, .int .i64 nn, .int .i64 c0, .int .i64 c1, .int .i64 c2, .int .i64 c3] 37))
  have hA : (w.alloc (.cells #[.int .i64 gen, .int .i64 kind, .int .i64 nn, .int .i64 c0, .int .i64 c1, .int .i64 c2, .int .i64 c3] 37)).heap[w.heap.size]? = some _ := Array.getElem?_push_size
  have d0 : (w.alloc (.cells #[.int .i64 gen, .int .i64 kind, .int .i64 nn, .int .i64 c0, .int .i64 c1, .int .i64 c2, .int .i64 c3] 37)).cell? ⟨w.heap.size, 0, none⟩ = some (.int .i64 gen) := by
    rw [cell_of_row _ _ 0 _ _ _ hA]; rfl
  have d1 : (w.alloc (.cells #[.int .i64 gen, .int .i64 kind, .int .i64 nn, .int .i64 c0, .int .i64 c1, .int .i64 c2, .int .i64 c3] 37)).cell? ⟨w.heap.size, 1, none⟩ = some (.int .i64 kind) := by
    rw [cell_of_row _ _ 1 _ _ _ hA]; rfl
  clear hA
  cases o with
  | none =>
    simp only [Option.getD_none, Option.isSome_none] at hgen
    clear d0 d1
    go_enter Try.func79, Try.ntmps79
    go_wp2_with fail
    refine (hgen.out _ (hh.out.off hn0 O0.out (by simp) (by simp) (by simp) (by simp))).mono ?_
    rintro e w1 ⟨rfl, O⟩
    have O1 := Lib.hid (O0.out.trans O)
    clear O
    go_wp2_with fail
    go_ret
    exact ⟨rfl, O1.out⟩
  | some g =>
    simp only [Option.getD_some, Option.isSome_some] at hgen ⊢
    by_cases hk : kind = 3
    · rw [if_neg (fun h => h.1 hk)]
      subst hk
      go_enter Try.func79, Try.ntmps79
      go_wp2_with fail
      refine (hgen.out _ (hh.out.off hn0 O0.out (by simp) (by simp) (by simp) (by simp))).mono ?_
      rintro e w1 ⟨rfl, O⟩
      have k0 := O.cell d0 (by simp)
      have k1 := O.cell d1 (by simp)
      have O1 := Lib.hid (O0.out.trans O)
      clear O d0 d1
      go_wp2_with fail
      go_ret
      exact ⟨rfl, O1.out⟩
    · have e3 : (kind != 3) = true := by simp [hk]
      by_cases hgg : g < gen
      · rw [if_pos ⟨hk, hgg⟩]
        clear hk
        by_cases hgm : mark ≤ g
        · rw [show min mark g = mark by omega]
          go_enter Try.func79, Try.ntmps79
          go_wp2_with fail
          refine (hgen.out _ (hh.out.off hn0 O0.out (by simp) (by simp) (by simp) (by simp))).mono ?_
          rintro e w1 ⟨rfl, O⟩
          have k0 := O.cell d0 (by simp)
          have k1 := O.cell d1 (by simp)
          have O1 := Lib.hid (O0.out.trans O)
          clear O d0 d1
          go_wp2_with fail
          go_ret
          exact ⟨rfl, O1.out⟩
        · rw [show min mark g = g by omega]
          have hgm' : g < mark := by omega
          clear hgm
          go_enter Try.func79, Try.ntmps79
          go_wp2_with fail
          refine (hgen.out _ (hh.out.off hn0 O0.out (by simp) (by simp) (by simp) (by simp))).mono ?_
          rintro e w1 ⟨rfl, O⟩
          have k0 := O.cell d0 (by simp)
          have k1 := O.cell d1 (by simp)
          have O1 := Lib.hid (O0.out.trans O)
          clear O d0 d1
          go_wp2_with fail
          go_ret
          exact ⟨rfl, O1.out⟩
      · rw [if_neg (fun h => hgg h.2)]
        have hge : decide (g < gen) = false := decide_eq_false hgg
        clear hk hgg
        go_enter Try.func79, Try.ntmps79
        go_wp2_with fail
        refine (hgen.out _ (hh.out.off hn0 O0.out (by simp) (by simp) (by simp) (by simp))).mono ?_
        rintro e w1 ⟨rfl, O⟩
        have k0 := O.cell d0 (by simp)
        have k1 := O.cell d1 (by simp)
        have O1 := Lib.hid (O0.out.trans O)
        clear O d0 d1
        go_wp2_with fail
        go_ret
        exact ⟨rfl, O1.out⟩
end Go.Proofs.Ytoafoodgomnfeaa
