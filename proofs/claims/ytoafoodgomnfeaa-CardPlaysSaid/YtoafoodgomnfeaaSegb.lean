/-
  YtoafoodgomnfeaaSegb: Bump, word, Read, Write, Mark, Limit, New of package seg.
-/
import Derived.Test.YtoafoodgomnfeaaSeg
namespace Go.Proofs.Ytoafoodgomnfeaa
open Go.RowKit
set_option linter.unusedVariables false

theorem limit_any (mb n cap : Nat) (a : Option Addr) (w : World) (h0 : w.cell? ⟨mb, 0, none⟩ = some (.slice a n cap)) :
    Calls Try.prog 23 #[.pointer (some ⟨mb, 0, none⟩)] w fun e w' => e = .returned (.int .i64 n) ∧ w = w' := by
  go_enter Try.func23, Try.ntmps23
  go_wp2
  go_ret
  exact ⟨rfl, rfl⟩

theorem bump_no {mb sb n : Nat} {M : MemS} {w : World} (H : MemAt w mb sb n M) (hn : n ≤ 1024) (x b : Int) (hx : ¬ M.isTaken n x) :
    Calls Try.prog 19 #[.pointer (some ⟨mb, 0, none⟩), .int .i64 x, .int .i64 b] w fun e w' => e = .returned (.tuple #[.int .i64 0, .int .i64 19]) ∧ w = w' := by
  have Hh := Lib.hid H
  have hx' := Lib.hid hx
  clear H hx
  go_enter Try.func19, Try.ntmps19
  go_wp2_with (go_at_call 54; refine (at_none Hh.out hn _ hx'.out).mono ?_; rintro e w' ⟨rfl, rfl⟩)
  go_ret2
  exact ⟨rfl, rfl⟩

set_option maxHeartbeats 400000 in
theorem bump_arg {mb sb n : Nat} {M : MemS} {w : World} (H : MemAt w mb sb n M) (hn : n ≤ 1024) (k : Nat) (hk : k < n) (ht : (M.S k).taken ≠ 0) (x b : Int) (hx : x = k) (hb : b < 1) :
    Calls Try.prog 19 #[.pointer (some ⟨mb, 0, none⟩), .int .i64 x, .int .i64 b] w fun e w' => e = .returned (.tuple #[.int .i64 0, .int .i64 1]) ∧ w = w' := by
  have Hh := Lib.hid H
  have hx' := Lib.hid hx
  have ht' := Lib.hid ht
  clear H hx ht
  go_enter Try.func19, Try.ntmps19
  go_wp2_with (go_at_call 54; refine (at_taken Hh.out hn k hk ht'.out _ hx'.out).mono ?_; rintro e w' ⟨rfl, rfl⟩)
  go_ret2
  exact ⟨rfl, rfl⟩

set_option maxHeartbeats 400000 in
theorem bump_full {mb sb n : Nat} {M : MemS} {w : World} (H : MemAt w mb sb n M) (hn : n ≤ 1024) (k : Nat) (hk : k < n) (ht : (M.S k).taken ≠ 0) (x b : Int) (hx : x = k) (hb : 1 ≤ b)
    (hN0 : 0 ≤ (M.S k).n) (hN : (M.S k).n ≤ 64) (hf : 64 - (M.S k).n < b) :
    Calls Try.prog 19 #[.pointer (some ⟨mb, 0, none⟩), .int .i64 x, .int .i64 b] w fun e w' => e = .returned (.tuple #[.int .i64 0, .int .i64 2]) ∧ w = w' := by
  have cN := H.used hk
  have Hh := Lib.hid H
  have hx' := Lib.hid hx
  have ht' := Lib.hid ht
  generalize hN' : (M.S k).n = N at *
  have hN'' := Lib.hid hN'
  clear H hx ht hN'
  go_enter Try.func19, Try.ntmps19
  go_wp2_with (go_at_call 54; refine (at_taken Hh.out hn k hk ht'.out _ hx'.out).mono ?_; rintro e w' ⟨rfl, rfl⟩)
  go_ret2
  exact ⟨rfl, rfl⟩

set_option maxHeartbeats 400000 in
theorem bump_yes {mb sb n : Nat} {M : MemS} {w : World} (H : MemAt w mb sb n M) (hn : n ≤ 1024) (k : Nat) (hk : k < n) (ht : (M.S k).taken ≠ 0) (x b : Int) (hx : x = k) (hb : 1 ≤ b)
    (hN0 : 0 ≤ (M.S k).n) (hN : (M.S k).n ≤ 64) (hf : b ≤ 64 - (M.S k).n) :
    Calls Try.prog 19 #[.pointer (some ⟨mb, 0, none⟩), .int .i64 x, .int .i64 b] w fun e w' => e = .returned (.tuple #[.int .i64 (k * 64 + (M.S k).n), .int .i64 0]) ∧
      MemAt w' mb sb n (M.put k { M.S k with n := (M.S k).n + b }) ∧ Off [sb] w w' := by
  have cN := H.used hk
  have fN := (H.body k hk 2 (by omega)).2
  have HS := H.setField hk { M.S k with n := (M.S k).n + b } 2 (by omega) _ rfl (fun j hj hne => by match j with | 0 | 1 | 3 | 4 | 5 | 6 | 7 => rfl | 2 => exact absurd rfl hne | j + 8 => rfl)
  simp only [SegS.cellOf] at HS
  subst hx
  have Hh := Lib.hid H
  have HSh := Lib.hid HS
  have ht' := Lib.hid ht
  have e1 : ((k : Int) * 64 + ((M.S k).n + b)) - b = k * 64 + (M.S k).n := by omega
  generalize hN' : (M.S k).n = N at *
  have hN'' := Lib.hid hN'
  have e1' := Lib.hid e1
  clear H ht hN' HS e1
  go_enter Try.func19, Try.ntmps19
  go_wp2_with (go_at_call 54; refine (at_taken Hh.out hn k hk ht'.out _ rfl).mono ?_; rintro e w' ⟨rfl, rfl⟩)
  go_ret2
  rw [e1'.out]
  exact ⟨rfl, HSh.out, (Off.refl _ _).setCell (by simp) _⟩

theorem word_neg (mb : Nat) (x : Int) (w : World) (hx : x < 0) :
    Calls Try.prog 55 #[.pointer (some ⟨mb, 0, none⟩), .int .i64 x] w fun e w' => e = .returned (.pointer none) ∧ w = w' := by
  go_enter Try.func55, Try.ntmps55
  go_wp2
  go_ret
  exact ⟨rfl, rfl⟩

theorem word_no {mb sb n : Nat} {M : MemS} {w : World} (H : MemAt w mb sb n M) (hn : n ≤ 1024) (x : Int) (h0 : 0 ≤ x) (hxm : x ≤ 9223372036854775807) (hx : ¬ M.isTaken n (x / 64)) :
    Calls Try.prog 55 #[.pointer (some ⟨mb, 0, none⟩), .int .i64 x] w fun e w' => e = .returned (.pointer none) ∧ w = w' := by
  have Hh := Lib.hid H
  have hx' := Lib.hid hx
  clear H hx
  go_enter Try.func55, Try.ntmps55
  go_wp2_with (go_at_call 54; refine (at_none Hh.out hn _ hx'.out).mono ?_; rintro e w' ⟨rfl, rfl⟩)
  go_ret
  exact ⟨rfl, rfl⟩

set_option maxHeartbeats 400000 in
theorem word_over {mb sb n : Nat} {M : MemS} {w : World} (H : MemAt w mb sb n M) (hn : n ≤ 1024) (k : Nat) (hk : k < n) (ht : (M.S k).taken ≠ 0) (x : Int) (h0 : 0 ≤ x) (hxm : x ≤ 9223372036854775807) (hx : x / 64 = k) (hN : (M.S k).n ≤ x % 64) :
    Calls Try.prog 55 #[.pointer (some ⟨mb, 0, none⟩), .int .i64 x] w fun e w' => e = .returned (.pointer none) ∧ w = w' := by
  have cN := H.used hk
  have Hh := Lib.hid H
  have hx' := Lib.hid hx
  have ht' := Lib.hid ht
  generalize hN' : (M.S k).n = N at *
  have hN'' := Lib.hid hN'
  clear H hx ht hN'
  go_enter Try.func55, Try.ntmps55
  go_wp2_with (go_at_call 54; refine (at_taken Hh.out hn k hk ht'.out _ hx'.out).mono ?_; rintro e w' ⟨rfl, rfl⟩)
  go_ret
  exact ⟨rfl, rfl⟩

set_option maxHeartbeats 400000 in
theorem word_yes {mb sb n : Nat} {M : MemS} {w : World} (H : MemAt w mb sb n M) (hn : n ≤ 1024) (k : Nat) (hk : k < n) (ht : (M.S k).taken ≠ 0) (x : Int) (h0 : 0 ≤ x) (hxm : x ≤ 9223372036854775807) (hx : x / 64 = k) (hN : x % 64 < (M.S k).n) :
    Calls Try.prog 55 #[.pointer (some ⟨mb, 0, none⟩), .int .i64 x] w fun e w' => e = .returned (.pointer (some ⟨sb, k * 72 + 8 + (x % 64).toNat, none⟩)) ∧ w = w' := by
  have cN := H.used hk
  have Hh := Lib.hid H
  have hx' := Lib.hid hx
  have ht' := Lib.hid ht
  have p1 : 0 ≤ x % 64 := by omega
  have p2 : x % 64 < 64 := by omega
  generalize hN' : (M.S k).n = N at *
  have hN'' := Lib.hid hN'
  clear H hx ht hN'
  go_enter Try.func55, Try.ntmps55
  go_wp2_with (go_at_call 54; refine (at_taken Hh.out hn k hk ht'.out _ hx'.out).mono ?_; rintro e w' ⟨rfl, rfl⟩)
  go_ret
  exact ⟨rfl, rfl⟩

/-- There is such a word, and it is used. -/
def MemS.hasWord (M : MemS) (n : Nat) (x : Int) : Prop := 0 ≤ x ∧ M.isTaken n (x / 64) ∧ x % 64 < (M.S (x / 64).toNat).n

theorem word_none {mb sb n : Nat} {M : MemS} {w : World} (H : MemAt w mb sb n M) (hn : n ≤ 1024) (x : Int) (hxm : x ≤ 9223372036854775807) (hx : ¬ M.hasWord n x) :
    Calls Try.prog 55 #[.pointer (some ⟨mb, 0, none⟩), .int .i64 x] w fun e w' => e = .returned (.pointer none) ∧ w = w' := by
  by_cases h0 : x < 0
  · exact word_neg mb x w h0
  by_cases ht : M.isTaken n (x / 64)
  · obtain ⟨t1, t2, t3⟩ := ht
    refine word_over H hn (x / 64).toNat (by omega) t3 x (by omega) hxm (by omega) ?_
    by_cases hl : x % 64 < (M.S (x / 64).toNat).n
    · exact absurd ⟨by omega, ⟨t1, t2, t3⟩, hl⟩ hx
    · omega
  · exact word_no H hn x (by omega) hxm ht
theorem word_some {mb sb n : Nat} {M : MemS} {w : World} (H : MemAt w mb sb n M) (hn : n ≤ 1024) (x : Int) (hxm : x ≤ 9223372036854775807) (hx : M.hasWord n x) :
    Calls Try.prog 55 #[.pointer (some ⟨mb, 0, none⟩), .int .i64 x] w fun e w' => e = .returned (.pointer (some ⟨sb, (x / 64).toNat * 72 + 8 + (x % 64).toNat, none⟩)) ∧ w = w' := by
  obtain ⟨h0, ⟨t1, t2, t3⟩, h3⟩ := hx
  exact word_yes H hn (x / 64).toNat (by omega) t3 x (by omega) hxm (by omega) h3

theorem read_none {mb sb n : Nat} {M : MemS} {w : World} (H : MemAt w mb sb n M) (hn : n ≤ 1024) (x : Int) (hxm : x ≤ 9223372036854775807) (hx : ¬ M.hasWord n x) :
    Calls Try.prog 21 #[.pointer (some ⟨mb, 0, none⟩), .int .i64 x] w fun e w' => e = .returned (.tuple #[.int .u64 0, .int .i64 18]) ∧ w = w' := by
  have Hh := Lib.hid H
  have hx' := Lib.hid hx
  clear H hx
  go_enter Try.func21, Try.ntmps21
  go_wp2_with (go_at_call 55; refine (word_none Hh.out hn _ hxm hx'.out).mono ?_; rintro e w' ⟨rfl, rfl⟩)
  go_ret2
  exact ⟨rfl, rfl⟩

theorem read_some {mb sb n : Nat} {M : MemS} {w : World} (H : MemAt w mb sb n M) (hn : n ≤ 1024) (x : Int) (hxm : x ≤ 9223372036854775807) (hx : M.hasWord n x) :
    Calls Try.prog 21 #[.pointer (some ⟨mb, 0, none⟩), .int .i64 x] w fun e w' => e = .returned (.tuple #[.int .u64 ((M.S (x / 64).toNat).words (x % 64).toNat), .int .i64 0]) ∧ w = w' := by
  have hw := H.word (k := (x / 64).toNat) (by obtain ⟨_, ⟨_, _, _⟩, _⟩ := hx; omega) (j := (x % 64).toNat) (by omega)
  have Hh := Lib.hid H
  have hx' := Lib.hid hx
  clear H hx
  go_enter Try.func21, Try.ntmps21
  go_wp2_with (go_at_call 55; refine (word_some Hh.out hn _ hxm hx'.out).mono ?_; rintro e w' ⟨rfl, rfl⟩)
  go_ret2
  exact ⟨rfl, rfl⟩

theorem write_none {mb sb n : Nat} {M : MemS} {w : World} (H : MemAt w mb sb n M) (hn : n ≤ 1024) (x : Int) (v : Int) (hxm : x ≤ 9223372036854775807) (hx : ¬ M.hasWord n x) :
    Calls Try.prog 20 #[.pointer (some ⟨mb, 0, none⟩), .int .i64 x, .int .u64 v] w fun e w' => e = .returned (.int .i64 18) ∧ w = w' := by
  have Hh := Lib.hid H
  have hx' := Lib.hid hx
  clear H hx
  go_enter Try.func20, Try.ntmps20
  go_wp2_with (go_at_call 55; refine (word_none Hh.out hn _ hxm hx'.out).mono ?_; rintro e w' ⟨rfl, rfl⟩)
  go_ret
  exact ⟨rfl, rfl⟩

def SegS.putWord (s : SegS) (j : Nat) (v : Int) : SegS := { s with words := fun i => if i = j then v else s.words i }

theorem write_some {mb sb n : Nat} {M : MemS} {w : World} (H : MemAt w mb sb n M) (hn : n ≤ 1024) (x : Int) (v : Int) (hxm : x ≤ 9223372036854775807) (hx : M.hasWord n x) :
    Calls Try.prog 20 #[.pointer (some ⟨mb, 0, none⟩), .int .i64 x, .int .u64 v] w fun e w' => e = .returned (.int .i64 0) ∧
      MemAt w' mb sb n (M.put (x / 64).toNat ((M.S (x / 64).toNat).putWord (x % 64).toNat v)) ∧ Off [sb] w w' := by
  have hk : (x / 64).toNat < n := by obtain ⟨_, ⟨_, _, _⟩, _⟩ := hx; omega
  have hw := H.word hk (j := (x % 64).toNat) (by omega)
  have hf := (H.body _ hk (8 + (x % 64).toNat) (by omega)).2
  rw [← Nat.add_assoc] at hf
  have HS := H.setField hk ((M.S (x / 64).toNat).putWord (x % 64).toNat v) (8 + (x % 64).toNat) (by omega) (.int .u64 v) (by rw [Nat.add_comm]; simp [SegS.cellOf, SegS.putWord])
    (fun j hj hne => by
      match j with
      | 0 | 1 | 2 | 3 | 4 | 5 | 6 | 7 => rfl
      | j + 8 => simp only [SegS.cellOf, SegS.putWord]; rw [if_neg (by omega)])
  rw [← Nat.add_assoc] at HS
  have Hh := Lib.hid H
  have HSh := Lib.hid HS
  have hx' := Lib.hid hx
  clear H hx HS
  go_enter Try.func20, Try.ntmps20
  go_wp2_with (go_at_call 55; refine (word_some Hh.out hn _ hxm hx'.out).mono ?_; rintro e w' ⟨rfl, rfl⟩)
  go_ret
  exact ⟨rfl, HSh.out, (Off.refl _ _).setCell (by simp) _⟩

end Go.Proofs.Ytoafoodgomnfeaa
