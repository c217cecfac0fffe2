/-
  YtoafoodgomnfeaaRefa: Word, Read, Write, Mark of the document's memory: they answer as the program's does.
-/
import Derived.Test.YtoafoodgomnfeaaRef
namespace Go.Proofs.Ytoafoodgomnfeaa
open Go.RowKit
set_option linter.unusedVariables false

theorem TakenIs.isTaken {n : Nat} {M : MemS} {T : List Nat} (h : TakenIs M n [] T) {x : Int} (hx : M.isTaken n x) : ∃ i, i < T.length ∧ ((T.getD i 0 : Nat) : Int) = x := by
  obtain ⟨h0, h1, h2⟩ := hx
  have : x.toNat ∈ T := (h.mem _).2 ⟨by omega, selB_all h2⟩
  obtain ⟨i, hi, e⟩ := mem_getD this
  exact ⟨i, hi, by omega⟩
theorem TakenIs.mem_taken {n : Nat} {M : MemS} {T : List Nat} (h : TakenIs M n [] T) {k : Nat} (hk : k ∈ T) : k < n ∧ (M.S k).taken ≠ 0 := by
  have := (h.mem k).1 hk
  exact ⟨this.1, fun e => by rw [selB_free e] at this; exact absurd this.2 (by simp)⟩
theorem place_taken {w : World} {rb N n : Nat} {M : MemS} {T : List Nat} {V : Nat → Value} {v : Value} (h : RefAt w rb N M T V v) (hT : TakenIs M n [] T) (hn : n ≤ 1024) {x : Int} (hx : M.isTaken n x) :
    ∃ i, i < T.length ∧ ((T.getD i 0 : Nat) : Int) = x ∧ Calls Try.prog 91 #[.pointer (some ⟨rb, 0, none⟩), .int .i64 x] w fun e w' => e = .returned (.int .i64 i) ∧ w = w' := by
  obtain ⟨i, hi, e⟩ := hT.isTaken hx
  refine ⟨i, hi, e, ?_⟩
  rw [← e]
  exact place_yes h (by have := hT.len; omega) hT.nodup i hi
theorem place_none {w : World} {rb N n : Nat} {M : MemS} {T : List Nat} {V : Nat → Value} {v : Value} (h : RefAt w rb N M T V v) (hT : TakenIs M n [] T) (hn : n ≤ 1024) {x : Int} (hx : ¬ M.isTaken n x) :
    Calls Try.prog 91 #[.pointer (some ⟨rb, 0, none⟩), .int .i64 x] w fun e w' => e = .returned (.int .i64 (-1)) ∧ w = w' :=
  place_no h (by have := hT.len; omega) x fun k hk e => by
    obtain ⟨h1, h2⟩ := hT.mem_taken hk
    exact hx ⟨by omega, by omega, by rw [← e, Int.toNat_natCast]; exact h2⟩

/-- What is as it was but the document's own. -/
def RefFrame (rb : Nat) (T : List Nat) (V : Nat → Value) (v : Value) (w w' : World) : Prop := ∃ L, Off L w w' ∧ ∀ b, b ∈ L → RefOwn rb T V v b
theorem RefFrame.refl (rb : Nat) (T : List Nat) (V : Nat → Value) (v : Value) (w : World) : RefFrame rb T V v w w := ⟨[], Off.refl _ _, fun b hb => by simp at hb⟩

/-- The segment's words as they lie. -/
theorem RefAt.words {w : World} {rb N : Nat} {M : MemS} {T : List Nat} {V : Nat → Value} {v : Value} (h : RefAt w rb N M T V v) {k : Nat} (hk : k ∈ T) :
    ∃ (a : Option Addr) (cap g : Nat), V k = .slice a (M.S k).n.toNat cap ∧ (0 < (M.S k).n.toNat → a = some ⟨g, 0, none⟩ ∧ (V k).ownBlock = some g) ∧ ∀ j : Nat, (j : Int) < (M.S k).n → w.cell? ⟨g, j, none⟩ = some (.int .u64 ((M.S k).words j)) ∧ w.frozen? ⟨g, j, none⟩ = false := by
  obtain ⟨a, cap, g, hv, ha, hc⟩ := ownsRow_form (h.wrow k hk)
  exact ⟨a, cap, g, hv, ha, fun j hj => by
    have := hc j (by omega)
    rw [wordsR_get M k j hj] at this
    exact this⟩

theorem rword_none {w : World} {rb N n : Nat} {M : MemS} {T : List Nat} {V : Nat → Value} {v : Value} (h : RefAt w rb N M T V v) (hT : TakenIs M n [] T) (hn : n ≤ 1024) (hu : ∀ k, k < n → 0 ≤ (M.S k).n ∧ (M.S k).n ≤ 64) (a : Int) (ha : a ≤ 9223372036854775807) (hx : ¬ M.hasWord n a) :
    Calls Try.prog 92 #[.pointer (some ⟨rb, 0, none⟩), .int .i64 a] w fun e w' => e = .returned (.tuple #[.int .i64 0, .int .i64 0, .bool false]) ∧ w = w' := by
  by_cases h0 : a < 0
  · clear h hT hx
    go_enter Try.func92, Try.ntmps92
    go_wp2
    go_ret3
    exact ⟨rfl, rfl⟩
  by_cases ht : M.isTaken n (a / 64)
  · obtain ⟨i, hi, e, hp⟩ := place_taken h hT hn ht
    have hT' := hT.len
    have hm := getD_mem hi
    have hk := (hT.mem_taken hm).1
    have hnn := hu _ hk
    obtain ⟨la, lcap, lg, rfl, hla, hlc⟩ := h.form
    obtain ⟨rfl, _⟩ := hla (by omega)
    obtain ⟨wa, wcap, wg, hv, _, _⟩ := h.words hm
    have c8 := (hlc i 8 hi (by omega)).1
    simp only [cellR] at c8
    rw [hv] at c8
    have hge : (M.S (T.getD i 0)).n ≤ a % 64 := by
      by_cases hl : a % 64 < (M.S (T.getD i 0)).n
      · exact absurd ⟨by omega, ht, by rw [← e, Int.toNat_natCast]; exact hl⟩ hx
      · omega
    have h1 := h.l
    have hp' := Lib.hid hp
    have hlen : (((M.S (T.getD i 0)).n.toNat : Nat) : Int) ≤ a % 64 := by omega
    have q1 : (i : Int) < (T.length : Int) := by omega
    have q0 : (0 : Int) ≤ (i : Int) := by omega
    have h0' : 0 ≤ a := by omega
    have hl2 : (((M.S (T.getD i 0)).n.toNat : Nat) : Int) ≤ 64 := by omega
    generalize (M.S (T.getD i 0)).n.toNat = len at *
    clear h hT hx ht hp hla hlc hv hge hnn hu h0 hm hk e
    go_enter Try.func92, Try.ntmps92
    go_wp2_with fail
    refine hp'.out.mono ?_
    rintro e w1 ⟨rfl, rfl⟩
    go_wp2_with fail
    go_ret3
    exact ⟨rfl, rfl⟩
  · have hp' := Lib.hid (place_none h hT hn ht)
    have h0' : 0 ≤ a := by omega
    clear h hT hx ht h0
    go_enter Try.func92, Try.ntmps92
    go_wp2_with fail
    refine hp'.out.mono ?_
    rintro e w1 ⟨rfl, rfl⟩
    go_wp2_with fail
    go_ret3
    exact ⟨rfl, rfl⟩
theorem rword_some {w : World} {rb N n : Nat} {M : MemS} {T : List Nat} {V : Nat → Value} {v : Value} (h : RefAt w rb N M T V v) (hT : TakenIs M n [] T) (hn : n ≤ 1024) (hu : ∀ k, k < n → 0 ≤ (M.S k).n ∧ (M.S k).n ≤ 64) (a : Int) (ha : a ≤ 9223372036854775807) (hx : M.hasWord n a) :
    ∃ i, i < T.length ∧ T.getD i 0 = (a / 64).toNat ∧ Calls Try.prog 92 #[.pointer (some ⟨rb, 0, none⟩), .int .i64 a] w fun e w' => e = .returned (.tuple #[.int .i64 i, .int .i64 (a % 64), .bool true]) ∧ w = w' := by
  obtain ⟨h0, ht, hlt⟩ := hx
  obtain ⟨i, hi, e, hp⟩ := place_taken h hT hn ht
  refine ⟨i, hi, by omega, ?_⟩
  have hT' := hT.len
  have hm := getD_mem hi
  have hk := (hT.mem_taken hm).1
  have hnn := hu _ hk
  obtain ⟨la, lcap, lg, rfl, hla, hlc⟩ := h.form
  obtain ⟨rfl, _⟩ := hla (by omega)
  obtain ⟨wa, wcap, wg, hv, _, _⟩ := h.words hm
  have c8 := (hlc i 8 hi (by omega)).1
  simp only [cellR] at c8
  rw [hv] at c8
  have h1 := h.l
  have hp' := Lib.hid hp
  rw [← e, Int.toNat_natCast] at hlt
  have hlen : a % 64 < (((M.S (T.getD i 0)).n.toNat : Nat) : Int) := by omega
  have q1 : (i : Int) < (T.length : Int) := by omega
  have q0 : (0 : Int) ≤ (i : Int) := by omega
  have hl2 : (((M.S (T.getD i 0)).n.toNat : Nat) : Int) ≤ 64 := by omega
  generalize (M.S (T.getD i 0)).n.toNat = len at *
  clear h hT ht hp hla hlc hv hlt hnn hu hm hk e
  go_enter Try.func92, Try.ntmps92
  go_wp2_with fail
  refine hp'.out.mono ?_
  rintro e w1 ⟨rfl, rfl⟩
  go_wp2_with fail
  go_ret3
  exact ⟨rfl, rfl⟩

theorem rread_all {w : World} {rb N n : Nat} {M : MemS} {T : List Nat} {V : Nat → Value} {v : Value} (h : RefAt w rb N M T V v) (hT : TakenIs M n [] T) (hn : n ≤ 1024) (hu : ∀ k, k < n → 0 ≤ (M.S k).n ∧ (M.S k).n ≤ 64) (a : Int) (ha : a ≤ 9223372036854775807) {x s : Int} (hR : ReadIs n M a x s) :
    Calls Try.prog 67 #[.pointer (some ⟨rb, 0, none⟩), .int .i64 a] w fun e w' => e = .returned (.tuple #[.int .u64 x, .int .i64 s]) ∧ w = w' := by
  rcases hR with ⟨rfl, hx, rfl⟩ | ⟨rfl, hx, rfl⟩
  · obtain ⟨i, hi, e, hp⟩ := rword_some h hT hn hu a ha hx
    have hT' := hT.len
    have hm := getD_mem hi
    have hk := (hT.mem_taken hm).1
    have hnn := hu _ hk
    obtain ⟨la, lcap, lg, rfl, hla, hlc⟩ := h.form
    obtain ⟨rfl, _⟩ := hla (by omega)
    obtain ⟨wa, wcap, wg, hv, hwa, hwc⟩ := h.words hm
    have c8 := (hlc i 8 hi (by omega)).1
    simp only [cellR] at c8
    rw [hv] at c8
    have h1 := h.l
    have hp' := Lib.hid hp
    have hlt := hx.2.2
    have h0 := hx.1
    rw [← e] at hlt ⊢
    obtain ⟨rfl, _⟩ := hwa (by omega)
    obtain ⟨j, hj⟩ : ∃ j : Nat, a % 64 = j := ⟨(a % 64).toNat, by omega⟩
    have cw := (hwc j (by omega)).1
    rw [hj, Int.toNat_natCast]
    have hlen : (j : Int) < (((M.S (T.getD i 0)).n.toNat : Nat) : Int) := by omega
    have q1 : (i : Int) < (T.length : Int) := by omega
    have q0 : (0 : Int) ≤ (i : Int) := by omega
    have q2 : (0 : Int) ≤ (j : Int) := by omega
    have hl2 : (((M.S (T.getD i 0)).n.toNat : Nat) : Int) ≤ 64 := by omega
    rw [hj] at hp'
    generalize (M.S (T.getD i 0)).n.toNat = len at *
    generalize (M.S (T.getD i 0)).words j = x at *
    clear h hT hp hla hlc hv hlt hnn hu hm hk e hwa hwc hx hj
    go_enter Try.func67, Try.ntmps67
    go_wp2_with fail
    refine hp'.out.mono ?_
    rintro e w1 ⟨rfl, rfl⟩
    go_wp2_with fail
    go_ret2
    exact ⟨rfl, rfl⟩
  · have hp' := Lib.hid (rword_none h hT hn hu a ha hx)
    clear h hT hx hu
    go_enter Try.func67, Try.ntmps67
    go_wp2_with fail
    refine hp'.out.mono ?_
    rintro e w1 ⟨rfl, rfl⟩
    go_wp2_with fail
    go_ret2
    exact ⟨rfl, rfl⟩
end Go.Proofs.Ytoafoodgomnfeaa
