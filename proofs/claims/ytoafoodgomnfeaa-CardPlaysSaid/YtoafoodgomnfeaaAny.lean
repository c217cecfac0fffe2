/-
  YtoafoodgomnfeaaAny: package seg's functions at whatever they are handed, in one contract each: what they answer, and what the memory is behind them.
-/
import Derived.Test.YtoafoodgomnfeaaOpen
namespace Go.Proofs.Ytoafoodgomnfeaa
open Go.RowKit
set_option linter.unusedVariables false

/-- What a take of (a, b) answers: r, s; M' is behind it. -/
def TakeIs (n : Nat) (M : MemS) (a b r s : Int) (M' : MemS) : Prop :=
  (s = 0 ∧ ∃ k : Nat, r = k ∧ k < n ∧ (M.S k).taken = 0 ∧ (∀ i, i < k → (M.S i).taken ≠ 0) ∧ 0 ≤ a ∧ a ≤ 4 ∧ 0 ≤ b ∧ b ≤ 3 ∧ M' = M.take k a b) ∨
  (s = 1 ∧ r = 0 ∧ M' = M ∧ (a < 0 ∨ 4 < a ∨ b < 0 ∨ 3 < b)) ∨
  (s = 2 ∧ r = 0 ∧ M' = M ∧ M.free = 0 ∧ 0 ≤ a ∧ a ≤ 4 ∧ 0 ≤ b ∧ b ≤ 3)

theorem take_all {mb sb n c : Nat} {M : MemS} {w : World} (H : MemAt w mb sb n M) (W : Wf n M c) (hn0 : 0 < n) (hn : n ≤ 1024) (hc : c ≤ 1000000) (a b : Int) :
    Calls Try.prog 16 #[.pointer (some ⟨mb, 0, none⟩), .int .i64 a, .int .i64 b] w fun e w' => ∃ r s M', e = .returned (.tuple #[.int .i64 r, .int .i64 s]) ∧
      TakeIs n M a b r s M' ∧ MemAt w' mb sb n M' ∧ Wf n M' (c + 1) ∧ Off [mb, sb] w w' := by
  by_cases hbad : a < 0 ∨ 4 < a ∨ b < 0 ∨ 3 < b
  · refine (take_arg mb sb n _ a b w H.segs hn0 hbad).mono ?_
    rintro e w' ⟨rfl, rfl⟩
    exact ⟨0, 1, M, rfl, .inr (.inl ⟨rfl, rfl, rfl, hbad⟩), H, W.mono (by omega), Off.refl _ _⟩
  have f0 := W.free0
  have f1 := W.free_le
  by_cases hz : M.free = 0
  · refine (take_full mb sb n _ a b w H.segs (by rw [← hz]; exact H.free) hn0 (by omega) (by omega) (by omega) (by omega)).mono ?_
    rintro e w' ⟨rfl, rfl⟩
    exact ⟨0, 2, M, rfl, .inr (.inr ⟨rfl, rfl, rfl, hz, by omega, by omega, by omega, by omega⟩), H, W.mono (by omega), Off.refl _ _⟩
  obtain ⟨k, hk, hkf, hkl⟩ := freeN_pos (S := M.S) (n := n) (by have := W.free; omega)
  refine (take_ok mb sb n k a b M w H hn (by omega) (by omega) (by omega) (by omega) hk (by omega) (by omega) W.cnt0 (by have := W.cnt; omega) hkf (fun i hi => by have a1 := hkl i hi; have a2 := (W.tk i (by omega)).1; omega)).mono ?_
  rintro e w' ⟨rfl, H', O⟩
  exact ⟨k, 0, M.take k a b, rfl, .inl ⟨rfl, k, rfl, hk, hkf, hkl, by omega, by omega, by omega, by omega, rfl⟩, H', W.take hk hkf b (by omega) (by omega), O⟩

def GiveIs (n : Nat) (M : MemS) (a s : Int) (M' : MemS) : Prop :=
  (s = 0 ∧ M.isTaken n a ∧ M' = M.give a.toNat) ∨ (s = 19 ∧ ¬ M.isTaken n a ∧ M' = M)
theorem give_all {mb sb n c : Nat} {M : MemS} {w : World} (H : MemAt w mb sb n M) (W : Wf n M c) (hn0 : 0 < n) (hn : n ≤ 1024) (a : Int) :
    Calls Try.prog 18 #[.pointer (some ⟨mb, 0, none⟩), .int .i64 a] w fun e w' => ∃ s M', e = .returned (.int .i64 s) ∧
      GiveIs n M a s M' ∧ MemAt w' mb sb n M' ∧ Wf n M' c ∧ Off [mb, sb] w w' := by
  by_cases ht : M.isTaken n a
  · obtain ⟨t1, t2, t3⟩ := ht
    refine (give_yes H hn a.toNat (by omega) t3 a (by omega) W.free0 (by have := W.free_le; omega)).mono ?_
    rintro e w' ⟨rfl, H', O⟩
    exact ⟨0, M.give a.toNat, rfl, .inl ⟨rfl, ⟨t1, t2, t3⟩, rfl⟩, H', W.give (by omega) t3, O⟩
  · refine (give_no H hn0 hn a ht).mono ?_
    rintro e w' ⟨rfl, rfl⟩
    exact ⟨19, M, rfl, .inr ⟨rfl, ht, rfl⟩, H, W, Off.refl _ _⟩

def BumpIs (n : Nat) (M : MemS) (a b r s : Int) (M' : MemS) : Prop :=
  (s = 0 ∧ M.isTaken n a ∧ 1 ≤ b ∧ b ≤ 64 - (M.S a.toNat).n ∧ r = a * 64 + (M.S a.toNat).n ∧ M' = M.bump a.toNat b) ∨
  (s = 19 ∧ r = 0 ∧ ¬ M.isTaken n a ∧ M' = M) ∨ (s = 1 ∧ r = 0 ∧ M.isTaken n a ∧ b < 1 ∧ M' = M) ∨ (s = 2 ∧ r = 0 ∧ M.isTaken n a ∧ 1 ≤ b ∧ 64 - (M.S a.toNat).n < b ∧ M' = M)
theorem bump_all {mb sb n c : Nat} {M : MemS} {w : World} (H : MemAt w mb sb n M) (W : Wf n M c) (hn : n ≤ 1024) (a b : Int) :
    Calls Try.prog 19 #[.pointer (some ⟨mb, 0, none⟩), .int .i64 a, .int .i64 b] w fun e w' => ∃ r s M', e = .returned (.tuple #[.int .i64 r, .int .i64 s]) ∧
      BumpIs n M a b r s M' ∧ MemAt w' mb sb n M' ∧ Wf n M' c ∧ Off [mb, sb] w w' := by
  by_cases ht : M.isTaken n a
  · have ht' := ht
    obtain ⟨t1, t2, t3⟩ := ht
    have hk : a.toNat < n := by omega
    have hu := W.used _ hk
    by_cases hb : b < 1
    · refine (bump_arg H hn a.toNat hk t3 a b (by omega) hb).mono ?_
      rintro e w' ⟨rfl, rfl⟩
      exact ⟨0, 1, M, rfl, .inr (.inr (.inl ⟨rfl, rfl, ht', hb, rfl⟩)), H, W, Off.refl _ _⟩
    · by_cases hf : 64 - (M.S a.toNat).n < b
      · refine (bump_full H hn a.toNat hk t3 a b (by omega) (by omega) hu.1 hu.2 hf).mono ?_
        rintro e w' ⟨rfl, rfl⟩
        exact ⟨0, 2, M, rfl, .inr (.inr (.inr ⟨rfl, rfl, ht', by omega, hf, rfl⟩)), H, W, Off.refl _ _⟩
      · refine (bump_yes H hn a.toNat hk t3 a b (by omega) (by omega) hu.1 hu.2 (by omega)).mono ?_
        rintro e w' ⟨rfl, H', O⟩
        exact ⟨_, 0, _, rfl, .inl ⟨rfl, ht', by omega, by omega, by omega, rfl⟩, H', W.bump hk (by omega) (by omega), O.mono (by simp)⟩
  · refine (bump_no H hn a b ht).mono ?_
    rintro e w' ⟨rfl, rfl⟩
    exact ⟨0, 19, M, rfl, .inr (.inl ⟨rfl, rfl, ht, rfl⟩), H, W, Off.refl _ _⟩

/-- What Seg answers. -/
def SegIs (n : Nat) (M : MemS) (a : Int) (s : SegS) (ok : Bool) : Prop := (ok = true ∧ M.isTaken n a ∧ s = M.S a.toNat) ∨ (ok = false ∧ ¬ M.isTaken n a ∧ s = SegS.zero)
theorem seg_all {mb sb n : Nat} {M : MemS} {w : World} (H : MemAt w mb sb n M) (hn0 : 0 < n) (hn : n ≤ 1024) (a : Int) :
    Calls Try.prog 17 #[.pointer (some ⟨mb, 0, none⟩), .int .i64 a] w fun e w' => ∃ s ok, e = .returned (.tuple #[.agg #[.int .i64 s.gen, .int .i64 s.kind, .int .i64 s.n, .int .i64 s.c0, .int .i64 s.c1, .int .i64 s.c2, .int .i64 s.c3], .bool ok]) ∧
      SegIs n M a s ok ∧ MemAt w' mb sb n M ∧ Off [] w w' := by
  by_cases ht : M.isTaken n a
  · refine (seg_yes' H hn a.toNat (by have := ht.2.1; have := ht.1; omega) _ rfl ht.2.2 a (by have := ht.1; omega)).mono ?_
    rintro e w' ⟨rfl, H', O⟩
    exact ⟨_, true, rfl, .inl ⟨rfl, ht, rfl⟩, H', O⟩
  · refine (seg_no' H hn0 hn a ht).mono ?_
    rintro e w' ⟨rfl, H', O⟩
    exact ⟨SegS.zero, false, rfl, .inr ⟨rfl, ht, rfl⟩, H', O⟩

def MemS.write (M : MemS) (a v : Int) : MemS := M.put (a / 64).toNat ((M.S (a / 64).toNat).putWord (a % 64).toNat v)
theorem Wf.write {n : Nat} {M : MemS} {c : Nat} (h : Wf n M c) {a : Int} (v : Int) (ha : M.hasWord n a) : Wf n (M.write a v) c := by
  obtain ⟨h0, ⟨t1, t2, t3⟩, h3⟩ := ha
  have hk : (a / 64).toNat < n := by omega
  have hu := h.used _ hk
  refine h.put hk _ rfl hu.1 hu.2 (fun i hi => ?_) rfl
  simp only [SegS.putWord] at hi ⊢
  rw [if_neg (by omega)]
  exact h.blank _ hk i hi
def WriteIs (n : Nat) (M : MemS) (a v s : Int) (M' : MemS) : Prop := (s = 0 ∧ M.hasWord n a ∧ M' = M.write a v) ∨ (s = 18 ∧ ¬ M.hasWord n a ∧ M' = M)
theorem write_all {mb sb n c : Nat} {M : MemS} {w : World} (H : MemAt w mb sb n M) (W : Wf n M c) (hn : n ≤ 1024) (a v : Int) (ha : a ≤ 9223372036854775807) :
    Calls Try.prog 20 #[.pointer (some ⟨mb, 0, none⟩), .int .i64 a, .int .u64 v] w fun e w' => ∃ s M', e = .returned (.int .i64 s) ∧
      WriteIs n M a v s M' ∧ MemAt w' mb sb n M' ∧ Wf n M' c ∧ Off [mb, sb] w w' := by
  by_cases ht : M.hasWord n a
  · refine (write_some H hn a v ha ht).mono ?_
    rintro e w' ⟨rfl, H', O⟩
    exact ⟨0, M.write a v, rfl, .inl ⟨rfl, ht, rfl⟩, H', W.write v ht, O.mono (by simp)⟩
  · refine (write_none H hn a v ha ht).mono ?_
    rintro e w' ⟨rfl, rfl⟩
    exact ⟨18, M, rfl, .inr ⟨rfl, ht, rfl⟩, H, W, Off.refl _ _⟩

def MemS.mark (M : MemS) (a c m : Int) : MemS := M.put a.toNat ((M.S a.toNat).putCard c m)
def MarkIs (n : Nat) (M : MemS) (a c m s : Int) (M' : MemS) : Prop :=
  (s = 0 ∧ M.isTaken n a ∧ 0 ≤ c ∧ c < 4 ∧ 0 ≤ m ∧ m ≤ 5 ∧ M' = M.mark a c m) ∨ (s = 19 ∧ ¬ M.isTaken n a ∧ M' = M) ∨ (s = 1 ∧ M.isTaken n a ∧ (c < 0 ∨ 4 ≤ c ∨ m < 0 ∨ 5 < m) ∧ M' = M)
theorem mark_all {mb sb n cc : Nat} {M : MemS} {w : World} (H : MemAt w mb sb n M) (W : Wf n M cc) (hn : n ≤ 1024) (a c m : Int) :
    Calls Try.prog 28 #[.pointer (some ⟨mb, 0, none⟩), .int .i64 a, .int .i64 c, .int .i64 m] w fun e w' => ∃ s M', e = .returned (.int .i64 s) ∧
      MarkIs n M a c m s M' ∧ MemAt w' mb sb n M' ∧ Wf n M' cc ∧ Off [mb, sb] w w' := by
  by_cases ht : M.isTaken n a
  · have ht' := ht
    obtain ⟨t1, t2, t3⟩ := ht
    have hk : a.toNat < n := by omega
    by_cases hb : c < 0 ∨ 4 ≤ c ∨ m < 0 ∨ 5 < m
    · refine (mark_arg H hn a.toNat hk t3 a c m (by omega) hb).mono ?_
      rintro e w' ⟨rfl, rfl⟩
      exact ⟨1, M, rfl, .inr (.inr ⟨rfl, ht', hb, rfl⟩), H, W, Off.refl _ _⟩
    · refine (mark_yes H hn a.toNat hk t3 a c m (by omega) (by omega) (by omega) (by omega) (by omega)).mono ?_
      rintro e w' ⟨rfl, H', O⟩
      have hu := W.used _ hk
      exact ⟨0, M.mark a c m, rfl, .inl ⟨rfl, ht', by omega, by omega, by omega, by omega, rfl⟩, H', W.put hk _ rfl hu.1 hu.2 (fun i hi => W.blank _ hk i hi) rfl, O.mono (by simp)⟩
  · refine (mark_no H hn a c m ht).mono ?_
    rintro e w' ⟨rfl, rfl⟩
    exact ⟨19, M, rfl, .inr (.inl ⟨rfl, ht, rfl⟩), H, W, Off.refl _ _⟩

def ReadIs (n : Nat) (M : MemS) (a v s : Int) : Prop := (s = 0 ∧ M.hasWord n a ∧ v = (M.S (a / 64).toNat).words (a % 64).toNat) ∨ (s = 18 ∧ ¬ M.hasWord n a ∧ v = 0)
theorem read_all {mb sb n : Nat} {M : MemS} {w : World} (H : MemAt w mb sb n M) (hn : n ≤ 1024) (a : Int) (ha : a ≤ 9223372036854775807) :
    Calls Try.prog 21 #[.pointer (some ⟨mb, 0, none⟩), .int .i64 a] w fun e w' => (∃ v s, e = .returned (.tuple #[.int .u64 v, .int .i64 s]) ∧ ReadIs n M a v s) ∧ w = w' := by
  by_cases ht : M.hasWord n a
  · refine (read_some H hn a ha ht).mono ?_
    rintro e w' ⟨rfl, rfl⟩
    exact ⟨⟨_, 0, rfl, .inl ⟨rfl, ht, rfl⟩⟩, rfl⟩
  · refine (read_none H hn a ha ht).mono ?_
    rintro e w' ⟨rfl, rfl⟩
    exact ⟨⟨0, 18, rfl, .inr ⟨rfl, ht, rfl⟩⟩, rfl⟩

end Go.Proofs.Ytoafoodgomnfeaa
