/-
  YtoafoodgomnfeaaStore: kinds, marks and words of a memory lie in their bounds; New and Store of package card.
-/
import Derived.Test.YtoafoodgomnfeaaGen
import Derived.Deep.RegionHeld3
namespace Go.Proofs.Ytoafoodgomnfeaa
open Go.RowKit
set_option linter.unusedVariables false

def SegS.card (s : SegS) : Nat → Int
  | 0 => s.c0
  | 1 => s.c1
  | 2 => s.c2
  | _ => s.c3

/-- A segment's kind, marks and words in their bounds. -/
structure SegKc (s : SegS) : Prop where
  kind0 : 0 ≤ s.kind
  kind : s.kind ≤ 3
  card : ∀ i, 0 ≤ s.card i ∧ s.card i ≤ 5
  word : ∀ j, 0 ≤ s.words j ∧ s.words j ≤ 18446744073709551615
def Kc (n : Nat) (M : MemS) : Prop := ∀ k, k < n → SegKc (M.S k)
theorem SegKc.zero : SegKc SegS.zero := ⟨Int.le_refl _, by show (0 : Int) ≤ 3; omega, fun i => by match i with | 0 | 1 | 2 | _ + 3 => exact ⟨Int.le_refl _, by show (0 : Int) ≤ 5; omega⟩, fun j => ⟨Int.le_refl _, by show (0 : Int) ≤ 18446744073709551615; omega⟩⟩
theorem SegKc.fresh {g k c : Int} (h0 : 0 ≤ k) (h3 : k ≤ 3) : SegKc (fresh g k c) := ⟨h0, h3, fun i => by match i with | 0 | 1 | 2 | _ + 3 => exact ⟨by show (0 : Int) ≤ 5; omega, by show (5 : Int) ≤ 5; omega⟩, fun j => ⟨Int.le_refl _, by show (0 : Int) ≤ 18446744073709551615; omega⟩⟩
theorem Kc.made (n : Nat) : Kc n (MemS.made n) := fun _ _ => SegKc.zero
theorem Kc.put {n : Nat} {M : MemS} (h : Kc n M) (k : Nat) {s : SegS} (hs : SegKc s) : Kc n (M.put k s) := fun j hj => by
  by_cases e : j = k
  · subst e; rw [MemS.put_same]; exact hs
  · rw [MemS.put_other _ _ _ e]; exact h j hj
theorem Kc.take {n : Nat} {M : MemS} (h : Kc n M) (k : Nat) (g kd : Int) (h0 : 0 ≤ kd) (h3 : kd ≤ 3) : Kc n (M.take k g kd) := fun j hj => by
  by_cases e : j = k
  · subst e; show SegKc ((M.take j g kd).S j); unfold MemS.take; rw [MemS.put_same]; exact SegKc.fresh h0 h3
  · show SegKc ((M.take k g kd).S j); unfold MemS.take; rw [MemS.put_other _ _ _ e]; exact h j hj
theorem Kc.give {n : Nat} {M : MemS} (h : Kc n M) (k : Nat) : Kc n (M.give k) := h.put k SegKc.zero
theorem Kc.bump {n : Nat} {M : MemS} (h : Kc n M) {k : Nat} (hk : k < n) (b : Int) : Kc n (M.bump k b) := h.put k ⟨(h k hk).kind0, (h k hk).kind, (h k hk).card, (h k hk).word⟩
theorem Kc.write {n : Nat} {M : MemS} (h : Kc n M) {a v : Int} (ha : M.hasWord n a) (h0 : 0 ≤ v) (h1 : v ≤ 18446744073709551615) : Kc n (M.write a v) := by
  obtain ⟨_, ⟨t1, t2, _⟩, _⟩ := ha
  have hk : (a / 64).toNat < n := by omega
  refine h.put _ ⟨(h _ hk).kind0, (h _ hk).kind, (h _ hk).card, fun j => ?_⟩
  simp only [SegS.putWord]
  split
  · exact ⟨h0, h1⟩
  · exact (h _ hk).word j
theorem SegS.card_put (s : SegS) (c : Nat) (hc : c < 4) (m : Int) (i : Nat) (hi : i < 4) : (s.putCard c m).card i = if i = c then m else s.card i := by
  match c, hc, i, hi with
  | 0, _, 0, _ | 0, _, 1, _ | 0, _, 2, _ | 0, _, 3, _ | 1, _, 0, _ | 1, _, 1, _ | 1, _, 2, _ | 1, _, 3, _ | 2, _, 0, _ | 2, _, 1, _ | 2, _, 2, _ | 2, _, 3, _ | 3, _, 0, _ | 3, _, 1, _ | 3, _, 2, _ | 3, _, 3, _ => rfl
theorem SegKc.putCard {s : SegS} (h : SegKc s) (c : Nat) (hc : c < 4) {m : Int} (h0 : 0 ≤ m) (h5 : m ≤ 5) : SegKc (s.putCard c m) := by
  refine ⟨h.kind0, h.kind, fun i => ?_, h.word⟩
  by_cases hi : i < 4
  · rw [SegS.card_put s c hc m i hi]
    split
    · exact ⟨h0, h5⟩
    · exact h.card i
  · obtain ⟨j, rfl⟩ : ∃ j, i = j + 3 := ⟨i - 3, by omega⟩
    show 0 ≤ (s.putCard c m).card 3 ∧ (s.putCard c m).card 3 ≤ 5
    rw [SegS.card_put s c hc m 3 (by omega)]
    split
    · exact ⟨h0, h5⟩
    · exact h.card 3
theorem Kc.mark {n : Nat} {M : MemS} (h : Kc n M) {a : Int} (ha : a.toNat < n) (c : Nat) (hc : c < 4) {m : Int} (h0 : 0 ≤ m) (h5 : m ≤ 5) : Kc n (M.mark a c m) := h.put _ ((h _ ha).putCard c hc h0 h5)

theorem genOf_ran {n c : Nat} {M : MemS} (W : Wf n M c) {v g : Int} (h : genOf n M v = some g) : 0 ≤ g ∧ g ≤ 4 := by
  unfold genOf at h
  split at h
  · rename_i hc
    cases h
    exact W.gen _ (by have := hc.2.2.1; have := hc.2.2.2.1; omega)
  · cases h
theorem younger_ran {n c : Nat} {M : MemS} (W : Wf n M c) (s : SegS) (v mark : Int) (h0 : 0 ≤ mark) (h5 : mark ≤ 5) : 0 ≤ younger n M s v mark ∧ younger n M s v mark ≤ 5 := by
  unfold younger
  split
  · rename_i g hg
    have := genOf_ran W hg
    split <;> omega
  · exact ⟨h0, h5⟩

/-- 'New' of package card. -/
theorem cnew_arg (x : Int) (w : World) (h : x < 8 ∨ 1024 < x) :
    Calls Try.prog 50 #[.int .i64 x] w fun e w' => e = .returned (.tuple #[.pointer none, .int .i64 1]) ∧ w = w' := by
  have hh := Lib.hid h
  clear h
  go_enter Try.func50, Try.ntmps50
  go_wp2_with fail
  refine (snew_arg x w hh.out).mono ?_
  rintro e w1 ⟨rfl, rfl⟩
  go_wp2_with fail
  go_ret2
  exact ⟨rfl, rfl⟩
theorem cnew_ok (x : Int) (n : Nat) (w : World) (hx : x = n) (h1 : 8 ≤ n) (h2 : n ≤ 1024) :
    Calls Try.prog 50 #[.int .i64 x] w fun e w' => ∃ cb pb mb sb, e = .returned (.tuple #[.pointer (some ⟨cb, 0, none⟩), .int .i64 0]) ∧
      CardAt w' cb pb mb sb n (MemS.made n) (fun _ => 0) ∧ Off [] w w' ∧ w.heap.size ≤ cb ∧ w.heap.size ≤ pb ∧ w.heap.size ≤ mb ∧ w.heap.size ≤ sb := by
  have hh := Lib.hid hx
  clear hx
  go_enter Try.func50, Try.ntmps50
  go_wp2_with fail
  refine (snew_ok x n w hh.out h1 h2).mono ?_
  rintro e w1 ⟨pb, mb, sb, rfl, H, O, b1, b2, b3⟩
  have hsz := O.size
  have hp := H.pb_lt
  have hm := H.mem.mb_lt
  have hs := H.mem.sb_lt (by omega)
  have HS : CardAt (w1.alloc (.cells #[.pointer (some ⟨pb, 0, none⟩)] 80)) w1.heap.size pb mb sb n (MemS.made n) (fun _ => 0) :=
    ⟨H.off (by omega) ((Off.refl [] _).alloc _) (by simp) (by simp) (by simp), by rw [cell_of_row _ _ 0 _ _ _ (Array.getElem?_push_size)]; rfl, by omega, by omega, by omega⟩
  have HH := Lib.hid HS
  have OO := Lib.hid O
  clear H O HS
  go_wp2_with fail
  go_ret2
  exact ⟨_, _, _, _, rfl, HH.out, OO.out.alloc _, by omega, by omega, by omega, by omega⟩

theorem store_no {w : World} {cb pb mb sb n : Nat} {M : MemS} {C : Nat → Int} (h : CardAt w cb pb mb sb n M C) (hn : n ≤ 1024) (a v : Int) (ha : a ≤ 9223372036854775807) (hx : ¬ M.hasWord n a) :
    Calls Try.prog 46 #[.pointer (some ⟨cb, 0, none⟩), .int .i64 a, .int .u64 v] w fun e w' => e = .returned (.int .i64 18) ∧ w = w' := by
  have p1 := h.ptr
  have p2 := h.sp.ptr
  have hw := Lib.hid (write_none h.sp.mem hn a v ha hx)
  have hh := Lib.hid h
  clear h hx
  go_enter Try.func46, Try.ntmps46
  go_wp2_with fail
  refine (cnone_no hh.out).mono ?_
  rintro e w1 ⟨rfl, rfl⟩
  go_wp2_with fail
  refine hw.out.mono ?_
  rintro e w1 ⟨rfl, rfl⟩
  go_wp2_with fail
  go_ret
  exact ⟨rfl, rfl⟩

/-- In the last statement of Store: the memory is marked, or not yet. -/
def StoreS (w0 : World) (cb pb mb sb n : Nat) (M1 M2 : MemS) (C : Nat → Int) (w : World) : Prop := Off [sb] w0 w ∧ (CardAt w cb pb mb sb n M1 C ∨ CardAt w cb pb mb sb n M2 C)
theorem CardAt.drew {w : World} {cb pb mb sb n : Nat} {M : MemS} {C : Nat → Int} (h : CardAt w cb pb mb sb n M C) : CardAt w.drew cb pb mb sb n M C :=
  ⟨⟨h.sp.mem.drew, h.sp.ptr, h.sp.cur, h.sp.fz, h.sp.nm, h.sp.ns, h.sp.ran⟩, h.ptr, h.np, h.nm, h.ns⟩
theorem StoreS.drew {w0 : World} {cb pb mb sb n : Nat} {M1 M2 : MemS} {C : Nat → Int} {w : World} (h : StoreS w0 cb pb mb sb n M1 M2 C w) : StoreS w0 cb pb mb sb n M1 M2 C w.drew := ⟨h.1.drew, h.2.imp CardAt.drew CardAt.drew⟩

theorem mark_twice (M : MemS) (a c m : Int) : (M.mark a c m).mark a c m = M.mark a c m := by
  unfold MemS.mark MemS.put
  simp only [if_true, MemS.mk.injEq, and_true]
  funext i
  by_cases e : i = a.toNat
  · simp only [e, if_true, SegS.putCard, SegS.mk.injEq, and_true, true_and]
    refine ⟨?_, ?_, ?_, ?_⟩ <;> split <;> rfl
  · simp only [e, if_false]

theorem genOf_mark (n : Nat) (M : MemS) (a c m v : Int) : genOf n (M.mark a c m) v = genOf n M v := by
  have h : ∀ j, ((M.mark a c m).S j).gen = (M.S j).gen ∧ ((M.mark a c m).S j).taken = (M.S j).taken := fun j => by
    by_cases e : j = a.toNat
    · subst e; unfold MemS.mark; rw [MemS.put_same]; exact ⟨rfl, rfl⟩
    · unfold MemS.mark; rw [MemS.put_other _ _ _ e]; exact ⟨rfl, rfl⟩
  have h2 : ∀ x, (M.mark a c m).isTaken n x ↔ M.isTaken n x := fun x => by unfold MemS.isTaken; rw [(h _).2]
  unfold genOf
  simp only [h2, (h _).1]
theorem younger_mark (n : Nat) (M : MemS) (a c m : Int) (s : SegS) (v k : Int) : younger n (M.mark a c m) s v k = younger n M s v k := by unfold younger; rw [genOf_mark]

/-- The memory behind a store at a. -/
def MemS.store (n : Nat) (M : MemS) (a v : Int) : MemS :=
  (M.write a v).mark (a / 64) (a % 64 / 16) (younger n (M.write a v) ((M.write a v).S (a / 64).toNat) v (((M.write a v).S (a / 64).toNat).card (a % 64 / 16).toNat))

set_option maxHeartbeats 1000000 in
set_option maxRecDepth 100000 in
theorem store_yes {w : World} {cb pb mb sb n cc : Nat} {M : MemS} {C : Nat → Int} (h : CardAt w cb pb mb sb n M C) (W : Wf n M cc) (K : Kc n M) (hn0 : 0 < n) (hn : n ≤ 1024) (a v : Int) (ha : a ≤ 9223372036854775807) (hx : M.hasWord n a)
    (hv0 : 0 ≤ v) (hv1 : v ≤ 18446744073709551615) :
    Calls Try.prog 46 #[.pointer (some ⟨cb, 0, none⟩), .int .i64 a, .int .u64 v] w fun e w' => e = .returned (.int .i64 0) ∧ CardAt w' cb pb mb sb n (M.store n a v) C ∧ Off [sb] w w' := by
  have W1 := W.write v hx
  have K1 := K.write hx hv0 hv1
  have hwr := write_some h.sp.mem hn a v ha hx
  obtain ⟨a0, ⟨t1, t2, t3⟩, hlt⟩ := hx
  obtain ⟨k, hk⟩ : ∃ k : Nat, a / 64 = k := ⟨(a / 64).toNat, by omega⟩
  obtain ⟨i, hi⟩ : ∃ i : Nat, a % 64 / 16 = i := ⟨(a % 64 / 16).toNat, by omega⟩
  have hkn : k < n := by omega
  have hi4 : i < 4 := by omega
  have hM1 : MemS.put M (a / 64).toNat ((M.S (a / 64).toNat).putWord (a % 64).toNat v) = M.write a v := rfl
  rw [hM1] at hwr
  have hst : M.store n a v = (M.write a v).mark k i (younger n (M.write a v) ((M.write a v).S k) v (((M.write a v).S k).card i)) := by
    unfold MemS.store; rw [hk, hi]; rfl
  rw [hst]
  have t3' : ((M.write a v).S k).taken ≠ 0 := by
    unfold MemS.write; rw [hk] at t3 ⊢; simp only [Int.toNat_natCast] at t3 ⊢; rw [MemS.put_same]; exact t3
  generalize M.write a v = M1 at hwr W1 K1 t3' ⊢
  obtain ⟨m, hm⟩ : ∃ m, younger n M1 (M1.S k) v ((M1.S k).card i) = m := ⟨_, rfl⟩
  have hmr := younger_ran W1 (M1.S k) v ((M1.S k).card i) ((K1 k hkn).card i).1 ((K1 k hkn).card i).2
  rw [hm] at hmr ⊢
  obtain ⟨s, hs⟩ : ∃ s, M1.S k = s := ⟨_, rfl⟩
  have hkey : ∀ w1, CardAt w1 cb pb mb sb n M1 C → _ := fun w1 H => seg_yes H.sp.mem hn k hkn t3' (k : Int) rfl
  have t3m : ((M1.mark k i m).S k).taken ≠ 0 := by unfold MemS.mark; rw [Int.toNat_natCast, MemS.put_same]; exact t3'
  have e1 : M1.put k ((M1.S k).putCard i m) = M1.mark k i m := rfl
  have e2 : (M1.mark k i m).put k (((M1.mark k i m).S k).putCard i m) = M1.mark k i m := mark_twice M1 k i m
  rw [hs] at hm hkey
  have hcp : cb ≠ sb := h.ns
  have hps : pb ≠ sb := h.sp.ns
  have hms : mb ≠ sb := h.sp.mem.ne
  have hyo : ∀ w0 w1 : World, StoreS w0 cb pb mb sb n M1 (M1.mark k i m) C w1 →
      Calls Try.prog 79 #[.pointer (some ⟨cb, 0, none⟩), .agg #[.int .i64 s.gen, .int .i64 s.kind, .int .i64 s.n, .int .i64 s.c0, .int .i64 s.c1, .int .i64 s.c2, .int .i64 s.c3], .int .u64 v, .int .i64 (s.card i)] w1 fun e w' =>
        e = .returned (.int .i64 m) ∧ StoreS w0 cb pb mb sb n M1 (M1.mark k i m) C w' := fun w0 w1 H => by
    rcases H.2 with h | h
    · refine (younger_any h hn0 hn s v (s.card i) hv0 hv1).mono ?_
      rintro e w' ⟨rfl, O⟩
      exact ⟨by rw [hm], H.1.trans (O.mono (by simp)), .inl (h.off hn0 O (by simp) (by simp) (by simp) (by simp))⟩
    · refine (younger_any h hn0 hn s v (s.card i) hv0 hv1).mono ?_
      rintro e w' ⟨rfl, O⟩
      exact ⟨by rw [younger_mark, hm], H.1.trans (O.mono (by simp)), .inr (h.off hn0 O (by simp) (by simp) (by simp) (by simp))⟩
  have hma : ∀ w0 w1 : World, StoreS w0 cb pb mb sb n M1 (M1.mark k i m) C w1 →
      Calls Try.prog 28 #[.pointer (some ⟨mb, 0, none⟩), .int .i64 k, .int .i64 i, .int .i64 m] w1 fun e w' =>
        e = .returned (.int .i64 0) ∧ StoreS w0 cb pb mb sb n M1 (M1.mark k i m) C w' ∧ CardAt w' cb pb mb sb n (M1.mark k i m) C := fun w0 w1 H => by
    rcases H.2 with h | h
    · refine (mark_yes h.sp.mem hn k hkn t3' (k : Int) (i : Int) m rfl (by omega) (by omega) hmr.1 hmr.2).mono ?_
      rintro e w' ⟨rfl, HM, O⟩
      rw [e1] at HM
      have := h.mem' O (by simp; omega) (by simp; omega) HM
      exact ⟨rfl, ⟨H.1.trans O, .inr this⟩, this⟩
    · refine (mark_yes h.sp.mem hn k hkn t3m (k : Int) (i : Int) m rfl (by omega) (by omega) hmr.1 hmr.2).mono ?_
      rintro e w' ⟨rfl, HM, O⟩
      rw [e2] at HM
      have := h.mem' O (by simp; omega) (by simp; omega) HM
      exact ⟨rfl, ⟨H.1.trans O, .inr this⟩, this⟩
  have p1 := h.ptr
  have p2 := h.sp.ptr
  have hh := Lib.hid h
  have hwr' := Lib.hid hwr
  have hkey' := Lib.hid hkey
  have hyo' := Lib.hid hyo
  have hma' := Lib.hid hma
  obtain ⟨gen, kind, nn, c0, c1, c2, c3, t, ws⟩ := s
  clear h hwr hkey hyo hma hst hm hs t3 t3' t3m hM1 W W1 K K1 hmr e1 e2 t1 t2 hlt
  go_enter Try.func46, Try.ntmps46
  go_wp2_with fail
  refine (cnone_no hh.out).mono ?_
  rintro e w1 ⟨rfl, rfl⟩
  go_wp2_with fail
  refine hwr'.out.mono ?_
  rintro e w1 ⟨rfl, H, O⟩
  have H1 := Lib.hid (hh.out.mem' O (by simp; omega) (by simp; omega) H)
  have O1 := Lib.hid O
  have q1 := H1.out.ptr
  have q2 := H1.out.sp.ptr
  clear H O p1 p2
  go_wp2_with fail
  refine (hkey'.out _ H1.out).mono ?_
  rintro e w2 ⟨rfl, O⟩
  unfold SegS.told
  have O2 := Lib.hid (O1.out.trans (O.mono (by simp)))
  have H2 := Lib.hid (H1.out.off hn0 O (by simp) (by simp) (by simp) (by simp))
  clear O q1 q2
  go_wp2_with fail
  have hA : ∀ o, (w2.alloc o).heap[w2.heap.size]? = some o := fun o => Array.getElem?_push_size
  have H3 := H2.out.off hn0 ((Off.refl [] w2).alloc (.cells #[.int .i64 gen, .int .i64 kind, .int .i64 nn, .int .i64 c0, .int .i64 c1, .int .i64 c2, .int .i64 c3] 37)) (by simp) (by simp) (by simp) (by simp)
  have O3 := O2.out.alloc (.cells #[.int .i64 gen, .int .i64 kind, .int .i64 nn, .int .i64 c0, .int .i64 c1, .int .i64 c2, .int .i64 c3] 37)
  have hBs : w2.heap.size ≠ sb := by have := H2.out.sp.mem.sb_lt hn0; omega
  have d0 := cell_of_row _ _ 0 _ _ _ (hA (.cells #[.int .i64 gen, .int .i64 kind, .int .i64 nn, .int .i64 c0, .int .i64 c1, .int .i64 c2, .int .i64 c3] 37))
  have d1 := cell_of_row _ _ 1 _ _ _ (hA (.cells #[.int .i64 gen, .int .i64 kind, .int .i64 nn, .int .i64 c0, .int .i64 c1, .int .i64 c2, .int .i64 c3] 37))
  have d2 := cell_of_row _ _ 2 _ _ _ (hA (.cells #[.int .i64 gen, .int .i64 kind, .int .i64 nn, .int .i64 c0, .int .i64 c1, .int .i64 c2, .int .i64 c3] 37))
  have d3 := cell_of_row _ _ 3 _ _ _ (hA (.cells #[.int .i64 gen, .int .i64 kind, .int .i64 nn, .int .i64 c0, .int .i64 c1, .int .i64 c2, .int .i64 c3] 37))
  have d4 := cell_of_row _ _ 4 _ _ _ (hA (.cells #[.int .i64 gen, .int .i64 kind, .int .i64 nn, .int .i64 c0, .int .i64 c1, .int .i64 c2, .int .i64 c3] 37))
  have d5 := cell_of_row _ _ 5 _ _ _ (hA (.cells #[.int .i64 gen, .int .i64 kind, .int .i64 nn, .int .i64 c0, .int .i64 c1, .int .i64 c2, .int .i64 c3] 37))
  have d6 := cell_of_row _ _ 6 _ _ _ (hA (.cells #[.int .i64 gen, .int .i64 kind, .int .i64 nn, .int .i64 c0, .int .i64 c1, .int .i64 c2, .int .i64 c3] 37))
  simp only [List.getElem?_toArray, List.getElem?_cons_succ, List.getElem?_cons_zero] at d0 d1 d2 d3 d4 d5 d6
  generalize w2.alloc _ = w3 at H3 O3 d0 d1 d2 d3 d4 d5 d6 ⊢
  generalize w2.heap.size = B at hBs d0 d1 d2 d3 d4 d5 d6 ⊢
  have dc : w3.cell? ⟨B, 3 + i, none⟩ = some (.int .i64 (SegS.card ⟨gen, kind, nn, c0, c1, c2, c3, t, ws⟩ i)) := by
    match i, hi4 with
    | 0, _ => exact d3
    | 1, _ => exact d4
    | 2, _ => exact d5
    | 3, _ => exact d6
  have keep : ∀ w', StoreS w3 cb pb mb sb n M1 (M1.mark k i m) C w' → StoreS w3 cb pb mb sb n M1 (M1.mark k i m) C w' ∧ w'.cell? ⟨cb, 0, none⟩ = some (.pointer (some ⟨pb, 0, none⟩)) ∧ w'.cell? ⟨pb, 0, none⟩ = some (.pointer (some ⟨mb, 0, none⟩)) ∧
      w'.cell? ⟨B, 0, none⟩ = some (.int .i64 gen) ∧ w'.cell? ⟨B, 1, none⟩ = some (.int .i64 kind) ∧ w'.cell? ⟨B, 2, none⟩ = some (.int .i64 nn) ∧ w'.cell? ⟨B, 3, none⟩ = some (.int .i64 c0) ∧ w'.cell? ⟨B, 4, none⟩ = some (.int .i64 c1) ∧
      w'.cell? ⟨B, 5, none⟩ = some (.int .i64 c2) ∧ w'.cell? ⟨B, 6, none⟩ = some (.int .i64 c3) ∧ w'.cell? ⟨B, 3 + i, none⟩ = some (.int .i64 (SegS.card ⟨gen, kind, nn, c0, c1, c2, c3, t, ws⟩ i)) := fun w' H =>
    ⟨H, H.1.cell H3.ptr (by simp; omega), H.1.cell H3.sp.ptr (by simp; omega), H.1.cell d0 (by simp; omega), H.1.cell d1 (by simp; omega), H.1.cell d2 (by simp; omega), H.1.cell d3 (by simp; omega), H.1.cell d4 (by simp; omega), H.1.cell d5 (by simp; omega), H.1.cell d6 (by simp; omega), H.1.cell dc (by simp; omega)⟩
  have hS0 : StoreS w3 cb pb mb sb n M1 (M1.mark k i m) C w3 := ⟨Off.refl _ _, .inl H3⟩
  have O3' := Lib.hid O3
  have hi0 : (0 : Int) ≤ (i : Int) := by omega
  have hi3 : (i : Int) < 4 := by omega
  clear H3 O3 d0 d1 d2 d3 d4 d5 d6 dc H1 H2 O1 O2 hA
  generalize hcard : SegS.card ⟨gen, kind, nn, c0, c1, c2, c3, t, ws⟩ i = card at keep hyo'
  clear hcard
  go_region_held3 (fun w' => StoreS w3 cb pb mb sb n M1 (M1.mark k i m) C w' ∧ w'.cell? ⟨cb, 0, none⟩ = some (.pointer (some ⟨pb, 0, none⟩)) ∧ w'.cell? ⟨pb, 0, none⟩ = some (.pointer (some ⟨mb, 0, none⟩)) ∧
      w'.cell? ⟨B, 0, none⟩ = some (.int .i64 gen) ∧ w'.cell? ⟨B, 1, none⟩ = some (.int .i64 kind) ∧ w'.cell? ⟨B, 2, none⟩ = some (.int .i64 nn) ∧ w'.cell? ⟨B, 3, none⟩ = some (.int .i64 c0) ∧ w'.cell? ⟨B, 4, none⟩ = some (.int .i64 c1) ∧
      w'.cell? ⟨B, 5, none⟩ = some (.int .i64 c2) ∧ w'.cell? ⟨B, 6, none⟩ = some (.int .i64 c3) ∧ w'.cell? ⟨B, 3 + i, none⟩ = some (.int .i64 card))
    (first | assumption | exact keep _ (by assumption) | exact keep _ (StoreS.drew (by assumption)) | exact keep _ (‹StoreS _ _ _ _ _ _ _ _ _ _ ∧ _›).1 | exact keep _ (StoreS.drew (‹StoreS _ _ _ _ _ _ _ _ _ _ ∧ _›).1))
    (first
      | (go_at_call 79; refine (hyo'.out _ _ (‹StoreS _ _ _ _ _ _ _ _ _ _ ∧ _›).1).mono ?_; rintro e w' ⟨rfl, hr⟩)
      | (go_at_call 28; refine (hma'.out _ _ (‹StoreS _ _ _ _ _ _ _ _ _ _ ∧ _›).1).mono ?_; rintro e w' ⟨rfl, hr, hfin⟩))
  have F1 := Lib.hid hfin
  have F2 := Lib.hid (O3'.out.trans hr.1)
  rename_i hh1 hh2
  clear hh2 hfin hr hS0 keep
  go_wp2_with fail
  go_ret
  exact ⟨rfl, F1.out, F2.out⟩
end Go.Proofs.Ytoafoodgomnfeaa
