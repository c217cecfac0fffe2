/-
  YtoafoodgomnfeaaCards: Store and Again of package card at whatever they are handed, in one contract each; the chapter's examples come out as the chapter says.
-/
import Derived.Test.YtoafoodgomnfeaaAgain
import Derived.Test.YtoafoodgomnfeaaDirty
namespace Go.Proofs.Ytoafoodgomnfeaa
open Go.RowKit
set_option linter.unusedVariables false

theorem Wf.markC {n : Nat} {M : MemS} {c : Nat} (W : Wf n M c) {a : Int} (ha : a.toNat < n) (i m : Int) : Wf n (M.mark a i m) c := by
  have hu := W.used _ ha
  exact W.put ha _ rfl hu.1 hu.2 (fun j hj => W.blank _ ha j hj) rfl
theorem Wf.store {n : Nat} {M : MemS} {c : Nat} (W : Wf n M c) {a v : Int} (ha : M.hasWord n a) : Wf n (M.store n a v) c :=
  (W.write v ha).markC (by obtain ⟨_, ⟨_, _, _⟩, _⟩ := ha; omega) _ _
theorem Kc.store {n : Nat} {M : MemS} {c : Nat} (K : Kc n M) (W : Wf n M c) {a v : Int} (ha : M.hasWord n a) (h0 : 0 ≤ v) (h1 : v ≤ 18446744073709551615) : Kc n (M.store n a v) := by
  have hk : (a / 64).toNat < n := by obtain ⟨_, ⟨_, _, _⟩, _⟩ := ha; omega
  have K1 := K.write ha h0 h1
  have W1 := W.write v ha
  obtain ⟨i, hi⟩ : ∃ i : Nat, a % 64 / 16 = i := ⟨(a % 64 / 16).toNat, by have := ha.1; omega⟩
  have hr := younger_ran W1 ((M.write a v).S (a / 64).toNat) v (((M.write a v).S (a / 64).toNat).card (a % 64 / 16).toNat) ((K1 _ hk).card _).1 ((K1 _ hk).card _).2
  unfold MemS.store
  rw [hi]
  rw [hi] at hr
  exact K1.mark hk i (by omega) hr.1 hr.2

def StoreIs (n : Nat) (M : MemS) (a v s : Int) (M' : MemS) : Prop := (s = 0 ∧ M.hasWord n a ∧ M' = M.store n a v) ∨ (s = 18 ∧ ¬ M.hasWord n a ∧ M' = M)
theorem cstore_all {w : World} {cb pb mb sb n cc : Nat} {M : MemS} {C : Nat → Int} (h : CardAt w cb pb mb sb n M C) (W : Wf n M cc) (K : Kc n M) (hn0 : 0 < n) (hn : n ≤ 1024) (a v : Int) (ha : a ≤ 9223372036854775807)
    (hv0 : 0 ≤ v) (hv1 : v ≤ 18446744073709551615) :
    Calls Try.prog 46 #[.pointer (some ⟨cb, 0, none⟩), .int .i64 a, .int .u64 v] w fun e w' => ∃ s M', e = .returned (.int .i64 s) ∧ StoreIs n M a v s M' ∧ CardAt w' cb pb mb sb n M' C ∧ Wf n M' cc ∧ Kc n M' ∧ Off [sb] w w' := by
  by_cases hx : M.hasWord n a
  · refine (store_yes h W K hn0 hn a v ha hx hv0 hv1).mono ?_
    rintro e w' ⟨rfl, H, O⟩
    exact ⟨0, _, rfl, .inl ⟨rfl, hx, rfl⟩, H, W.store hx, K.store W hx hv0 hv1, O⟩
  · refine (store_no h hn a v ha hx).mono ?_
    rintro e w' ⟨rfl, rfl⟩
    exact ⟨18, M, rfl, .inr ⟨rfl, hx, rfl⟩, h, W, K, Off.refl _ _⟩

/-- What a card's mark is behind Again, of its first i words. -/
def againR (n : Nat) (M : MemS) (s : SegS) (c : Nat) : Nat → Int
  | 0 => 5
  | i + 1 => younger n M s (s.words (16 * c + i)) (againR n M s c i)
theorem againM_eq (n : Nat) (M : MemS) {s : SegS} (K : SegKc s) (c i : Nat) : againM n M s (wordsUp K c i) = againR n M s c i := by
  induction i with
  | zero => rfl
  | succ i ih => rw [wordsUp_succ, againM_snoc, ih]; rfl
def MemS.again (n : Nat) (M : MemS) (x c : Int) : MemS := M.mark x c (againR n M (M.S x.toNat) c.toNat (cntW (M.S x.toNat).n c.toNat))
theorem againR_ran {n cc : Nat} {M : MemS} (W : Wf n M cc) (s : SegS) (c : Nat) : ∀ i, 0 ≤ againR n M s c i ∧ againR n M s c i ≤ 5
  | 0 => by simp [againR]
  | i + 1 => by have := againR_ran W s c i; exact younger_ran W s _ _ this.1 this.2
def AgainIs (n : Nat) (M : MemS) (x c s : Int) (M' : MemS) : Prop :=
  (s = 0 ∧ M.isTaken n x ∧ 0 ≤ c ∧ c ≤ 3 ∧ M' = M.again n x c) ∨ (s = 19 ∧ ¬ M.isTaken n x ∧ M' = M) ∨ (s = 1 ∧ M.isTaken n x ∧ (c < 0 ∨ 3 < c) ∧ M' = M)
theorem again_all {w : World} {cb pb mb sb n cc : Nat} {M : MemS} {C : Nat → Int} (h : CardAt w cb pb mb sb n M C) (W : Wf n M cc) (K : Kc n M) (hn0 : 0 < n) (hn : n ≤ 1024) (x c : Int) :
    Calls Try.prog 41 #[.pointer (some ⟨cb, 0, none⟩), .int .i64 x, .int .i64 c] w fun e w' => ∃ s M', e = .returned (.int .i64 s) ∧ AgainIs n M x c s M' ∧ CardAt w' cb pb mb sb n M' C ∧ Wf n M' cc ∧ Kc n M' ∧ Off [sb] w w' := by
  by_cases hx : M.isTaken n x
  · by_cases hc : c < 0 ∨ 3 < c
    · refine (again_arg h hn0 hn x c hx hc).mono ?_
      rintro e w' ⟨rfl, O⟩
      exact ⟨1, M, rfl, .inr (.inr ⟨rfl, hx, hc, rfl⟩), h.off hn0 O (by simp) (by simp) (by simp) (by simp), W, K, O.mono (by simp)⟩
    · obtain ⟨k, rfl⟩ : ∃ k : Nat, x = k := ⟨x.toNat, by have := hx.1; omega⟩
      obtain ⟨i, rfl⟩ : ∃ i : Nat, c = i := ⟨c.toNat, by omega⟩
      have hk : k < n := by have := hx.2.1; omega
      have ht := hx.2.2
      simp only [Int.toNat_natCast] at ht
      refine (again_yes h W hn0 hn k i hk (by omega) ht (K k hk)).mono ?_
      rintro e w' ⟨rfl, H, O⟩
      rw [againM_eq] at H
      have hr := againR_ran W (M.S k) i (cntW (M.S k).n i)
      exact ⟨0, M.again n k i, rfl, .inl ⟨rfl, hx, by omega, by omega, rfl⟩, H, W.markC (a := (k : Int)) (by simpa using hk) _ _, K.mark (a := (k : Int)) (by simpa using hk) i (by omega) hr.1 hr.2, O⟩
  · refine (again_none h hn0 hn x c hx).mono ?_
    rintro e w' ⟨rfl, O⟩
    exact ⟨19, M, rfl, .inr (.inl ⟨rfl, hx, rfl⟩), h.off hn0 O (by simp) (by simp) (by simp) (by simp), W, K, O.mono (by simp)⟩

/-! ### the chapter's examples -/
def ca1 : MemS := ((MemS.made 8).take 0 2 0).bump 0 2
def cc1 : Nat → Int := putC (fun _ => 0) (2 * 4 + 0) 1
def ca2 : MemS := (ca1.take 1 0 0).bump 1 2
def cc2 : Nat → Int := putC cc1 (0 * 4 + 0) 2
def ca3 : MemS := ca2.store 8 1 513
def ca4 : MemS := ca3.store 8 1 20
def ca5 : MemS := ca4.again 8 0 0

theorem takenIs_two {M : MemS} {T : List Nat} (h : TakenIs M 8 [] T) (hf : flT M [] 8 = [0, 1]) (ho : (M.S 0).taken < (M.S 1).taken) : T = [0, 1] :=
  h.unique ⟨fun k => by rw [← flT_mem, hf], by simpa using ho⟩

theorem wf_ca1 : Wf 8 ca1 1 := ((Wf.made 8).take (k := 0) (by omega) rfl 0 (by omega) (by omega)).bump (by omega) (by omega) (by decide)
theorem wf_ca2 : Wf 8 ca2 2 := (wf_ca1.take (k := 1) (by omega) rfl 0 (by omega) (by omega)).bump (by omega) (by omega) (by decide)
theorem kc_ca2 : Kc 8 ca2 := (((((Kc.made 8).take 0 2 0 (by omega) (by omega)).bump (by omega) 2).take 1 0 0 (by omega) (by omega)).bump (by omega) 2)
theorem hw2 : ca2.hasWord 8 1 := ⟨by omega, ⟨by decide, by decide, by decide⟩, by decide⟩
theorem wf_ca3 : Wf 8 ca3 2 := wf_ca2.store hw2
theorem kc_ca3 : Kc 8 ca3 := kc_ca2.store wf_ca2 hw2 (by omega) (by omega)
theorem hw3 : ca3.hasWord 8 1 := ⟨by omega, ⟨by decide +kernel, by decide +kernel, by decide +kernel⟩, by decide +kernel⟩
theorem wf_ca4 : Wf 8 ca4 2 := wf_ca3.store hw3
theorem kc_ca4 : Kc 8 ca4 := kc_ca3.store wf_ca3 hw3 (by omega) (by omega)
theorem tk4 : ca4.isTaken 8 0 := by decide +kernel
theorem wf_ca5 : Wf 8 ca5 2 := wf_ca4.markC (by decide) _ _
theorem d30 : dirtyL ca3 [0, 1] 0 = [(0, 0)] := by decide +kernel
theorem d32 : dirtyL ca3 [0, 1] 2 = [] := by decide +kernel
theorem d40 : dirtyL ca4 [0, 1] 0 = [(0, 0)] := by decide +kernel
theorem d50 : dirtyL ca5 [0, 1] 0 = [] := by decide +kernel
theorem f3 : flT ca3 [] 8 = [0, 1] := by decide +kernel
theorem f4 : flT ca4 [] 8 = [0, 1] := by decide +kernel
theorem f5 : flT ca5 [] 8 = [0, 1] := by decide +kernel
theorem o3 : (ca3.S 0).taken < (ca3.S 1).taken := by decide +kernel
theorem o4 : (ca4.S 0).taken < (ca4.S 1).taken := by decide +kernel
theorem o5 : (ca5.S 0).taken < (ca5.S 1).taken := by decide +kernel

/-- Dirty, of cards whose answer is known. -/
theorem dirty_known {w : World} {cb pb mb sb cc : Nat} {M : MemS} {C : Nat → Int} (h : CardAt w cb pb mb sb 8 M C) (W : Wf 8 M cc) (g : Int) {L : List (Nat × Nat)} (hf : flT M [] 8 = [0, 1]) (ho : (M.S 0).taken < (M.S 1).taken) (hL : dirtyL M [0, 1] g = L) :
    Calls Try.prog 42 #[.pointer (some ⟨cb, 0, none⟩), .int .i64 g] w fun e w' => ∃ a cap, e = .returned (.slice a L.length cap) ∧ CardsL w.heap.size w' (.slice a L.length cap) L ∧ CardAt w' cb pb mb sb 8 M C ∧ Off [] w w' := by
  refine (dirty_any h W (by omega) (by omega) g).mono ?_
  rintro e w' ⟨v, T, rfl, hT, hc, O⟩
  obtain rfl := takenIs_two hT hf ho
  rw [hL] at hc
  have H' := h.off (by omega) O (by simp) (by simp) (by simp) (by simp)
  rcases hc with ⟨rfl, rfl⟩ | ⟨b, cap, hb, rfl, hcells⟩
  · exact ⟨none, 0, rfl, .inl ⟨rfl, rfl⟩, H', O⟩
  · exact ⟨_, cap, rfl, .inr ⟨b, cap, hb, rfl, hcells⟩, H', O⟩

set_option maxHeartbeats 2000000 in
set_option maxRecDepth 100000 in
theorem awake09_true (w : World) : Calls Try.prog 40 #[] w fun e w' => e = .returned (.bool true) ∧ Off [] w w' := by
  go_enter Try.func40, Try.ntmps40
  go_wp2_with fail
  refine (cnew_ok 8 8 w rfl (by omega) (by omega)).mono ?_
  rintro e w1 ⟨cb, pb, mb, sb, rfl, H, O, z1, z2, z3, z4⟩
  have H1 := Lib.hid H
  have O1 := Lib.hid O
  have p := H.ptr
  have Z : Hid (∀ x, x ∈ [pb, mb, sb] → x ∈ ([] : List Nat) ∨ w.heap.size ≤ x) := Lib.hid (fun x hx => .inr (by simp at hx; omega))
  have hcp := H.np
  have hcm := H.nm
  have hcs := H.ns
  have hps := H.sp.ns
  clear H O z1 z2 z3 z4
  go_wp2_with fail
  refine (alloc_new H1.out.sp (by omega) (by omega) 2 0 (by omega) (by omega) 2 (by decide) (by omega) (by omega) (.inl rfl) 0 (by omega) (by decide) (by decide) (by decide) (by decide) rfl (by omega)).mono ?_
  rintro e w2 ⟨rfl, H, O⟩
  have HC := H1.out.sp' O (by simp; omega) H
  have H2 : Hid (CardAt w2 cb pb mb sb 8 ca1 cc1) := Lib.hid HC
  have p2 := HC.ptr
  have O2 := Lib.hid O
  clear H O HC p
  go_wp2_with fail
  refine (alloc_new H2.out.sp (by omega) (by omega) 0 0 (by omega) (by omega) 2 (by decide) (by omega) (by omega) (.inl rfl) 1 (by omega) (by decide) (by decide) (by decide) (by decide) rfl (fun i hi => by cases (show i = 0 by omega); decide)).mono ?_
  rintro e w3 ⟨rfl, H, O⟩
  have HC := H2.out.sp' O (by simp; omega) H
  have H3 : Hid (CardAt w3 cb pb mb sb 8 ca2 cc2) := Lib.hid HC
  have O3 := Lib.hid (O2.out.trans O)
  clear H O HC p2 H1 H2 O2
  go_wp2_with fail
  refine (store_yes H3.out wf_ca2 kc_ca2 (by omega) (by omega) 1 513 (by omega) hw2 (by omega) (by omega)).mono ?_
  rintro e w4 ⟨rfl, H, O⟩
  have H4 : Hid (CardAt w4 cb pb mb sb 8 ca3 cc2) := Lib.hid H
  have O4 := Lib.hid (O3.out.trans (O.mono (by simp)))
  clear H O H3 O3
  go_wp2_with fail
  refine (dirty_known H4.out wf_ca3 0 f3 o3 d30).mono ?_
  rintro e w5 ⟨a5, cap5, rfl, hc5, H, O⟩
  have H5 := Lib.hid H
  have O5 := Lib.hid (O4.out.trans (O.mono (by simp)))
  have hsb4 := H4.out.sp.mem.sb_lt (by omega)
  clear H O H4 O4
  rcases hc5 with ⟨_, hn⟩ | ⟨b5, cap5', hb5, hv, hc5⟩
  · cases hn
  cases hv
  have hcA := hc5 0 (by decide)
  have c50 := hcA.1
  have c51 := hcA.2
  simp only [Nat.zero_mul, Nat.zero_add] at c50 c51
  change w5.cell? ⟨b5, 0, none⟩ = some (.int .i64 0) at c50
  change w5.cell? ⟨b5, 1, none⟩ = some (.int .i64 0) at c51
  have hb5s : b5 ≠ sb := by omega
  clear hc5 hcA
  go_wp2_with fail
  refine (dirty_known H5.out wf_ca3 2 f3 o3 d32).mono ?_
  rintro e w6 ⟨a6, cap6, rfl, _, H, O⟩
  have H6 := Lib.hid H
  have O6 := Lib.hid (O5.out.trans (O.mono (by simp)))
  have e60 := O.cell c50 (by simp)
  have e61 := O.cell c51 (by simp)
  clear H O H5 O5 c50 c51
  go_wp2_with fail
  refine (store_yes H6.out wf_ca3 kc_ca3 (by omega) (by omega) 1 20 (by omega) hw3 (by omega) (by omega)).mono ?_
  rintro e w7 ⟨rfl, H, O⟩
  have H7 : Hid (CardAt w7 cb pb mb sb 8 ca4 cc2) := Lib.hid H
  have O7 := Lib.hid (O6.out.trans (O.mono (by simp)))
  have e70 := O.cell e60 (by simpa using hb5s)
  have e71 := O.cell e61 (by simpa using hb5s)
  clear H O H6 O6 e60 e61
  go_wp2_with fail
  refine (dirty_known H7.out wf_ca4 0 f4 o4 d40).mono ?_
  rintro e w8 ⟨a8, cap8, rfl, _, H, O⟩
  have H8 := Lib.hid H
  have O8 := Lib.hid (O7.out.trans (O.mono (by simp)))
  have e80 := O.cell e70 (by simp)
  have e81 := O.cell e71 (by simp)
  clear H O H7 O7 e70 e71
  go_wp2_with fail
  refine (again_all H8.out wf_ca4 kc_ca4 (by omega) (by omega) 0 0).mono ?_
  rintro e w9 ⟨s, M', rfl, hA, H, _, _, O⟩
  obtain ⟨rfl, _, _, _, rfl⟩ : s = 0 ∧ True ∧ True ∧ True ∧ M' = ca5 := by
    rcases hA with ⟨h1, _, _, _, h2⟩ | ⟨_, h, _⟩ | ⟨_, _, h, _⟩
    · exact ⟨h1, trivial, trivial, trivial, h2⟩
    · exact absurd tk4 h
    · omega
  have H9 := Lib.hid H
  have O9 := Lib.hid (O8.out.trans (O.mono (by simp)))
  have e90 := O.cell e80 (by simpa using hb5s)
  have e91 := O.cell e81 (by simpa using hb5s)
  clear H O H8 O8 e80 e81 hA
  go_wp2_with fail
  refine (dirty_known H9.out wf_ca5 0 f5 o5 d50).mono ?_
  rintro e w10 ⟨a10, cap10, rfl, _, H, O⟩
  have OA := Lib.hid ((O1.out.trans_new (O9.out.trans (O.mono (by simp))) Z.out))
  clear H O H9 O9
  go_wp2_with fail
  go_ret
  exact ⟨rfl, OA.out⟩
end Go.Proofs.Ytoafoodgomnfeaa
