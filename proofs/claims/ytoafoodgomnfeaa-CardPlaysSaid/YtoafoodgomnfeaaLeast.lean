/-
  YtoafoodgomnfeaaLeast: the walk of SegLeast.
-/
import Derived.Test.YtoafoodgomnfeaaPlain
namespace Go.Proofs.Ytoafoodgomnfeaa
open Go.RowKit
set_option linter.unusedVariables false

/-- A call that a law is handed (of layers 7 and 9). -/
structure ActS where
  doo : Int
  a : Int
  b : Int
  c : Int
  w : Int
def ActS.cellOf (x : ActS) : Nat → Value
  | 0 => .int .i64 x.doo
  | 1 => .int .i64 x.a
  | 2 => .int .i64 x.b
  | 3 => .int .i64 x.c
  | _ => .int .u64 x.w
structure ActS.Ok (x : ActS) : Prop where
  a0 : -9223372036854775808 ≤ x.a
  a1 : x.a ≤ 9223372036854775807
  b0 : -9223372036854775808 ≤ x.b
  b1 : x.b ≤ 9223372036854775807
  c0 : -9223372036854775808 ≤ x.c
  c1 : x.c ≤ 9223372036854775807
  w0 : 0 ≤ x.w
  w1 : x.w ≤ 18446744073709551615
/-- The slice of calls: each of its elements lies there. -/
def ActsAt (w : World) (a : Option Addr) (len : Nat) (X : Nat → ActS) : Prop :=
  ∃ b o, (0 < len → a = some ⟨b, o, none⟩) ∧ ∀ i, i < len → (∀ j, j < 5 → w.cell? ⟨b, o + i * 5 + j, none⟩ = some ((X i).cellOf j)) ∧ (X i).Ok


theorem MemAt.alloc {w : World} {mb sb n : Nat} {M : MemS} (h : MemAt w mb sb n M) (hn : 0 < n) (o : Obj) : MemAt (w.alloc o) mb sb n M := h.off hn ((Off.refl [] _).alloc o) (by simp) (by simp)

theorem seg_yes' {mb sb n : Nat} {M : MemS} {w : World} (H : MemAt w mb sb n M) (hn : n ≤ 1024) (k : Nat) (hk : k < n) (s : SegS) (hs : M.S k = s) (ht : s.taken ≠ 0) (x : Int) (hx : x = k) :
    Calls Try.prog 17 #[.pointer (some ⟨mb, 0, none⟩), .int .i64 x] w fun e w' => e = .returned (.tuple #[.agg #[.int .i64 s.gen, .int .i64 s.kind, .int .i64 s.n, .int .i64 s.c0, .int .i64 s.c1, .int .i64 s.c2, .int .i64 s.c3], .bool true]) ∧
      MemAt w' mb sb n M ∧ Off [] w w' := by
  subst hs
  refine (seg_yes H hn k hk ht x hx).mono ?_
  rintro e w' ⟨rfl, O⟩
  exact ⟨rfl, H.off (by omega) O (by simp) (by simp), O⟩
theorem seg_no' {mb sb n : Nat} {M : MemS} {w : World} (H : MemAt w mb sb n M) (hn0 : 0 < n) (hn : n ≤ 1024) (x : Int) (hx : ¬ M.isTaken n x) :
    Calls Try.prog 17 #[.pointer (some ⟨mb, 0, none⟩), .int .i64 x] w fun e w' => e = .returned (.tuple #[.agg #[.int .i64 0, .int .i64 0, .int .i64 0, .int .i64 0, .int .i64 0, .int .i64 0, .int .i64 0], .bool false]) ∧
      MemAt w' mb sb n M ∧ Off [] w w' := by
  refine (seg_no H hn0 hn x hx).mono ?_
  rintro e w' ⟨rfl, O⟩
  exact ⟨rfl, H.off (by omega) O (by simp) (by simp), O⟩

theorem give_not {M : MemS} {n : Nat} {x : Int} {k : Nat} (hx : x = k) : ¬ (M.give k).isTaken n x := by
  rintro ⟨h0, h1, h2⟩
  rw [show x.toNat = k by omega] at h2
  exact h2 (by show ((M.give k).S k).taken = 0; rw [show (M.give k).S k = SegS.zero from MemS.put_same _ _ _]; rfl)

/-- Bump, whatever it is handed. -/
theorem bump_any {mb sb n c : Nat} {M : MemS} {w : World} (H : MemAt w mb sb n M) (W : Wf n M c) (hn : n ≤ 1024) (x b : Int) :
    Calls Try.prog 19 #[.pointer (some ⟨mb, 0, none⟩), .int .i64 x, .int .i64 b] w fun e w' => ∃ r s M', e = .returned (.tuple #[.int .i64 r, .int .i64 s]) ∧ MemAt w' mb sb n M' ∧ Wf n M' c ∧ M'.count = M.count ∧ Off [mb, sb] w w' := by
  by_cases ht : M.isTaken n x
  · obtain ⟨t1, t2, t3⟩ := ht
    have hk : x.toNat < n := by omega
    have hu := W.used _ hk
    by_cases hb : b < 1
    · refine (bump_arg H hn x.toNat hk t3 x b (by omega) hb).mono ?_
      rintro e w' ⟨rfl, rfl⟩
      exact ⟨_, _, M, rfl, H, W, rfl, Off.refl _ _⟩
    · by_cases hf : 64 - (M.S x.toNat).n < b
      · refine (bump_full H hn x.toNat hk t3 x b (by omega) (by omega) hu.1 hu.2 hf).mono ?_
        rintro e w' ⟨rfl, rfl⟩
        exact ⟨_, _, M, rfl, H, W, rfl, Off.refl _ _⟩
      · refine (bump_yes H hn x.toNat hk t3 x b (by omega) (by omega) hu.1 hu.2 (by omega)).mono ?_
        rintro e w' ⟨rfl, H', O⟩
        exact ⟨_, _, _, rfl, H', W.bump hk (by omega) (by omega), rfl, O.mono (by simp)⟩
  · refine (bump_no H hn x b ht).mono ?_
    rintro e w' ⟨rfl, rfl⟩
    exact ⟨_, _, M, rfl, H, W, rfl, Off.refl _ _⟩

/-- At the head of each round. -/
def LeastRel (w : World) (mb sb n len : Nat) (i : Value) (wr : World) : Prop :=
  ∃ (k : Nat) (M : MemS), k ≤ len ∧ i = .int .i64 k ∧ MemAt wr mb sb n M ∧ Wf n M k ∧ Off [] w wr

/-- At the head of each round of the loop over the lesser ones. -/
def LessRel (w : World) (mb sb n B k0 : Nat) (M : MemS) (xa xb : Int) (i : Value) (wr : World) : Prop :=
  ∃ j : Nat, j ≤ k0 ∧ i = .int .i64 j ∧ MemAt wr mb sb n M ∧ Off [] w wr ∧ wr.cell? ⟨B, 1, none⟩ = some (.int .i64 xa) ∧ wr.cell? ⟨B, 2, none⟩ = some (.int .i64 xb) ∧ B < wr.heap.size

theorem LeastRel.next {w wr' : World} {mb sb n len k : Nat} {M : MemS} (hk : k < len) (H : MemAt wr' mb sb n M) (W : Wf n M (k + 1)) (O : Off [] w wr') : LeastRel w mb sb n len (.int .i64 ((k : Int) + 1)) wr' :=
  ⟨k + 1, M, by omega, by go_num, H, W, O⟩

set_option maxHeartbeats 1000000 in
set_option maxRecDepth 100000 in
theorem least_true (limit : Int) (a : Option Addr) (len cap : Nat) (X : Nat → ActS) (w : World) (hX : ActsAt w a len X) (hlen : len ≤ 300) (n : Nat) (hx : limit = n) (h1 : 8 ≤ n) (h2 : n ≤ 1024) :
    Calls Try.prog 3 #[.int .i64 limit, .slice a len cap] w fun e w' => e = .returned (.bool true) ∧ Off [] w w' := by
  subst hx
  have l1 : ¬ (300 : Int) < (len : Int) := by omega
  go_enter Try.func3, Try.ntmps3
  go_wp2_with fail
  refine (new_ok _ n w rfl (by omega) (by omega)).mono ?_
  rintro e w1 ⟨rfl, H, O⟩
  have hmb : w.heap.size ≤ w.heap.size + 1 := by omega
  have hsb : w.heap.size ≤ w.heap.size := by omega
  generalize w.heap.size + 1 = mb at H hmb ⊢
  generalize hs : w.heap.size = sb at H ⊢
  have Hs := Lib.hid hs
  have H1 := Lib.hid H
  have O1 := Lib.hid O
  clear hs H O
  go_wp2_with fail
  have hL := Lib.hid (show ∀ x, x ∈ [mb, sb] → x ∈ ([] : List Nat) ∨ w.heap.size ≤ x from fun x hx => .inr (by have := Hs.out; simp at hx; rcases hx with rfl | rfl <;> omega))
  go_loopw [7] (fun i wr => LeastRel w mb sb n len i wr) (fun i _ => len - (intOf i).toNat)
  case atStart => exact ⟨0, _, by omega, rfl, H1.out, Wf.made n, O1.out⟩
  case round =>
    obtain ⟨k, M, hk, rfl, H, W, O⟩ := hrel
    have hq := Lib.hid (show wr.heap.size ∉ [mb, sb] by
      have q1 := H.mb_lt
      have q2 := H.sb_lt (by omega)
      simp only [List.mem_cons, List.not_mem_nil, or_false, not_or]; omega)
    have HH := Lib.hid H
    have WW := Lib.hid W
    have OO := Lib.hid O
    clear H W O
    by_cases hlt : k < len
    · obtain ⟨b, o, ha, hXX⟩ := hX
      cases (ha (by omega))
      obtain ⟨hc, hok⟩ := hXX k hlt
      have HXX := Lib.hid hXX
      clear hXX ha
      generalize X k = x at hc hok
      obtain ⟨d, xa, xb, xc, xw⟩ := x
      obtain ⟨ba0, ba1, bb0, bb1, bc0, bc1, bw0, bw1⟩ := hok
      simp only [] at ba0 ba1 bb0 bb1
      have c0 := OO.out.cell (hc 0 (by omega)) (by simp)
      have c1 := OO.out.cell (hc 1 (by omega)) (by simp)
      have c2 := OO.out.cell (hc 2 (by omega)) (by simp)
      have c3 := OO.out.cell (hc 3 (by omega)) (by simp)
      have c4 := OO.out.cell (hc 4 (by omega)) (by simp)
      simp only [ActS.cellOf, Nat.add_zero] at c0 c1 c2 c3 c4
      clear hc
      have hnn : 0 < n := by omega
      by_cases e0 : d = 0
      · have f0 : (d == 0) = true := beq_iff_eq.2 e0
        have He0 := Lib.hid e0
        clear e0
        by_cases hbad : xa < 0 ∨ 4 < xa ∨ xb < 0 ∨ 3 < xb
        · have HB := Lib.hid hbad
          clear hbad
          go_wp2_with fail
          refine (free_any mb M.free _ (HH.out.alloc hnn _).free).mono ?_
          rintro e w' ⟨rfl, rfl⟩
          go_wp2_with fail
          refine (take_arg mb sb n _ xa xb _ (HH.out.alloc hnn _).segs hnn HB.out).mono ?_
          rintro e w' ⟨rfl, rfl⟩
          go_wp2_with fail
          refine (free_any mb M.free _ (HH.out.alloc hnn _).free).mono ?_
          rintro e w' ⟨rfl, rfl⟩
          go_wp2_with fail
          go_roundw
          case rel => exact LeastRel.next hlt (HH.out.alloc hnn _) (WW.out.mono (by omega)) (OO.out.alloc _)
          case measure => simp [intOf]; omega
        have g0 : 0 ≤ xa := by omega
        have g1 : xa ≤ 4 := by omega
        have g2 : 0 ≤ xb := by omega
        have g3 : xb ≤ 3 := by omega
        clear hbad
        have hf0 := WW.out.free0
        have hf1 := WW.out.free_le
        by_cases hz : M.free = 0
        · have HZ := Lib.hid hz
          clear hz
          go_wp2_with fail
          refine (free_any mb 0 _ (by rw [← HZ.out]; exact (HH.out.alloc hnn _).free)).mono ?_
          rintro e w' ⟨rfl, rfl⟩
          go_wp2_with fail
          refine (take_full mb sb n _ xa xb _ (HH.out.alloc hnn _).segs (by rw [← HZ.out]; exact (HH.out.alloc hnn _).free) hnn g0 g1 g2 g3).mono ?_
          rintro e w' ⟨rfl, rfl⟩
          go_wp2_with fail
          refine (free_any mb 0 _ (by rw [← HZ.out]; exact (HH.out.alloc hnn _).free)).mono ?_
          rintro e w' ⟨rfl, rfl⟩
          go_wp2_with fail
          go_roundw
          case rel => exact LeastRel.next hlt (HH.out.alloc hnn _) (WW.out.mono (by omega)) (OO.out.alloc _)
          case measure => simp [intOf]; omega
        obtain ⟨k0, hk0, hkf, hkl⟩ := freeN_pos (S := M.S) (n := n) (by have := WW.out.free; omega)
        have HKF := Lib.hid hkf
        have HKL := Lib.hid hkl
        have hc0 := WW.out.cnt0
        have hc1 := WW.out.cnt
        clear hkf hkl
        go_wp2_with fail
        refine (free_any mb M.free _ (HH.out.alloc hnn _).free).mono ?_
        rintro e w' ⟨rfl, rfl⟩
        go_wp2_with fail
        refine (take_ok mb sb n k0 xa xb M _ (HH.out.alloc hnn _) h2 g0 g1 g2 g3 hk0 (by omega) (by omega) hc0 (by omega) HKF.out (fun i hi => by have a1 := HKL.out i hi; have a2 := (WW.out.tk i (by omega)).1; omega)).mono ?_
        rintro e w2 ⟨rfl, H2', O2⟩
        have d1 : w2.cell? ⟨wr.heap.size, 1, none⟩ = some (.int .i64 xa) := O2.cell (by simp) hq.out
        have d2 : w2.cell? ⟨wr.heap.size, 2, none⟩ = some (.int .i64 xb) := O2.cell (by simp) hq.out
        have H2 := Lib.hid (show MemAt w2 mb sb n (M.take k0 xa xb) from H2')
        have W2 := Lib.hid (WW.out.take hk0 HKF.out xb g0 g1)
        have OO2 := Lib.hid ((OO.out.alloc _).trans_new O2 hL.out)
        have D1 := Lib.hid d1
        have D2 := Lib.hid d2
        clear H2' O2 d1 d2
        go_wp2_with fail
        go_loopw [12] (fun i wr2 => LessRel w mb sb n wr.heap.size k0 (M.take k0 xa xb) xa xb i wr2) (fun i _ => k0 - (intOf i).toNat)
        case atStart => exact ⟨0, by omega, rfl, H2.out, OO2.out, D1.out, D2.out, World.block_lt_of_cell? _ _ D1.out⟩
        case round =>
          obtain ⟨j, hj, rfl, H3', O3', d1, d2, z3⟩ := hrel
          have H3 := Lib.hid H3'
          have O3 := Lib.hid O3'
          clear H3' O3'
          by_cases hjk : j < k0
          · have D1 := Lib.hid d1
            have D2 := Lib.hid d2
            clear d1 d2
            go_wp2_with fail
            refine (seg_yes' H3.out h2 j (by omega) _ rfl (by rw [show (M.take k0 xa xb).S j = M.S j from MemS.put_other _ _ _ (by omega)]; exact HKL.out j hjk) j rfl).mono ?_
            rintro e w4 ⟨rfl, H4', O4⟩
            have H4 := Lib.hid H4'
            have OO4 := Lib.hid (O3.out.trans O4)
            have D1' := Lib.hid (O4.cell D1.out (by simp))
            have D2' := Lib.hid (O4.cell D2.out (by simp))
            have z4 := Lib.hid O4.size
            clear H4' O4
            go_wp2_with fail
            go_roundw
            case rel => exact ⟨j + 1, by omega, by go_num, H4.out.alloc hnn _, OO4.out.alloc _, by rw [World.cell?_alloc_lt _ _ _ (Nat.lt_of_lt_of_le z3 z4.out)]; exact D1'.out, by rw [World.cell?_alloc_lt _ _ _ (Nat.lt_of_lt_of_le z3 z4.out)]; exact D2'.out, by have := z4.out; simp; omega⟩
            case measure => simp [intOf]; omega
          · obtain rfl : j = k0 := by omega
            clear hjk
            have D1 := Lib.hid d1
            have D2 := Lib.hid d2
            clear d1 d2
            go_wp2_with fail
            refine (seg_yes' H3.out h2 j (by omega) (fresh xa xb (M.count + 1)) (MemS.put_same _ _ _) (by show M.count + 1 ≠ 0; omega) j rfl).mono ?_
            rintro e w4 ⟨rfl, H4', O4⟩
            have H4 := Lib.hid H4'
            have OO4 := Lib.hid (O3.out.trans O4)
            have d1 := (O4.cell D1.out (by simp))
            have d2 := (O4.cell D2.out (by simp))
            have z4 := Nat.lt_of_lt_of_le z3 O4.size
            simp only [fresh]
            clear H4' O4
            go_wp2_with fail
            refine (free_any mb (M.free - 1) _ (H4.out.alloc hnn _).free).mono ?_
            rintro e w5 ⟨rfl, rfl⟩
            go_wp2_with fail
            go_roundw
            case rel => exact LeastRel.next hlt (H4.out.alloc hnn _) W2.out (OO4.out.alloc _)
            case measure => simp [intOf]; omega
      by_cases e1 : d = 1
      · have f1 : (d == 1) = true := beq_iff_eq.2 e1
        have f0 : (d == 0) = false := beq_eq_false_iff_ne.2 e0
        have He1 := Lib.hid e1
        clear e1 e0
        by_cases ht : M.isTaken n xa
        · obtain ⟨t1, t2, t3⟩ := ht
          have T3 := Lib.hid t3
          have htk : xa.toNat < n := by omega
          have hf0 := WW.out.free0
          have hf1 := WW.out.free_le
          clear t3
          go_wp2_with fail
          refine (free_any mb M.free _ (HH.out.alloc hnn _).free).mono ?_
          rintro e w' ⟨rfl, rfl⟩
          go_wp2_with fail
          refine (seg_yes' (HH.out.alloc hnn _) h2 xa.toNat htk _ rfl T3.out xa (by omega)).mono ?_
          rintro e w2 ⟨rfl, H2', O2⟩
          have d1 : w2.cell? ⟨wr.heap.size, 1, none⟩ = some (.int .i64 xa) := O2.cell (by simp) (by simp)
          have z2 : wr.heap.size < w2.heap.size := by have := O2.size; simp at this; omega
          have H2 := Lib.hid H2'
          have OO2 := Lib.hid ((OO.out.alloc _).trans O2)
          clear H2' O2
          go_wp2_with fail
          refine (give_yes (H2.out.alloc hnn _) h2 xa.toNat htk T3.out xa (by omega) hf0 (by omega)).mono ?_
          rintro e w3 ⟨rfl, H3', O3⟩
          have d1' : w3.cell? ⟨wr.heap.size, 1, none⟩ = some (.int .i64 xa) := O3.cell (by rw [World.cell?_alloc_lt _ _ _ z2]; exact d1) hq.out
          have H3 := Lib.hid (show MemAt w3 mb sb n (M.give xa.toNat) from H3')
          have W3 := Lib.hid (WW.out.give htk T3.out)
          have OO3 := Lib.hid ((OO2.out.alloc _).trans_new O3 hL.out)
          clear H3' O3
          go_wp2_with fail
          refine (seg_no' H3.out hnn h2 xa (give_not (by omega))).mono ?_
          rintro e w4 ⟨rfl, H4', O4⟩
          have H4 := Lib.hid H4'
          have OO4 := Lib.hid (OO3.out.trans O4)
          clear H4' O4
          go_wp2_with fail
          refine (free_any mb (M.free + 1) _ (H4.out.alloc hnn _).free).mono ?_
          rintro e w5 ⟨rfl, rfl⟩
          go_wp2_with fail
          go_roundw
          case rel => exact LeastRel.next hlt (H4.out.alloc hnn _) (W3.out.mono (by omega)) (OO4.out.alloc _)
          case measure => simp [intOf]; omega
        · have HT := Lib.hid ht
          clear ht
          go_wp2_with fail
          refine (free_any mb M.free _ (HH.out.alloc hnn _).free).mono ?_
          rintro e w' ⟨rfl, rfl⟩
          go_wp2_with fail
          refine (seg_no' (HH.out.alloc hnn _) hnn h2 xa HT.out).mono ?_
          rintro e w2 ⟨rfl, H2', O2⟩
          have d1 : w2.cell? ⟨wr.heap.size, 1, none⟩ = some (.int .i64 xa) := O2.cell (by simp) (by simp)
          have z2 : wr.heap.size < w2.heap.size := by have := O2.size; simp at this; omega
          have H2 := Lib.hid H2'
          have OO2 := Lib.hid ((OO.out.alloc _).trans O2)
          clear H2' O2
          go_wp2_with fail
          refine (give_no (H2.out.alloc hnn _) hnn h2 xa HT.out).mono ?_
          rintro e w3 ⟨rfl, rfl⟩
          go_wp2_with fail
          refine (seg_no' (H2.out.alloc hnn _) hnn h2 xa HT.out).mono ?_
          rintro e w4 ⟨rfl, H4', O4⟩
          have H4 := Lib.hid H4'
          have OO4 := Lib.hid ((OO2.out.alloc _).trans O4)
          clear H4' O4
          go_wp2_with fail
          go_roundw
          case rel => exact LeastRel.next hlt (H4.out.alloc hnn _) (WW.out.mono (by omega)) (OO4.out.alloc _)
          case measure => simp [intOf]; omega
      by_cases e2 : d = 2
      · have f0 : (d == 0) = false := beq_eq_false_iff_ne.2 e0
        have f1 : (d == 1) = false := beq_eq_false_iff_ne.2 e1
        have f2 : (d == 2) = true := beq_iff_eq.2 e2
        have He2 := Lib.hid e2
        clear e0 e1 e2
        go_wp2_with fail
        refine (free_any mb M.free _ (HH.out.alloc hnn _).free).mono ?_
        rintro e w' ⟨rfl, rfl⟩
        go_wp2_with fail
        refine (bump_any (HH.out.alloc hnn _) WW.out h2 xa xb).mono ?_
        rintro e w2 ⟨r, s, M', rfl, H', W', hc', O'⟩
        have H2 := Lib.hid H'
        have W2 := Lib.hid W'
        have O2 := Lib.hid ((OO.out.alloc _).trans_new O' hL.out)
        clear H' W' hc' O'
        go_wp2_with fail
        go_roundw
        case rel => exact LeastRel.next hlt H2.out (W2.out.mono (by omega)) O2.out
        case measure => simp [intOf]; omega
      · have f0 : (d == 0) = false := beq_eq_false_iff_ne.2 e0
        have f1 : (d == 1) = false := beq_eq_false_iff_ne.2 e1
        have f2 : (d == 2) = false := beq_eq_false_iff_ne.2 e2
        go_wp2_with fail
        refine (free_any mb M.free _ (HH.out.alloc hnn _).free).mono ?_
        rintro e w' ⟨rfl, rfl⟩
        go_wp2_with fail
        go_roundw
        case rel => exact LeastRel.next hlt (HH.out.alloc hnn _) (WW.out.mono (by omega)) (OO.out.alloc _)
        case measure => simp [intOf]; omega
    · go_wp2_with fail
      refine (awake_true _).mono ?_
      rintro e w' ⟨rfl, O'⟩
      go_wp2_with fail
      go_ret
      exact ⟨rfl, OO.out.trans O'⟩

set_option maxRecDepth 100000 in
/-- A limit that may not be: no memory. -/
theorem least_arg (limit : Int) (a : Option Addr) (len cap : Nat) (w : World) (hlen : len ≤ 300) (hx : limit < 8 ∨ 1024 < limit) :
    Calls Try.prog 3 #[.int .i64 limit, .slice a len cap] w fun e w' => e = .returned (.bool true) ∧ Off [] w w' := by
  have HX := Lib.hid hx
  clear hx
  go_enter Try.func3, Try.ntmps3
  go_wp2_with fail
  refine (new_arg limit w HX.out).mono ?_
  rintro e w1 ⟨rfl, rfl⟩
  go_wp2_with fail
  refine (awake_true _).mono ?_
  rintro e w' ⟨rfl, O'⟩
  go_wp2_with fail
  go_ret
  exact ⟨rfl, O'⟩
set_option maxRecDepth 100000 in
/-- Too many calls. -/
theorem least_many (limit : Int) (a : Option Addr) (len cap : Nat) (w : World) (hlen : 300 < len) (hx : limit < 8 ∨ 1024 < limit ∨ ∃ n : Nat, limit = n ∧ 8 ≤ n ∧ n ≤ 1024) :
    Calls Try.prog 3 #[.int .i64 limit, .slice a len cap] w fun e w' => e = .returned (.bool true) ∧ Off [] w w' := by
  have l1 : (300 : Int) < (len : Int) := by omega
  by_cases hb : limit < 8 ∨ 1024 < limit
  · have HX := Lib.hid hb
    clear hx hb
    go_enter Try.func3, Try.ntmps3
    go_wp2_with fail
    refine (new_arg limit w HX.out).mono ?_
    rintro e w1 ⟨rfl, rfl⟩
    go_wp2_with fail
    refine (awake_true _).mono ?_
    rintro e w' ⟨rfl, O'⟩
    go_wp2_with fail
    go_ret
    exact ⟨rfl, O'⟩
  · obtain ⟨n, rfl, h1, h2⟩ : ∃ n : Nat, limit = n ∧ 8 ≤ n ∧ n ≤ 1024 := ⟨limit.toNat, by omega, by omega, by omega⟩
    clear hx hb
    go_enter Try.func3, Try.ntmps3
    go_wp2_with fail
    refine (new_ok _ n w rfl h1 h2).mono ?_
    rintro e w1 ⟨rfl, H, O⟩
    have O1 := Lib.hid O
    clear H O
    go_wp2_with fail
    refine (awake_true _).mono ?_
    rintro e w' ⟨rfl, O'⟩
    go_wp2_with fail
    go_ret
    exact ⟨rfl, O1.out.trans O'⟩

theorem least_law (limit : Int) (a : Option Addr) (len cap : Nat) (X : Nat → ActS) (w : World) (hX : ActsAt w a len X) :
    Calls Try.prog 3 #[.int .i64 limit, .slice a len cap] w fun e w' => e = .returned (.bool true) ∧ Off [] w w' := by
  by_cases hlen : len ≤ 300
  · by_cases hb : limit < 8 ∨ 1024 < limit
    · exact least_arg limit a len cap w hlen hb
    · exact least_true limit a len cap X w hX hlen limit.toNat (by omega) (by omega) (by omega)
  · refine least_many limit a len cap w (by omega) ?_
    by_cases hb : limit < 8 ∨ 1024 < limit
    · omega
    · exact .inr (.inr ⟨limit.toNat, by omega, by omega, by omega⟩)
end Go.Proofs.Ytoafoodgomnfeaa
