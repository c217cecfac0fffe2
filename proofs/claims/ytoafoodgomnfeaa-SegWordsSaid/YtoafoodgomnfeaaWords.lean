/-
  YtoafoodgomnfeaaWords: the walk of SegWords.
-/
import Derived.Test.YtoafoodgomnfeaaWordsP
namespace Go.Proofs.Ytoafoodgomnfeaa
open Go.RowKit
set_option linter.unusedVariables false

/-- At the head of each round: the map holds the used words. -/
def WordsRel (w : World) (mb sb n len B : Nat) (i : Value) (wr : World) : Prop :=
  ∃ (k : Nat) (M : MemS), k ≤ len ∧ i = .int .i64 k ∧ MemAt wr mb sb n M ∧ Wf n M k ∧ Off [] w wr ∧ IMap wr 29 .u64 B (65 * k) (wordF M n) (wordN M.S n)
theorem WordsRel.next {w wr' : World} {mb sb n len B k : Nat} {M : MemS} (hk : k < len) (H : MemAt wr' mb sb n M) (W : Wf n M (k + 1)) (O : Off [] w wr') (I : IMap wr' 29 .u64 B (65 * (k + 1)) (wordF M n) (wordN M.S n)) :
    WordsRel w mb sb n len B (.int .i64 ((k : Int) + 1)) wr' := ⟨k + 1, M, by omega, by go_num, H, W, O, I⟩
/-- The loop that strikes the words of a segment that is given. -/
def StrikeRel (w : World) (mb sb n B c : Nat) (M M' : MemS) (k BX : Nat) (i : Value) (wr : World) : Prop :=
  ∃ j : Nat, j ≤ 64 ∧ i = .int .i64 j ∧ MemAt wr mb sb n M' ∧ Off [] w wr ∧ IMap wr 29 .u64 B c (giveF M n k j) (giveN M n k j) ∧ wr.cell? ⟨BX, 1, none⟩ = some (.int .i64 (k : Int))
/-- The loop that notes the words that are newly used. -/
def NoteRel (w : World) (mb sb n B c : Nat) (M M' : MemS) (k BX b : Nat) (i : Value) (wr : World) : Prop :=
  ∃ j : Nat, j ≤ b ∧ i = .int .i64 j ∧ MemAt wr mb sb n M' ∧ Off [] w wr ∧ IMap wr 29 .u64 B (c + j) (bumpF M n k j) (wordN M.S n + j) ∧ wr.cell? ⟨BX, 2, none⟩ = some (.int .i64 (b : Int))

/-- The loop over the map. -/
def RangeRel (w : World) (mb sb n B r c : Nat) (M : MemS) (D : DataW Unit) (wr : World) : Prop :=
  ∃ (left : Lit → Bool) (cnt : Nat), wr.ranges Try.prog 3 (plainElem Try.prog 29) B r c D left cnt ∧ MemAt wr mb sb n M ∧ Off [] w wr
/-- The loop over those that Taken tells: the sum. -/
def SumRel (w : World) (mb sb n B c : Nat) (M : MemS) (T : List Nat) (tb to : Nat) (s i : Value) (wr : World) : Prop :=
  ∃ j : Nat, j ≤ T.length ∧ i = .int .i64 j ∧ s = .int .i64 (sumN M (T.take j) : Nat) ∧ MemAt wr mb sb n M ∧ Off [] w wr ∧ IMap wr 29 .u64 B c (wordF M n) (wordN M.S n) ∧ ∀ i, (hi : i < T.length) → wr.cell? ⟨tb, to + i, none⟩ = some (.int .i64 (T[i] : Int))
theorem SumRel.next {w wr : World} {mb sb n B c j tb to : Nat} {M : MemS} {T : List Nat} (hj : j < T.length) (hn : (M.S T[j]).taken ≠ 0) (h0 : 0 ≤ (M.S T[j]).n) (H : MemAt wr mb sb n M) (O : Off [] w wr) (I : IMap wr 29 .u64 B c (wordF M n) (wordN M.S n)) (hc : ∀ i, (hi : i < T.length) → wr.cell? ⟨tb, to + i, none⟩ = some (.int .i64 (T[i] : Int))) :
    SumRel w mb sb n B c M T tb to (.int .i64 ((sumN M (T.take j) : Nat) + (M.S T[j]).n)) (.int .i64 ((j : Int) + 1)) wr :=
  ⟨j + 1, by omega, by go_num, by
    rw [sumN_take hj]
    have : usedN (M.S T[j]) = (M.S T[j]).n.toNat := by simp [usedN, hn]
    rw [this]
    congr 1
    omega, H, O, I, hc⟩

set_option maxHeartbeats 2000000 in
set_option maxRecDepth 100000 in
theorem words_true (limit : Int) (a : Option Addr) (len cap : Nat) (X : Nat → ActS) (w : World) (hX : ActsAt w a len X) (hlen : len ≤ 300) (n : Nat) (hx : limit = n) (h1 : 8 ≤ n) (h2 : n ≤ 1024) :
    Calls Try.prog 4 #[.int .i64 limit, .slice a len cap] w fun e w' => e = .returned (.bool true) ∧ Off [] w w' := by
  subst hx
  have hnn : 0 < n := by omega
  have l1 : ¬ (300 : Int) < (len : Int) := by omega
  have hmm := @run_makeMap Try.prog
  go_enter Try.func4, Try.ntmps4
  go_wp2_with fail
  refine (new_ok _ n w rfl (by omega) (by omega)).mono ?_
  rintro e w1 ⟨rfl, H, O⟩
  have hmb : w.heap.size ≤ w.heap.size + 1 := by omega
  have hsb : w.heap.size ≤ w.heap.size := by omega
  generalize w.heap.size + 1 = mb at H hmb ⊢
  generalize hs : w.heap.size = sb at H ⊢
  have Hs := Lib.hid hs
  have H1 := Lib.hid H
  have O1 := Lib.hid O
  have hB1 := H.mb_lt
  have hB2 := H.sb_lt hnn
  have hB3 := O.size
  clear hs H O
  go_wp2_with fail
  have I1 := Lib.hid (IMap.made w1 29 .u64)
  have H1' := Lib.hid (H1.out.alloc hnn (.map #[] 0))
  have O1' := Lib.hid (O1.out.alloc (.map #[] 0))
  generalize w1.alloc (.map #[] 0) = w2 at I1 H1' O1' ⊢
  generalize w1.heap.size = B at I1 hB1 hB2 hB3 ⊢
  have hL := Lib.hid (show ∀ x, x ∈ [mb, sb] → x ∈ ([] : List Nat) ∨ w.heap.size ≤ x from fun x hx => .inr (by have := Hs.out; simp at hx; rcases hx with rfl | rfl <;> omega))
  have hLB := Lib.hid (show ∀ x, x ∈ [B] → x ∈ ([] : List Nat) ∨ w.heap.size ≤ x from fun x hx => .inr (by simp at hx; omega))
  have hBn := Lib.hid (show B ∉ [mb, sb] by simp; omega)
  have hmB := Lib.hid (show mb ∉ [B] by simp; omega)
  have hsB := Lib.hid (show sb ∉ [B] by simp; omega)
  go_loopw [8] (fun i wr => WordsRel w mb sb n len B i wr) (fun i _ => len - (intOf i).toNat)
  case atStart => exact ⟨0, _, by omega, rfl, H1'.out, Wf.made n, O1'.out, I1.out.congr (fun x => by unfold wordF; rw [if_neg (fun h => h.2.2.1 rfl)]) (by
    have : ∀ m, 0 = wordN (MemS.made n).S m := fun m => by
      induction m with
      | zero => rfl
      | succ m ih => simp only [wordN, ← ih]; rfl
    exact this n)⟩
  case round =>
    obtain ⟨k, M, hk, rfl, H, W, O, I⟩ := hrel
    have hq1 := H.mb_lt
    have hq2 := H.sb_lt hnn
    have hq3 := I.lt
    have hq := Lib.hid (show wr.heap.size ∉ [mb, sb] by simp only [List.mem_cons, List.not_mem_nil, or_false, not_or]; omega)
    have hqB := Lib.hid (show wr.heap.size ∉ [B] by simp; omega)
    have HH := Lib.hid H
    have WW := Lib.hid W
    have OO := Lib.hid O
    have IM := Lib.hid I
    clear H W O I
    by_cases hlt : k < len
    · obtain ⟨b, o, ha, hXX⟩ := hX
      cases (ha (by omega))
      obtain ⟨hc, hok⟩ := hXX k hlt
      have HXX := Lib.hid hXX
      clear hXX ha
      generalize X k = x at hc hok
      obtain ⟨d, xa, xb, xc, xw⟩ := x
      obtain ⟨ba0, ba1, bb0, bb1, bc0, bc1, bw0, bw1⟩ := hok
      simp only [] at ba0 ba1 bb0 bb1 bw0 bw1
      have c0 := OO.out.cell (hc 0 (by omega)) (by simp)
      have c1 := OO.out.cell (hc 1 (by omega)) (by simp)
      have c2 := OO.out.cell (hc 2 (by omega)) (by simp)
      have c3 := OO.out.cell (hc 3 (by omega)) (by simp)
      have c4 := OO.out.cell (hc 4 (by omega)) (by simp)
      simp only [ActS.cellOf, Nat.add_zero] at c0 c1 c2 c3 c4
      clear hc
      by_cases e0 : d = 0
      · have f0 : (d == 0) = true := beq_iff_eq.2 e0
        have He0 := Lib.hid e0
        clear e0
        go_wp2_with fail
        refine (take_all (HH.out.alloc hnn _) WW.out hnn h2 (by omega) xa xb).mono ?_
        rintro e w2 ⟨r, s, M', rfl, hT', H2', W2', O2'⟩
        have I2 := Lib.hid (show IMap w2 29 .u64 B (65 * (k + 1)) (wordF M' n) (wordN M'.S n) from by
          have I2 := ((IM.out.off ((Off.refl [] _).alloc _) (by simp)).off O2' hBn.out).mono (show 65 * k ≤ 65 * (k + 1) by omega)
          rcases hT' with ⟨_, k0, _, hk0, hkf, _, _, _, _, _, hM⟩ | ⟨_, _, hM, _⟩ | ⟨_, _, hM, _⟩
          · subst hM; exact I2.congr (fun x => (wordF_take hk0 hkf xa xb x).symm) (wordN_take hk0 hkf xa xb).symm
          · subst hM; exact I2
          · subst hM; exact I2)
        have H2 := Lib.hid H2'
        have W2 := Lib.hid W2'
        have OO2 := Lib.hid ((OO.out.alloc _).trans_new O2' hL.out)
        clear hT' H2' W2' O2'
        go_wp2_with fail
        go_roundw
        case rel => exact WordsRel.next hlt H2.out W2.out OO2.out I2.out
        case measure => simp [intOf]; omega
      by_cases e1 : d = 1
      · have f1 : (d == 1) = true := beq_iff_eq.2 e1
        have f0 : (d == 0) = false := beq_eq_false_iff_ne.2 e0
        have He1 := Lib.hid e1
        clear e1 e0
        go_wp2_with fail
        refine (give_all (HH.out.alloc hnn _) WW.out hnn h2 xa).mono ?_
        rintro e w2 ⟨s, M', rfl, hG, H2', W2', O2'⟩
        have I2 := Lib.hid ((IM.out.off ((Off.refl [] _).alloc _) (by simp)).off O2' hBn.out)
        have d1 : w2.cell? ⟨wr.heap.size, 1, none⟩ = some (.int .i64 xa) := O2'.cell (by simp) hq.out
        have H2 := Lib.hid H2'
        have W2 := Lib.hid W2'
        have OO2 := Lib.hid ((OO.out.alloc _).trans_new O2' hL.out)
        clear H2' W2' O2'
        rcases hG with ⟨hs, ht, hM⟩ | ⟨hs, _, hM⟩
        · subst hs hM
          obtain ⟨t1, t2, t3⟩ := ht
          obtain ⟨ka, rfl⟩ := Int.eq_ofNat_of_zero_le t1
          rw [Int.toNat_natCast] at t3 H2 W2
          have T3 := Lib.hid t3
          have hka : ka < n := by omega
          clear t3
          have D1 := Lib.hid d1
          clear d1
          go_wp2_with fail
          go_loopw [10] (fun i wr2 => StrikeRel w mb sb n B (65 * k) M (M.give ka) ka wr.heap.size i wr2) (fun i _ => 64 - (intOf i).toNat)
          case atStart => exact ⟨0, by omega, rfl, H2.out, OO2.out, I2.out.congr (giveF_zero M n ka) (by simp [giveN]), D1.out⟩
          case round =>
            obtain ⟨j, hj, rfl, H3', O3', I3', d1⟩ := hrel
            have H3 := Lib.hid H3'
            have OO3 := Lib.hid O3'
            have I3 := Lib.hid I3'
            clear H3' O3' I3'
            by_cases hjl : j < 64
            · have hwf := Lib.hid (show (kI ((ka : Int) * 64 + j)).wf = true from WalkArith.wf_i64 (by omega))
              go_wp2_with (at_delete; refine imap_del I3.out 42 Try.underlying42 rfl _ _ rfl (by rfl) _ (by rfl) hwf.out ?_; intro w4 I4 O4; have I4' := Lib.hid I4; have O4' := Lib.hid O4; clear I4 O4)
              have d1' := Lib.hid (O4'.out.cell d1 hqB.out)
              have H4 := Lib.hid (H3.out.off hnn O4'.out hmB.out hsB.out)
              have OO4 := Lib.hid (OO3.out.trans_new O4'.out hLB.out)
              go_roundw
              case rel => exact ⟨j + 1, by omega, by go_num, H4.out, OO4.out, I4'.out.congr (giveF_step M n ka j hjl) (giveN_step WW.out hka T3.out j hjl), d1'.out⟩
              case measure => simp [intOf]; omega
            · obtain rfl : j = 64 := by omega
              clear hjl
              go_wp2_with fail
              go_roundw
              case rel => exact WordsRel.next hlt H3.out (W2.out.mono (by omega)) OO3.out ((I3.out.congr (giveF_end hka) (giveN_end WW.out hka T3.out)).mono (by omega))
              case measure => simp [intOf]; omega
        · subst hs hM
          clear d1
          go_wp2_with fail
          go_roundw
          case rel => exact WordsRel.next hlt H2.out (W2.out.mono (by omega)) OO2.out (I2.out.mono (by omega))
          case measure => simp [intOf]; omega
      by_cases e2 : d = 2
      · have f0 : (d == 0) = false := beq_eq_false_iff_ne.2 e0
        have f1 : (d == 1) = false := beq_eq_false_iff_ne.2 e1
        have f2 : (d == 2) = true := beq_iff_eq.2 e2
        have He2 := Lib.hid e2
        clear e0 e1 e2
        go_wp2_with fail
        refine (bump_all (HH.out.alloc hnn _) WW.out h2 xa xb).mono ?_
        rintro e w2 ⟨r, s, M', rfl, hG, H2', W2', O2'⟩
        have I2 := Lib.hid ((IM.out.off ((Off.refl [] _).alloc _) (by simp)).off O2' hBn.out)
        have d1 : w2.cell? ⟨wr.heap.size, 2, none⟩ = some (.int .i64 xb) := O2'.cell (by simp) hq.out
        have H2 := Lib.hid H2'
        have W2 := Lib.hid W2'
        have OO2 := Lib.hid ((OO.out.alloc _).trans_new O2' hL.out)
        clear H2' W2' O2'
        rcases hG with ⟨hs, ht, hb0, hb1, hr, hM⟩ | ⟨hs, hr, _, hM⟩ | ⟨hs, hr, _, _, hM⟩ | ⟨hs, hr, _, _, _, hM⟩
        · subst hs hM hr
          obtain ⟨t1, t2, t3⟩ := ht
          obtain ⟨ka, rfl⟩ := Int.eq_ofNat_of_zero_le t1
          obtain ⟨bb, rfl⟩ := Int.eq_ofNat_of_zero_le (show 0 ≤ xb by omega)
          rw [Int.toNat_natCast] at t3 H2 W2 hb1 ⊢
          have T3 := Lib.hid t3
          have hka : ka < n := by omega
          obtain ⟨hN0, hN1⟩ := WW.out.used ka hka
          clear t3
          have D1 := Lib.hid d1
          clear d1
          go_wp2_with fail
          go_loopw [13] (fun i wr2 => NoteRel w mb sb n B (65 * k) M (M.bump ka bb) ka wr.heap.size bb i wr2) (fun i _ => bb - (intOf i).toNat)
          case atStart => exact ⟨0, by omega, rfl, H2.out, OO2.out, I2.out.congr (bumpF_zero M n ka) rfl, D1.out⟩
          case round =>
            obtain ⟨j, hj, rfl, H3', O3', I3', d1⟩ := hrel
            have H3 := Lib.hid H3'
            have OO3 := Lib.hid O3'
            have I3 := Lib.hid I3'
            clear H3' O3' I3'
            by_cases hjl : j < bb
            · have hwf := Lib.hid (show (kI ((ka : Int) * 64 + (M.S ka).n + j)).wf = true from WalkArith.wf_i64 (by omega))
              have HNO := Lib.hid (bumpF_new WW.out hka j (by omega))
              go_wp2_with (first
                | (at_lookup; refine imap_look_ok I3.out 42 Try.underlying42 Try.underlying29 zero29 rfl _ _ rfl (by rfl) _ (by rfl) hwf.out ?_; rw [HNO.out]; simp only [Option.getD_none, Option.isSome_none])
                | (at_mapUpdate; refine imap_put I3.out (by omega) 42 Try.underlying42 Try.underlying29 rfl _ _ _ rfl (by rfl) _ (by rfl) hwf.out 0 (by rfl) (by decide) ?_; intro w4 I4 O4; have I4' := Lib.hid I4; have O4' := Lib.hid O4; clear I4 O4))
              have d1' := Lib.hid (O4'.out.cell d1 hqB.out)
              have H4 := Lib.hid (H3.out.off hnn O4'.out hmB.out hsB.out)
              have OO4 := Lib.hid (OO3.out.trans_new O4'.out hLB.out)
              go_roundw
              case rel => exact ⟨j + 1, by omega, by go_num, H4.out, OO4.out, (I4'.out.congr (bumpF_step WW.out hka j (by omega)) (by rw [HNO.out]; simp; omega)).mono (by omega), d1'.out⟩
              case measure => simp [intOf]; omega
            · obtain rfl : j = bb := by omega
              clear hjl
              go_wp2_with fail
              go_roundw
              case rel => exact WordsRel.next hlt H3.out (W2.out.mono (by omega)) OO3.out ((I3.out.congr (bumpF_end WW.out hka T3.out j (by omega)) (wordN_bump WW.out hka T3.out j).symm).mono (by omega))
              case measure => simp [intOf]; omega
        · subst hs hM hr
          clear d1
          go_wp2_with fail
          go_roundw
          case rel => exact WordsRel.next hlt H2.out (W2.out.mono (by omega)) OO2.out (I2.out.mono (by omega))
          case measure => simp [intOf]; omega
        · subst hs hM hr
          clear d1
          go_wp2_with fail
          go_roundw
          case rel => exact WordsRel.next hlt H2.out (W2.out.mono (by omega)) OO2.out (I2.out.mono (by omega))
          case measure => simp [intOf]; omega
        · subst hs hM hr
          clear d1
          go_wp2_with fail
          go_roundw
          case rel => exact WordsRel.next hlt H2.out (W2.out.mono (by omega)) OO2.out (I2.out.mono (by omega))
          case measure => simp [intOf]; omega
      by_cases e3 : d = 3
      · have f0 : (d == 0) = false := beq_eq_false_iff_ne.2 e0
        have f1 : (d == 1) = false := beq_eq_false_iff_ne.2 e1
        have f2 : (d == 2) = false := beq_eq_false_iff_ne.2 e2
        have f3 : (d == 3) = true := beq_iff_eq.2 e3
        have He3 := Lib.hid e3
        clear e0 e1 e2 e3
        have hwf := Lib.hid (show (kI xa).wf = true from WalkArith.wf_i64 (by omega))
        have hww := Lib.hid (show (Lit.int .u64 xw).wf = true from WalkArith.wf_u64 (by omega))
        have IA := Lib.hid (IM.out.off ((Off.refl [] _).alloc (.cells #[.int .i64 d, .int .i64 xa, .int .i64 xb, .int .i64 xc, .int .u64 xw] 31)) (by simp))
        by_cases hw : M.hasWord n xa
        · have HW := Lib.hid hw
          have HF := Lib.hid (wordF_some hw)
          clear hw
          go_wp2_with (at_lookup; refine imap_look_ok IA.out 42 Try.underlying42 Try.underlying29 zero29 rfl _ _ rfl (by rfl) _ (by rfl) hwf.out ?_; rw [HF.out]; simp only [Option.getD_some, Option.isSome_some])
          refine (write_some (HH.out.alloc hnn _) h2 xa xw (by omega) HW.out).mono ?_
          rintro e w2 ⟨rfl, H2', O2'⟩
          have I2 := Lib.hid (IA.out.off O2' (fun e => hBn.out (by simp at e; simp [e])))
          have d1 : w2.cell? ⟨wr.heap.size, 1, none⟩ = some (.int .i64 xa) := O2'.cell (by simp) (fun e => hq.out (by simp at e; simp [e]))
          have d4 : w2.cell? ⟨wr.heap.size, 4, none⟩ = some (.int .u64 xw) := O2'.cell (by simp) (fun e => hq.out (by simp at e; simp [e]))
          have H2 := Lib.hid (show MemAt w2 mb sb n (M.write xa xw) from H2')
          have W2 := Lib.hid (WW.out.write xw HW.out)
          have OO2 := Lib.hid ((OO.out.alloc _).trans_new O2' (fun x hx => hL.out x (by simp at hx; simp [hx])))
          clear H2' O2'
          go_wp2_with (at_mapUpdate; refine imap_put I2.out (by omega) 42 Try.underlying42 Try.underlying29 rfl _ _ _ rfl (by rfl) _ (by rfl) hwf.out xw (by rfl) hww.out ?_; intro w4 I4 O4; have I4' := Lib.hid I4; have O4' := Lib.hid O4; clear I4 O4)
          have H4 := Lib.hid (H2.out.off hnn O4'.out hmB.out hsB.out)
          have OO4 := Lib.hid (OO2.out.trans_new O4'.out hLB.out)
          go_roundw
          case rel => exact WordsRel.next hlt H4.out (W2.out.mono (by omega)) OO4.out ((I4'.out.congr (wordF_write xw HW.out) (by rw [HF.out]; simp [wordN_write xw HW.out])).mono (by omega))
          case measure => simp [intOf]; omega
        · have HW := Lib.hid hw
          have HF := Lib.hid (wordF_none hw)
          clear hw
          go_wp2_with (at_lookup; refine imap_look_ok IA.out 42 Try.underlying42 Try.underlying29 zero29 rfl _ _ rfl (by rfl) _ (by rfl) hwf.out ?_; rw [HF.out]; simp only [Option.getD_none, Option.isSome_none])
          refine (write_none (HH.out.alloc hnn _) h2 xa xw (by omega) HW.out).mono ?_
          rintro e w2 ⟨rfl, rfl⟩
          go_wp2_with fail
          go_roundw
          case rel => exact WordsRel.next hlt (HH.out.alloc hnn _) (WW.out.mono (by omega)) (OO.out.alloc _) (IA.out.mono (by omega))
          case measure => simp [intOf]; omega
      · have f0 : (d == 0) = false := beq_eq_false_iff_ne.2 e0
        have f1 : (d == 1) = false := beq_eq_false_iff_ne.2 e1
        have f2 : (d == 2) = false := beq_eq_false_iff_ne.2 e2
        have f3 : (d == 3) = false := beq_eq_false_iff_ne.2 e3
        go_wp2_with fail
        go_roundw
        case rel => exact WordsRel.next hlt (HH.out.alloc hnn _) (WW.out.mono (by omega)) (OO.out.alloc _) ((IM.out.off ((Off.refl [] _).alloc _) (by simp)).mono (by omega))
        case measure => simp [intOf]; omega
    · clear hX
      obtain ⟨D, hown, R⟩ := IM.out
      have RR := Lib.hid R
      have HOWN := Lib.hid hown
      clear hown R
      go_wp2_with (at_range; refine wpList_range_own _ rfl _ 42 rfl 3 29 law3 Try.underlying42 _ B (65 * k) _ rfl HOWN.out ?_; intro w0 hrg0 hg0 hs0)
      go_frame
      have RG := Lib.hid hrg0
      have H0 := Lib.hid (HH.out.off hnn (L := []) ⟨hg0.os, hg0.tape, hg0.output, hg0.size, fun k hk _ => hg0.block k hk (by simp)⟩ (by simp) (by simp))
      have OO0 := Lib.hid (OO.out.trans (L := []) ⟨hg0.os, hg0.tape, hg0.output, hg0.size, fun k hk _ => hg0.block k hk (by simp)⟩)
      have hOs := OO.out.size
      clear hrg0 hg0 hs0
      generalize hr : wr.heap.size = r at RG hq hq1 hq2 hq3 hqB hOs ⊢
      have HR := Lib.hid hr
      clear hr
      go_loopw [19] (fun _ wr2 => RangeRel w mb sb n B r (65 * k) M D wr2) (fun _ wr2 => wr2.rangeLeft B r)
      case atStart => exact ⟨_, _, RG.out, H0.out, OO0.out⟩
      case round =>
        obtain ⟨left, cnt, hrg, H3', O3'⟩ := hrel
        have HRG := Lib.hid hrg
        have H3 := Lib.hid H3'
        have OO3 := Lib.hid O3'
        clear hrg H3' O3'
        go_wp2_with (at_next; refine wpList_next_ranges_ii _ rfl _ rfl 3 29 .i64 .u64 law3 Try.underlying3 Try.underlying29 B r (65 * k) _ _ _ rfl HRG.out ?_ ?_)
        · intro _ _
          go_wp2_with fail
          refine (taken_all H3.out WW.out hnn h2).mono ?_
          rintro e w5 ⟨v, T, rfl, hTk, hI, H5', O5'⟩
          have TK := Lib.hid hTk
          have H5 := Lib.hid H5'
          have OO5 := Lib.hid (OO3.out.trans O5')
          have I5 := Lib.hid (IMap.off (f := wordF M n) (sz := wordN M.S n) ⟨D, HRG.out.owns, RR.out⟩ O5' (by simp))
          have hTl := TK.out.len
          obtain ⟨ta, tcap, tb, to, hv, hta, htb, hcell⟩ := hI.form
          have HTA := Lib.hid hta
          have HCELL := Lib.hid hcell
          have hsum := sumN_taken hTk
          have HSUM := Lib.hid hsum
          have hwl := wordN_le WW.out n (Nat.le_refl _)
          subst hv
          clear hTk hI H5' O5' hta htb hcell hsum
          go_wp2_with fail
          go_loopw [23, 25] (fun s i wr2 => SumRel w mb sb n B (65 * k) M T tb to s i wr2) (fun _ i _ => T.length - (intOf i).toNat)
          case atStart => exact ⟨0, by omega, rfl, rfl, H5.out, OO5.out, I5.out, HCELL.out⟩
          case round =>
            obtain ⟨j, hj, rfl, rfl, H6', O6', I6', hcell⟩ := hrel
            have I6 := Lib.hid I6'
            have H6 := Lib.hid H6'
            have OO6 := Lib.hid O6'
            have hsl : sumN M (T.take j) ≤ 64 * 1024 := by
              have := sumN_le WW.out (T.take j) (fun x hx => ((TK.out.mem x).1 (List.mem_of_mem_take hx)).1)
              have : (T.take j).length ≤ j := List.length_take_le _ _
              omega
            clear H6' O6' I6'
            by_cases hjl : j < T.length
            · cases (HTA.out (by omega))
              have hcj := hcell j hjl
              obtain ⟨hit, hin⟩ := isTaken_mem TK.out hjl
              have HIT := Lib.hid hit
              have hu := WW.out.used _ hin
              have HC6 := Lib.hid hcell
              have ht0 := Lib.hid (show (M.S T[j]).taken ≠ 0 from by have := hit.2.2; rwa [Int.toNat_natCast] at this)
              clear hit hcell
              have hnx : ∀ (wz : World), MemAt wz mb sb n M → Off [] w wz → IMap wz 29 .u64 B (65 * k) (wordF M n) (wordN M.S n) → (∀ i, (hi : i < T.length) → wz.cell? ⟨tb, to + i, none⟩ = some (.int .i64 (T[i] : Int))) → SumRel w mb sb n B (65 * k) M T tb to (.int .i64 ((sumN M (T.take j) : Nat) + (M.S T[j]).n)) (.int .i64 ((j : Int) + 1)) wz :=
                fun wz => SumRel.next hjl ht0.out hu.1
              have HNX := Lib.hid hnx
              clear hnx
              generalize T[j] = tj at hcj hin hu HIT ht0 HNX
              obtain ⟨hu0, hu1⟩ := hu
              go_wp2_with fail
              refine (seg_yes' H6.out h2 tj hin _ rfl ht0.out tj rfl).mono ?_
              rintro e w7 ⟨rfl, H7', O7'⟩
              have H7 := Lib.hid H7'
              have OO7 := Lib.hid (OO6.out.trans O7')
              have I7 := Lib.hid (I6.out.off O7' (by simp))
              have HC7 := Lib.hid (show ∀ i, (hi : i < T.length) → w7.cell? ⟨tb, to + i, none⟩ = some (.int .i64 (T[i] : Int)) from fun i hi => O7'.cell (HC6.out i hi) (by simp))
              clear H7' O7'
              go_wp2_with fail
              have hX : ∀ ob, SumRel w mb sb n B (65 * k) M T tb to (.int .i64 ((sumN M (T.take j) : Nat) + (M.S tj).n)) (.int .i64 ((j : Int) + 1)) (w7.alloc ob) := fun ob =>
                HNX.out _ (H7.out.alloc hnn _) (OO7.out.alloc _) (I7.out.off ((Off.refl [] _).alloc _) (by simp)) (fun i hi => by rw [World.cell?_alloc_lt _ _ _ (World.block_lt_of_cell? _ _ (HC7.out i hi))]; exact HC7.out i hi)
              go_roundw
              case rel => first | exact hX _ | ((repeat apply Exists.intro); exact ⟨hX _, rfl⟩)
              case measure => simp [intOf]; omega
            · have hjT : j = T.length := by omega
              have ht : ((((sumN M (T.take j)) : Nat) : Int) == ((wordN M.S n : Nat) : Int)) = true := beq_iff_eq.2 (by rw [hjT, List.take_of_length_le (Nat.le_refl _), HSUM.out])
              clear hjT hcell
              go_wp2_with (at_len; refine imap_len I6.out 42 Try.underlying42 rfl _ rfl (by rfl) ?_)
              refine (awake_true _).mono ?_
              rintro e w13 ⟨rfl, O13⟩
              go_wp2_with fail
              go_ret
              exact ⟨rfl, OO6.out.trans O13⟩
        · intro x c w4 cnt1 hwx hwc hlx hat hrg1 hlt1 hg1 hs1 hen
          have hsome : (wordF M n x).isSome = true := by rw [← RR.out.has]; exact Go.Maps.has_true_of_atKey hat
          have hword := (wordF_has M n x).1 hsome
          have hc : c = (M.S (x / 64).toNat).words (x % 64).toNat := by
            have h1 := hat (.lit (.int .u64 0))
            have h2 := RR.out.at_ x
            rw [wordF_some hword] at h2
            rw [h1] at h2
            simpa using h2
          subst hc
          obtain ⟨bx0, bx1⟩ := bounds_i64 hwx
          have O4' : Off [r] _ w4 := ⟨hg1.os, hg1.tape, hg1.output, hg1.size, fun k hk hn => hg1.block k hk (fun e => hn (by cases e; simp))⟩
          have HW := Lib.hid hword
          have HRG1 := Lib.hid hrg1
          have H4 := Lib.hid (H3.out.off hnn O4' (by simp; omega) (by simp; omega))
          have OO4 := Lib.hid (OO3.out.trans_new O4' (fun x hx => .inr (by simp at hx; omega)))
          have HLT := Lib.hid hlt1
          clear hsome hword hat hrg1 hg1 O4' hlx hwx hwc hs1 hlt1
          have hrd := read_some H4.out h2 x (by omega) HW.out
          have HRD := Lib.hid hrd
          clear hrd
          generalize (M.S (x / 64).toNat).words (x % 64).toNat = cv at hen HRD ⊢
          go_wp2_with fail
          refine HRD.out.mono ?_
          rintro e w6 ⟨rfl, rfl⟩
          go_wp2_with fail
          go_roundw
          case rel => exact ⟨_, _, HRG1.out, H4.out, OO4.out⟩
          case measure => rw [HRG1.out.left_eq, HRG.out.left_eq]; exact HLT.out

set_option maxRecDepth 100000 in
/-- A limit that may not be: no memory. -/
theorem words_arg (limit : Int) (a : Option Addr) (len cap : Nat) (w : World) (hlen : len ≤ 300) (hx : limit < 8 ∨ 1024 < limit) :
    Calls Try.prog 4 #[.int .i64 limit, .slice a len cap] w fun e w' => e = .returned (.bool true) ∧ Off [] w w' := by
  have HX := Lib.hid hx
  clear hx
  go_enter Try.func4, Try.ntmps4
  go_wp2_with fail
  refine (new_arg limit w HX.out).mono ?_
  rintro e w1 ⟨rfl, rfl⟩
  go_wp2_with fail
  refine (awake_true _).mono ?_
  rintro e w' ⟨rfl, O'⟩
  go_wp2_with fail
  go_ret
  exact ⟨rfl, O'⟩
set_option maxRecDepth 100000 in
/-- Too many calls. -/
theorem words_many (limit : Int) (a : Option Addr) (len cap : Nat) (w : World) (hlen : 300 < len) :
    Calls Try.prog 4 #[.int .i64 limit, .slice a len cap] w fun e w' => e = .returned (.bool true) ∧ Off [] w w' := by
  have l1 : (300 : Int) < (len : Int) := by omega
  by_cases hb : limit < 8 ∨ 1024 < limit
  · have HX := Lib.hid hb
    clear hb
    go_enter Try.func4, Try.ntmps4
    go_wp2_with fail
    refine (new_arg limit w HX.out).mono ?_
    rintro e w1 ⟨rfl, rfl⟩
    go_wp2_with fail
    refine (awake_true _).mono ?_
    rintro e w' ⟨rfl, O'⟩
    go_wp2_with fail
    go_ret
    exact ⟨rfl, O'⟩
  · obtain ⟨n, rfl, h1, h2⟩ : ∃ n : Nat, limit = n ∧ 8 ≤ n ∧ n ≤ 1024 := ⟨limit.toNat, by omega, by omega, by omega⟩
    clear hb
    go_enter Try.func4, Try.ntmps4
    go_wp2_with fail
    refine (new_ok _ n w rfl h1 h2).mono ?_
    rintro e w1 ⟨rfl, H, O⟩
    have O1 := Lib.hid O
    clear H O
    go_wp2_with fail
    refine (awake_true _).mono ?_
    rintro e w' ⟨rfl, O'⟩
    go_wp2_with fail
    go_ret
    exact ⟨rfl, O1.out.trans O'⟩

theorem words_law (limit : Int) (a : Option Addr) (len cap : Nat) (X : Nat → ActS) (w : World) (hX : ActsAt w a len X) :
    Calls Try.prog 4 #[.int .i64 limit, .slice a len cap] w fun e w' => e = .returned (.bool true) ∧ Off [] w w' := by
  by_cases hlen : len ≤ 300
  · by_cases hb : limit < 8 ∨ 1024 < limit
    · exact words_arg limit a len cap w hlen hb
    · exact words_true limit a len cap X w hX hlen limit.toNat (by omega) (by omega) (by omega)
  · exact words_many limit a len cap w (by omega)
end Go.Proofs.Ytoafoodgomnfeaa
