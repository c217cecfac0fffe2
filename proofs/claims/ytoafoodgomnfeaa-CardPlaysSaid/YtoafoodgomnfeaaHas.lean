/-
  YtoafoodgomnfeaaHas: is a card among others; does one of a card's words point to a generation or below.
-/
import Derived.Test.YtoafoodgomnfeaaPlayed
namespace Go.Proofs.Ytoafoodgomnfeaa
open Go.RowKit
set_option linter.unusedVariables false

theorem CardsL.form {B : Nat} {w : World} {v : Value} {L : List (Nat × Nat)} (h : CardsL B w v L) : ∃ (a : Option Addr) (cap b : Nat), v = .slice a L.length cap ∧ (0 < L.length → a = some ⟨b, 0, none⟩ ∧ B ≤ b) ∧
    ∀ i, i < L.length → w.cell? ⟨b, i * 2, none⟩ = some (.int .i64 ((L.getD i (0, 0)).1 : Int)) ∧ w.cell? ⟨b, i * 2 + 1, none⟩ = some (.int .i64 ((L.getD i (0, 0)).2 : Int)) := by
  rcases h with ⟨rfl, rfl⟩ | ⟨b, cap, hb, rfl, hc⟩
  · exact ⟨none, 0, 0, rfl, fun h => absurd h (by simp), fun i hi => absurd hi (by simp)⟩
  · exact ⟨_, cap, b, rfl, fun _ => ⟨rfl, hb⟩, hc⟩

set_option maxHeartbeats 1000000 in
theorem has_any {B : Nat} {w : World} {v : Value} {L : List (Nat × Nat)} (h : CardsL B w v L) (hl : L.length ≤ 5000) (k i : Nat) :
    Calls Try.prog 44 #[v, .agg #[.int .i64 k, .int .i64 i]] w fun e w' => e = .returned (.bool (decide ((k, i) ∈ L))) ∧ Off [] w w' := by
  obtain ⟨a, cap, b, rfl, ha, hc⟩ := h.form
  have hA : (w.alloc (.cells #[.int .i64 k, .int .i64 i] 90)).heap[w.heap.size]? = some _ := Array.getElem?_push_size
  have d0 := cell_of_row _ _ 0 _ _ _ hA
  have d1 := cell_of_row _ _ 1 _ _ _ hA
  simp only [List.getElem?_toArray, List.getElem?_cons_zero, List.getElem?_cons_succ] at d0 d1
  have O := Lib.hid ((Off.refl [] w).alloc (.cells #[.int .i64 k, .int .i64 i] 90))
  have HA := Lib.hid ha
  have HC := Lib.hid hc
  have l1 : (L.length : Int) ≤ 5000 := by omega
  clear h ha hc hA
  go_enter Try.func44, Try.ntmps44
  go_wp2_with fail
  generalize w.alloc _ = w1 at d0 d1 O ⊢
  generalize w.heap.size = D at d0 d1 ⊢
  go_loopw [5] (fun v wr => ∃ j : Nat, j ≤ L.length ∧ v = .int .i64 j ∧ Off [] w1 wr ∧ Hid (∀ x, x < j → L.getD x (0, 0) ≠ (k, i))) (fun v _ => L.length - (intOf v).toNat)
  case atStart => exact ⟨0, by omega, rfl, Off.refl _ _, fun x hx => absurd hx (by omega)⟩
  case round =>
    obtain ⟨j, hj, rfl, OR, hno⟩ := hrel
    have hd0 := OR.cell d0 (by simp)
    have hd1 := OR.cell d1 (by simp)
    have ORh := Lib.hid OR
    clear OR
    by_cases hlt : j < L.length
    · obtain ⟨c0, c1⟩ := HC.out j hlt
      have c0 := ORh.out.cell (O.out.cell c0 (by simp)) (by simp)
      have c1 := ORh.out.cell (O.out.cell c1 (by simp)) (by simp)
      obtain ⟨rfl, _⟩ := HA.out (by omega)
      have q0 : (0 : Int) ≤ (j : Int) := by omega
      have q1 : (j : Int) < (L.length : Int) := by omega
      obtain ⟨x, y, hxy⟩ : ∃ x y, L.getD j (0, 0) = (x, y) := ⟨_, _, rfl⟩
      rw [hxy] at c0 c1
      have HXY := Lib.hid hxy
      simp only at c0 c1
      clear hxy
      by_cases hk : (x : Int) = k
      · have e1 : ((x : Int) == (k : Int)) = true := beq_iff_eq.2 hk
        by_cases hi : (y : Int) = i
        · have e2 : ((y : Int) == (i : Int)) = true := beq_iff_eq.2 hi
          have HKI := Lib.hid (And.intro hk hi)
          clear hk hi
          go_wp2_with fail
          go_quiet (fail)
          go_wp2_with fail
          go_ret
          refine ⟨?_, O.out.trans (ORh.out.drewN _)⟩
          have hm : (k, i) ∈ L := by
            have h1 := HXY.out
            rw [List.getD, List.getElem?_eq_getElem hlt] at h1
            have h2 : x = k := by have := HKI.out.1; omega
            have h3 : y = i := by have := HKI.out.2; omega
            subst h2 h3
            rw [← show L[j] = (x, y) from h1]
            exact List.getElem_mem hlt
          simp [hm]
        · have e2 : ((y : Int) == (i : Int)) = false := beq_eq_false_iff_ne.2 hi
          have HI := Lib.hid hi
          clear hk hi
          go_wp2_with fail
          go_quiet (fail)
          go_wp2_with fail
          go_roundw
          case rel =>
            refine ⟨j + 1, by omega, by go_num, ORh.out.drewN _, fun x' hx' => ?_⟩
            by_cases e : x' = j
            · subst e; rw [HXY.out]; intro h; cases h; exact HI.out rfl
            · exact hno.out x' (by omega)
          case measure => simp [intOf]; omega
      · have e1 : ((x : Int) == (k : Int)) = false := beq_eq_false_iff_ne.2 hk
        have HK := Lib.hid hk
        clear hk
        go_wp2_with fail
        go_quiet (fail)
        go_wp2_with fail
        go_roundw
        case rel =>
          refine ⟨j + 1, by omega, by go_num, ORh.out.drewN _, fun x' hx' => ?_⟩
          by_cases e : x' = j
          · subst e; rw [HXY.out]; intro h; cases h; exact HK.out rfl
          · exact hno.out x' (by omega)
        case measure => simp [intOf]; omega
    · go_wp2_with fail
      go_ret
      refine ⟨?_, O.out.trans ORh.out⟩
      have : ¬ (k, i) ∈ L := fun hm => by
        obtain ⟨x, hx, e⟩ := List.getElem_of_mem hm
        exact hno.out x (by omega) (by rw [List.getD, List.getElem?_eq_getElem hx]; exact e)
      simp [this]

/-- A word points to a generation of g or below. -/
def ptW (n : Nat) (M : MemS) (v g : Int) : Bool := match genOf n M v with | some h => decide (h ≤ g) | none => false
/-- One of a card's words points to a generation of g or below. -/
def pointsB (n : Nat) (M : MemS) (s : SegS) (c : Nat) (g : Int) : Bool := decide (s.kind ≠ 3) && (List.range (cntW s.n c)).any fun i => ptW n M (s.words (16 * c + i)) g

theorem pointsB_no {n : Nat} {M : MemS} {s : SegS} {c : Nat} {g : Int} (h : ∀ i, i < cntW s.n c → ptW n M (s.words (16 * c + i)) g = false) : pointsB n M s c g = false := by
  unfold pointsB
  rw [Bool.and_eq_false_iff]
  refine .inr (List.any_eq_false.2 fun i hi => ?_)
  rw [h i (List.mem_range.1 hi)]
  simp
theorem pointsB_data {n : Nat} {M : MemS} {s : SegS} {c : Nat} {g : Int} (h : s.kind = 3) : pointsB n M s c g = false := by simp [pointsB, h]
theorem pointsB_yes {n : Nat} {M : MemS} {s : SegS} {c i : Nat} {g : Int} (hk : s.kind ≠ 3) (hi : i < cntW s.n c) (h : ptW n M (s.words (16 * c + i)) g = true) : pointsB n M s c g = true := by
  unfold pointsB
  rw [Bool.and_eq_true]
  exact ⟨decide_eq_true hk, List.any_eq_true.2 ⟨i, List.mem_range.2 hi, h⟩⟩

set_option maxHeartbeats 1000000 in
theorem points_any {w : World} {cb pb mb sb n : Nat} {M : MemS} {C : Nat → Int} (h : CardAt w cb pb mb sb n M C) (hn0 : 0 < n) (hn : n ≤ 1024) (k c : Nat) (hk : k < n) (hc : c < 4) (ht : (M.S k).taken ≠ 0) (hu0 : 0 ≤ (M.S k).n) (hu : (M.S k).n ≤ 64)
    (K : SegKc (M.S k)) (g : Int) :
    Calls Try.prog 43 #[.pointer (some ⟨cb, 0, none⟩), .agg #[.int .i64 (M.S k).gen, .int .i64 (M.S k).kind, .int .i64 (M.S k).n, .int .i64 (M.S k).c0, .int .i64 (M.S k).c1, .int .i64 (M.S k).c2, .int .i64 (M.S k).c3], .int .i64 k, .int .i64 c, .int .i64 g] w
      fun e w' => e = .returned (.bool (pointsB n M (M.S k) c g)) ∧ Off [] w w' := by
  have hrd : ∀ W', MemAt W' mb sb n M → ∀ i : Nat, i < cntW (M.S k).n c → Calls Try.prog 21 #[.pointer (some ⟨mb, 0, none⟩), .int .i64 (64 * k + (16 * c + i))] W' fun e w' => e = .returned (.tuple #[.int .u64 ((M.S k).words (16 * c + i)), .int .i64 0]) ∧ W' = w' := fun W' H i hi => by
    have hi2 : i < 16 ∧ 16 * c + i < (M.S k).n := by unfold cntW at hi; omega
    have e1 : ((64 * (k : Int) + (16 * c + i)) / 64).toNat = k := by omega
    have e2 : ((64 * (k : Int) + (16 * c + i)) % 64).toNat = 16 * c + i := by omega
    have hx : M.hasWord n (64 * (k : Int) + (16 * c + i)) := ⟨by omega, ⟨by omega, by omega, by rw [e1]; exact ht⟩, by rw [e1]; omega⟩
    have := read_some H hn (64 * (k : Int) + (16 * c + i)) (by omega) hx
    rw [e1, e2] at this
    exact this
  have hgn : ∀ W', CardAt W' cb pb mb sb n M C → ∀ j, _ := fun W' H j => gen_any H hn0 hn ((M.S k).words j) (K.word j).1 (K.word j).2
  have hpd : (M.S k).kind = 3 → pointsB n M (M.S k) c g = false := pointsB_data
  have hpn : (∀ i, i < cntW (M.S k).n c → ptW n M ((M.S k).words (16 * c + i)) g = false) → pointsB n M (M.S k) c g = false := pointsB_no
  have hpy : ∀ i, (M.S k).kind ≠ 3 → i < cntW (M.S k).n c → ptW n M ((M.S k).words (16 * c + i)) g = true → pointsB n M (M.S k) c g = true := fun i h1 h2 h3 => pointsB_yes h1 h2 h3
  have hcn : ∀ i, i < cntW (M.S k).n c ↔ i < 16 ∧ 16 * (c : Int) + i < (M.S k).n := fun i => by unfold cntW; omega
  generalize cntW (M.S k).n c = cnt at hrd hpn hpy hcn
  generalize pointsB n M (M.S k) c g = ans at *
  generalize M.S k = s at *
  obtain ⟨gen, kind, nn, c0, c1, c2, c3, t, ws⟩ := s
  have hh := Lib.hid h
  have Hrd := Lib.hid hrd
  have Hgn := Lib.hid hgn
  have Hpd := Lib.hid hpd
  have Hpn := Lib.hid hpn
  have Hpy := Lib.hid hpy
  have Hcn := Lib.hid hcn
  simp only at ht hu0 hu
  have hA : (w.alloc (.cells #[.int .i64 gen, .int .i64 kind, .int .i64 nn, .int .i64 c0, .int .i64 c1, .int .i64 c2, .int .i64 c3] 37)).heap[w.heap.size]? = some _ := Array.getElem?_push_size
  have d1 := cell_of_row _ _ 1 _ _ _ hA
  have d2 := cell_of_row _ _ 2 _ _ _ hA
  simp only [List.getElem?_toArray, List.getElem?_cons_zero, List.getElem?_cons_succ] at d1 d2
  have O := Lib.hid ((Off.refl [] w).alloc (.cells #[.int .i64 gen, .int .i64 kind, .int .i64 nn, .int .i64 c0, .int .i64 c1, .int .i64 c2, .int .i64 c3] 37))
  have H1 := Lib.hid (h.off hn0 O.out (by simp) (by simp) (by simp) (by simp))
  have q0 : (0 : Int) ≤ (c : Int) := by omega
  have q1 : (c : Int) ≤ 3 := by omega
  have q2 : (0 : Int) ≤ (k : Int) := by omega
  have q3 : (k : Int) ≤ 1024 := by omega
  clear h hrd hgn hpd hpn hpy hcn hA K ht
  go_enter Try.func43, Try.ntmps43
  go_wp2_with fail
  generalize w.alloc _ = w1 at d1 d2 O H1 ⊢
  generalize w.heap.size = D at d1 d2 ⊢
  go_loopw [11] (fun v wr => ∃ i : Nat, i ≤ cnt ∧ v = .int .i64 (16 * (c : Int) + i) ∧ Off [] w1 wr ∧ Hid (∀ x, x < i → ptW n M (ws (16 * c + x)) g = false)) (fun v _ => 200 - (intOf v).toNat)
  case atStart => exact ⟨0, by omega, by go_num, Off.refl _ _, fun x hx => absurd hx (by omega)⟩
  case round =>
    obtain ⟨i, hi, rfl, OR, hno⟩ := hrel
    have hd1 := OR.cell d1 (by simp)
    have hd2 := OR.cell d2 (by simp)
    have HC := Lib.hid (H1.out.off hn0 OR (by simp) (by simp) (by simp) (by simp))
    have p1 := HC.out.ptr
    have p2 := HC.out.sp.ptr
    have ORh := Lib.hid OR
    clear OR
    by_cases hk3 : kind = 3
    · have e3 : (kind != 3) = false := by simp [hk3]
      have ha := Hpd.out hk3
      subst ha
      clear hk3
      by_cases hi16 : i < 16
      · by_cases hin : 16 * (c : Int) + i < nn
        · go_wp2_with fail
          go_ret
          exact ⟨rfl, O.out.trans ORh.out⟩
        · have hin' : nn ≤ 16 * (c : Int) + i := by omega
          clear hin
          go_wp2_with fail
          go_ret
          exact ⟨rfl, O.out.trans ORh.out⟩
      · go_wp2_with fail
        go_ret
        exact ⟨rfl, O.out.trans ORh.out⟩
    have e3 : (kind != 3) = true := by simp [hk3]
    have HK3 := Lib.hid hk3
    clear hk3
    by_cases hlt : i < cnt
    · obtain ⟨hi16, hin⟩ := (Hcn.out i).1 hlt
      have hptd : ptW n M (ws (16 * c + i)) g = (match genOf n M (ws (16 * c + i)) with | some h => decide (h ≤ g) | none => false) := rfl
      have HPT := Lib.hid hptd
      have hrc := Lib.hid (Hrd.out wr HC.out.sp.mem i hlt)
      have hgc := Lib.hid (Hgn.out wr HC.out (16 * c + i))
      clear hptd
      generalize hv : ws (16 * c + i) = v at hrc hgc HPT
      have HV := Lib.hid hv
      generalize genOf n M v = o at hgc HPT
      clear hv
      go_wp2_with fail
      refine hrc.out.mono ?_
      rintro e w2 ⟨rfl, rfl⟩
      go_wp2_with fail
      refine hgc.out.mono ?_
      rintro e w2 ⟨rfl, O2⟩
      have OO2 := Lib.hid (ORh.out.trans O2)
      have k1 := O2.cell hd1 (by simp)
      have k2 := O2.cell hd2 (by simp)
      clear O2 hd1 hd2 p1 p2
      cases o with
      | none =>
        simp only [Option.getD_none, Option.isSome_none]
        simp only at HPT
        go_wp2_with fail
        go_roundw
        case rel =>
          refine ⟨i + 1, by omega, by go_num, OO2.out, fun x hx => ?_⟩
          by_cases e : x = i
          · subst e; rw [HV.out]; exact HPT.out
          · exact hno.out x (by omega)
        case measure => simp [intOf]; omega
      | some gg =>
        simp only [Option.getD_some, Option.isSome_some]
        simp only at HPT
        by_cases hg : gg ≤ g
        · have HG := Lib.hid hg
          go_wp2_with fail
          go_ret
          have ha := Hpy.out i HK3.out hlt (by rw [HV.out, HPT.out]; exact decide_eq_true HG.out)
          exact ⟨by rw [ha]; rfl, O.out.trans OO2.out⟩
        · have HG := Lib.hid hg
          have hg' : decide (gg ≤ g) = false := decide_eq_false hg
          clear hg
          go_wp2_with fail
          go_roundw
          case rel =>
            refine ⟨i + 1, by omega, by go_num, OO2.out, fun x hx => ?_⟩
            by_cases e : x = i
            · subst e; rw [HV.out, HPT.out]; exact decide_eq_false HG.out
            · exact hno.out x (by omega)
          case measure => simp [intOf]; omega
    · obtain rfl : i = cnt := by omega
      have ha := Hpn.out (fun x hx => hno.out x hx)
      subst ha
      have hb : ¬ (i < 16 ∧ 16 * (c : Int) + i < nn) := fun h => absurd ((Hcn.out i).2 h) (by omega)
      by_cases hi16 : i < 16
      · have hin' : nn ≤ 16 * (c : Int) + i := by omega
        clear hb hlt
        go_wp2_with fail
        go_ret
        exact ⟨rfl, O.out.trans ORh.out⟩
      · clear hb hlt
        go_wp2_with fail
        go_ret
        exact ⟨rfl, O.out.trans ORh.out⟩
end Go.Proofs.Ytoafoodgomnfeaa
