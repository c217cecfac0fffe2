/-
  YtoafoodgomnfeaaCof: what a word stands for, by the document: func 97, func 111.
  YtoafoodgomnfeaaCboth: the program's cards and the document's side by side.
  YtoafoodgomnfeaaCgen: Gen of the document's cards.
-/
import Derived.Test.YtoafoodgomnfeaaSdoes
import Derived.Test.YtoafoodgomnfeaaSplays
namespace Go.Proofs.Ytoafoodgomnfeaa
open Go.RowKit
set_option linter.unusedVariables false

/-- Twice, so many times, in 64 bits. -/
def powW : Nat → Int
  | 0 => 1
  | k + 1 => IntKind.u64.wrap (powW k * 2)
theorem power_any (n : Nat) (hn : n ≤ 100) (w : World) : Calls Try.prog 111 #[.int .i64 n] w fun e w' => e = .returned (.int .u64 (powW n)) ∧ w = w' := by
  go_enter Try.func111, Try.ntmps111
  go_wp2_with fail
  go_loop [3, 4] (fun x i => ∃ k : Nat, k ≤ n ∧ i = .int .i64 k ∧ x = .int .u64 (powW k)) (fun _ i => n - (intOf i).toNat)
  case atStart => exact ⟨0, by omega, rfl, rfl⟩
  case round =>
    obtain ⟨k, hk, rfl, rfl⟩ := hrel
    by_cases hlt : k < n
    · have hs : powW (k + 1) = IntKind.u64.wrap (powW k * 2) := rfl
      generalize powW k = p at *
      have HS := Lib.hid hs
      clear hs
      go_wp2
      go_round
      case rel => exact ⟨k + 1, by omega, by go_num, by rw [HS.out]⟩
      case measure => simp [intOf]; omega
    · obtain rfl : k = n := by omega
      go_wp2
      go_ret
      exact ⟨rfl, rfl⟩

/-- A thing that is no address. -/
def NoAddr (v : Value) : Prop := ∃ k t a x m : Int, k ≠ 2 ∧ v = .agg #[.int .i64 k, .int .i64 t, .int .i64 a, .int .i64 x, .int .u64 m]
set_option maxRecDepth 100000 in
theorem of_yes (v : Int) (w : World) (h0 : 0 ≤ v) (h1 : v ≤ 18446744073709551615) (h : isAddr v = true) :
    Calls Try.prog 97 #[.int .u64 v] w fun e w' => e = .returned (.agg #[.int .i64 2, .int .i64 (v % 8), .int .i64 (v / 8), .int .i64 0, .int .u64 0]) ∧ Off [] w w' := by
  unfold isAddr at h
  rw [Bool.and_eq_true] at h
  obtain ⟨ha, hb⟩ := h
  have ht : v % 8 = 1 ∨ v % 8 = 2 ∨ v % 8 = 3 ∨ v % 8 = 6 := by have := of_decide_eq_true ha; omega
  have hlt := of_decide_eq_true hb
  clear ha hb
  obtain h | h | h | h := ht
  all_goals (
    rw [h]
    have r0 : (0 : Int) ≤ v / 8 := by omega
    go_enter Try.func97, Try.ntmps97
    go_wp2
    exact bodyPost_ret (v := .agg #[.int .i64 2, .int .i64 _, .int .i64 (v / 8), .int .i64 0, .int .u64 0]) (by simp [results, Try.results97, go_sem]) rfl ⟨rfl, (Off.refl _ _).alloc _⟩)

theorem NoAddr.mk (k t a x m : Int) (h : k ≠ 2) : NoAddr (.agg #[.int .i64 k, .int .i64 t, .int .i64 a, .int .i64 x, .int .u64 m]) := ⟨k, t, a, x, m, h, rfl⟩
set_option maxRecDepth 100000 in
set_option maxHeartbeats 1000000 in
theorem of_no (v : Int) (w : World) (h0 : 0 ≤ v) (h1 : v ≤ 18446744073709551615) (h : isAddr v = false) :
    Calls Try.prog 97 #[.int .u64 v] w fun e w' => (∃ r, e = .returned r ∧ NoAddr r) ∧ Off [] w w' := by
  have r0 : (0 : Int) ≤ v / 8 := by omega
  have r1 : v / 8 ≤ 2305843009213693951 := by omega
  have s0 : (0 : Int) ≤ v / 8 / 32 := by omega
  have hm : v % 8 = 0 ∨ v % 8 = 1 ∨ v % 8 = 2 ∨ v % 8 = 3 ∨ v % 8 = 4 ∨ v % 8 = 5 ∨ v % 8 = 6 ∨ v % 8 = 7 := by omega
  have big : v % 8 = 1 ∨ v % 8 = 2 ∨ v % 8 = 3 ∨ v % 8 = 6 → ¬ v / 8 < 65536 := fun ht hlt => by
    have : isAddr v = true := by unfold isAddr isPlace; rw [Bool.and_eq_true]; exact ⟨decide_eq_true (by omega), decide_eq_true hlt⟩
    rw [this] at h
    cases h
  clear h
  by_cases hz : v % 8 = 0
  · clear hm big
    have P60 := Lib.hid (power_any 60 (by omega) (w.alloc (.cells #[.int .i64 0, .int .i64 0, .int .i64 0, .int .i64 0, .int .u64 0] 153)))
    have P61 := Lib.hid (power_any 61 (by omega) (w.alloc (.cells #[.int .i64 0, .int .i64 0, .int .i64 0, .int .i64 0, .int .u64 0] 153)))
    have p60 : powW 60 = 1152921504606846976 := by decide +kernel
    have p61 : powW 61 = 2305843009213693952 := by decide +kernel
    rw [p60] at P60
    rw [p61] at P61
    clear p60 p61
    by_cases hbig : 1152921504606846976 ≤ v / 8
    · go_enter Try.func97, Try.ntmps97
      go_wp2_with fail
      refine P60.out.mono ?_
      rintro e w1 ⟨rfl, rfl⟩
      go_wp2_with fail
      refine P61.out.mono ?_
      rintro e w1 ⟨rfl, rfl⟩
      go_wp2_with fail
      exact bodyPost_ret (v := .agg #[.int .i64 1, .int .i64 0, .int .i64 0, .int .i64 (-(2305843009213693952 - v / 8)), .int .u64 0]) (by simp [results, Try.results97, go_sem]) rfl ⟨⟨_, rfl, NoAddr.mk _ _ _ _ _ (by omega)⟩, (Off.refl _ _).alloc _⟩
    · go_enter Try.func97, Try.ntmps97
      go_wp2_with fail
      refine P60.out.mono ?_
      rintro e w1 ⟨rfl, rfl⟩
      go_wp2_with fail
      exact bodyPost_ret (v := .agg #[.int .i64 1, .int .i64 0, .int .i64 0, .int .i64 (v / 8), .int .u64 0]) (by simp [results, Try.results97, go_sem]) rfl ⟨⟨_, rfl, NoAddr.mk _ _ _ _ _ (by omega)⟩, (Off.refl _ _).alloc _⟩
  by_cases ht : v % 8 = 1 ∨ v % 8 = 2 ∨ v % 8 = 3 ∨ v % 8 = 6
  · have hb := big ht
    clear big hm hz
    obtain h | h | h | h := ht
    all_goals (
      go_enter Try.func97, Try.ntmps97
      go_wp2
      exact bodyPost_ret (v := .agg #[.int .i64 0, .int .i64 0, .int .i64 0, .int .i64 0, .int .u64 0]) (by simp [results, Try.results97, go_sem]) rfl ⟨⟨_, rfl, NoAddr.mk _ _ _ _ _ (by omega)⟩, (Off.refl _ _).alloc _⟩)
  clear big
  by_cases h4 : v % 8 = 4
  · clear hm hz ht
    by_cases l7 : v / 8 % 32 < 7
    · by_cases a0 : v / 8 / 32 = 0
      · have a0' : (v / 8 / 32 == 0) = true := beq_iff_eq.2 a0
        clear a0
        go_enter Try.func97, Try.ntmps97
        go_wp2
        exact bodyPost_ret (v := .agg #[.int .i64 3, .int .i64 0, .int .i64 (v / 8 % 32), .int .i64 0, .int .u64 0]) (by simp [results, Try.results97, go_sem]) rfl ⟨⟨_, rfl, NoAddr.mk _ _ _ _ _ (by omega)⟩, (Off.refl _ _).alloc _⟩
      · have a0' : (v / 8 / 32 == 0) = false := beq_eq_false_iff_ne.2 a0
        have l7' : (v / 8 % 32 == 7) = false := beq_eq_false_iff_ne.2 (by omega)
        clear a0
        go_enter Try.func97, Try.ntmps97
        go_wp2
        exact bodyPost_ret (v := .agg #[.int .i64 0, .int .i64 0, .int .i64 0, .int .i64 0, .int .u64 0]) (by simp [results, Try.results97, go_sem]) rfl ⟨⟨_, rfl, NoAddr.mk _ _ _ _ _ (by omega)⟩, (Off.refl _ _).alloc _⟩
    · have l7b : decide (v / 8 % 32 < 7) = false := decide_eq_false l7
      by_cases e7 : v / 8 % 32 = 7
      · have e7' : (v / 8 % 32 == 7) = true := beq_iff_eq.2 e7
        clear e7 l7
        by_cases b1 : v / 8 / 32 ≤ 1114111
        · by_cases b2 : v / 8 / 32 < 55296
          · go_enter Try.func97, Try.ntmps97
            go_wp2
            exact bodyPost_ret (v := .agg #[.int .i64 4, .int .i64 0, .int .i64 (v / 8 / 32), .int .i64 0, .int .u64 0]) (by simp [results, Try.results97, go_sem]) rfl ⟨⟨_, rfl, NoAddr.mk _ _ _ _ _ (by omega)⟩, (Off.refl _ _).alloc _⟩
          · have b2' : decide (v / 8 / 32 < 55296) = false := decide_eq_false b2
            by_cases b3 : 57343 < v / 8 / 32
            · clear b2
              go_enter Try.func97, Try.ntmps97
              go_wp2
              exact bodyPost_ret (v := .agg #[.int .i64 4, .int .i64 0, .int .i64 (v / 8 / 32), .int .i64 0, .int .u64 0]) (by simp [results, Try.results97, go_sem]) rfl ⟨⟨_, rfl, NoAddr.mk _ _ _ _ _ (by omega)⟩, (Off.refl _ _).alloc _⟩
            · have b3' : decide (57343 < v / 8 / 32) = false := decide_eq_false b3
              clear b2 b3
              go_enter Try.func97, Try.ntmps97
              go_wp2
              exact bodyPost_ret (v := .agg #[.int .i64 0, .int .i64 0, .int .i64 0, .int .i64 0, .int .u64 0]) (by simp [results, Try.results97, go_sem]) rfl ⟨⟨_, rfl, NoAddr.mk _ _ _ _ _ (by omega)⟩, (Off.refl _ _).alloc _⟩
        · have b1' : decide (v / 8 / 32 ≤ 1114111) = false := decide_eq_false b1
          clear b1
          go_enter Try.func97, Try.ntmps97
          go_wp2
          exact bodyPost_ret (v := .agg #[.int .i64 0, .int .i64 0, .int .i64 0, .int .i64 0, .int .u64 0]) (by simp [results, Try.results97, go_sem]) rfl ⟨⟨_, rfl, NoAddr.mk _ _ _ _ _ (by omega)⟩, (Off.refl _ _).alloc _⟩
      · have e7' : (v / 8 % 32 == 7) = false := beq_eq_false_iff_ne.2 e7
        clear e7 l7
        go_enter Try.func97, Try.ntmps97
        go_wp2
        exact bodyPost_ret (v := .agg #[.int .i64 0, .int .i64 0, .int .i64 0, .int .i64 0, .int .u64 0]) (by simp [results, Try.results97, go_sem]) rfl ⟨⟨_, rfl, NoAddr.mk _ _ _ _ _ (by omega)⟩, (Off.refl _ _).alloc _⟩
  · by_cases h5 : v % 8 = 5
    · clear hm hz ht h4
      by_cases l1 : 1 ≤ v / 8 % 32
      · by_cases l13 : v / 8 % 32 ≤ 13
        · by_cases n62 : v / 8 / 32 % 256 ≤ 62
          · go_enter Try.func97, Try.ntmps97
            go_wp2
            exact bodyPost_ret (v := .agg #[.int .i64 5, .int .i64 (v / 8 % 32), .int .i64 (v / 8 / 32 % 256), .int .i64 0, .int .u64 (v / 8 / 32 / 256)]) (by simp [results, Try.results97, go_sem]) rfl ⟨⟨_, rfl, NoAddr.mk _ _ _ _ _ (by omega)⟩, (Off.refl _ _).alloc _⟩
          · have n62' : decide (v / 8 / 32 % 256 ≤ 62) = false := decide_eq_false n62
            clear n62
            go_enter Try.func97, Try.ntmps97
            go_wp2
            exact bodyPost_ret (v := .agg #[.int .i64 0, .int .i64 0, .int .i64 0, .int .i64 0, .int .u64 0]) (by simp [results, Try.results97, go_sem]) rfl ⟨⟨_, rfl, NoAddr.mk _ _ _ _ _ (by omega)⟩, (Off.refl _ _).alloc _⟩
        · have l13' : decide (v / 8 % 32 ≤ 13) = false := decide_eq_false l13
          clear l13
          go_enter Try.func97, Try.ntmps97
          go_wp2
          exact bodyPost_ret (v := .agg #[.int .i64 0, .int .i64 0, .int .i64 0, .int .i64 0, .int .u64 0]) (by simp [results, Try.results97, go_sem]) rfl ⟨⟨_, rfl, NoAddr.mk _ _ _ _ _ (by omega)⟩, (Off.refl _ _).alloc _⟩
      · have l1' : decide (1 ≤ v / 8 % 32) = false := decide_eq_false l1
        clear l1
        go_enter Try.func97, Try.ntmps97
        go_wp2
        exact bodyPost_ret (v := .agg #[.int .i64 0, .int .i64 0, .int .i64 0, .int .i64 0, .int .u64 0]) (by simp [results, Try.results97, go_sem]) rfl ⟨⟨_, rfl, NoAddr.mk _ _ _ _ _ (by omega)⟩, (Off.refl _ _).alloc _⟩
    · have h7 : v % 8 = 7 := by omega
      clear hm hz ht h4 h5
      go_enter Try.func97, Try.ntmps97
      go_wp2
      exact bodyPost_ret (v := .agg #[.int .i64 0, .int .i64 0, .int .i64 0, .int .i64 0, .int .u64 0]) (by simp [results, Try.results97, go_sem]) rfl ⟨⟨_, rfl, NoAddr.mk _ _ _ _ _ (by omega)⟩, (Off.refl _ _).alloc _⟩
end Go.Proofs.Ytoafoodgomnfeaa

namespace Go.Proofs.Ytoafoodgomnfeaa
open Go.RowKit
set_option linter.unusedVariables false

theorem RefAt.setMark {w : World} {rb N : Nat} {M : MemS} {T : List Nat} {V : Nat → Value} {v : Value} (h : RefAt w rb N M T V v) (hnd : T.Nodup) {i : Nat} (hi : i < T.length) {g : Nat} (hg : v.ownBlock = some g) {q : Nat} (hq4 : q < 4) (m : Int) (a : Int) (hk : a.toNat = T.getD i 0) :
    RefAt (w.setCell ⟨g, i * 9 + (4 + q), none⟩ (.int .i64 m)) rb N (M.mark a q m) T V v := by
  refine h.setElem hnd hi (by omega) hg (fun k hk' p hp => ?_) (fun k hk' => ?_)
  · unfold MemS.mark
    rw [hk]
    by_cases ek : k = T.getD i 0
    · rw [← ek]
      match q, hq4, p, hp with
      | 0, _, 0, _ | 0, _, 1, _ | 0, _, 2, _ | 0, _, 3, _ | 0, _, 4, _ | 0, _, 5, _ | 0, _, 6, _ | 0, _, 7, _ | 0, _, 8, _
      | 1, _, 0, _ | 1, _, 1, _ | 1, _, 2, _ | 1, _, 3, _ | 1, _, 4, _ | 1, _, 5, _ | 1, _, 6, _ | 1, _, 7, _ | 1, _, 8, _
      | 2, _, 0, _ | 2, _, 1, _ | 2, _, 2, _ | 2, _, 3, _ | 2, _, 4, _ | 2, _, 5, _ | 2, _, 6, _ | 2, _, 7, _ | 2, _, 8, _
      | 3, _, 0, _ | 3, _, 1, _ | 3, _, 2, _ | 3, _, 3, _ | 3, _, 4, _ | 3, _, 5, _ | 3, _, 6, _ | 3, _, 7, _ | 3, _, 8, _ => simp [cellR, MemS.put_same, SegS.putCard]
    · rw [if_neg (fun h => ek h.1)]
      match p, hp with
      | 0, _ | 1, _ | 2, _ | 3, _ | 4, _ | 5, _ | 6, _ | 7, _ | 8, _ => simp only [cellR, MemS.put_other _ _ _ ek]
  · unfold MemS.mark
    rw [hk]
    by_cases ek : k = T.getD i 0
    · rw [ek, MemS.put_same]; exact ⟨rfl, rfl⟩
    · rw [MemS.put_other _ _ _ ek]; exact ⟨rfl, rfl⟩
theorem TakenIs.mark {n : Nat} {M : MemS} {T : List Nat} (h : TakenIs M n [] T) (a c m : Int) : TakenIs (M.mark a c m) n [] T :=
  h.put_of (fun q => by unfold MemS.mark; by_cases e : q = a.toNat; (subst e; rw [MemS.put_same]; rfl); (rw [MemS.put_other _ _ _ e]))

/-- A segment's row in the document's list: where it lies, and what a mark there does. -/
theorem BothAt.row {w : World} {mb sb rb n c : Nat} {M R : MemS} {X : List Nat} (h : BothAt w mb sb rb n M R c X) {x : Nat} (hx : R.isTaken n x) :
    ∃ (lcap lg len j cap vg : Nat) (va : Option Addr), w.cell? ⟨rb, 1, none⟩ = some (.slice (some ⟨lg, 0, none⟩) len lcap) ∧ j < len ∧ len ≤ 1024 ∧
      (w.cell? ⟨lg, j * 9, none⟩ = some (.int .i64 (x : Int)) ∧ w.cell? ⟨lg, j * 9 + 1, none⟩ = some (.int .i64 (R.S x).gen) ∧ w.cell? ⟨lg, j * 9 + 2, none⟩ = some (.int .i64 (R.S x).kind) ∧ w.cell? ⟨lg, j * 9 + 3, none⟩ = some (.int .i64 (R.S x).n) ∧
        w.cell? ⟨lg, j * 9 + 4, none⟩ = some (.int .i64 (R.S x).c0) ∧ w.cell? ⟨lg, j * 9 + 5, none⟩ = some (.int .i64 (R.S x).c1) ∧ w.cell? ⟨lg, j * 9 + 6, none⟩ = some (.int .i64 (R.S x).c2) ∧ w.cell? ⟨lg, j * 9 + 7, none⟩ = some (.int .i64 (R.S x).c3) ∧
        w.cell? ⟨lg, j * 9 + 8, none⟩ = some (.slice va (R.S x).n.toNat cap)) ∧
      (∀ q : Nat, (q : Int) < (R.S x).n → w.cell? ⟨vg, q, none⟩ = some (.int .u64 ((R.S x).words q)) ∧ va = some ⟨vg, 0, none⟩) ∧ (∀ q, w.frozen? ⟨lg, q, none⟩ = false) ∧
      (∀ w2, Off [] w w2 → Calls Try.prog 91 #[.pointer (some ⟨rb, 0, none⟩), .int .i64 (x : Int)] w2 fun e w' => e = .returned (.int .i64 (j : Int)) ∧ w2 = w') ∧
      ∀ w2, Off [] w w2 → ∀ q, q < 4 → ∀ m : Int, BothAt (w2.setCell ⟨lg, j * 9 + 4 + q, none⟩ (.int .i64 m)) mb sb rb n M (R.mark x q m) c X ∧ OffX X w2 (w2.setCell ⟨lg, j * 9 + 4 + q, none⟩ (.int .i64 m)) := by
  obtain ⟨T, V, v, r1, r2, r3⟩ := h.ref
  have hxn : x < n := by have := hx.2.1; omega
  have hin : x ∈ T := (r2.mem x).2 ⟨hxn, by rw [selB_all (by simpa using hx.2.2)]⟩
  obtain ⟨j, hj, hjx⟩ := mem_getD hin
  have hl := r2.len
  have hn := h.n1
  have hrl := r1.l
  have hrow := r1.row
  obtain ⟨la, lcap, lg, hv, hla, hlc⟩ := r1.form
  obtain ⟨rfl, hown⟩ := hla (by omega)
  obtain ⟨va, cap, vg, hV, hva, hvc⟩ := ownsRow_form (r1.wrow x hin)
  have hc : ∀ q, q < 9 → w.cell? ⟨lg, j * 9 + q, none⟩ = some (cellR R V x q) := fun q hq => by
    have := (hlc j q hj hq).1
    rw [hjx] at this
    exact this
  have c8 := hc 8 (by omega)
  simp only [cellR, hV] at c8
  refine ⟨lcap, lg, T.length, j, cap, vg, va, by rw [← hv]; exact hrl, hj, by omega, ⟨hc 0 (by omega), hc 1 (by omega), hc 2 (by omega), hc 3 (by omega), hc 4 (by omega), hc 5 (by omega), hc 6 (by omega), hc 7 (by omega), c8⟩, fun q hq => ?_, fun q => ?_, fun w2 O => ?_, fun w2 O q hq m => ?_⟩
  · have h1 := (hvc q (by omega)).1
    rw [wordsR_get R x q hq] at h1
    exact ⟨h1, (hva (by omega)).1⟩
  · rw [hv] at hrow
    exact hrow.frozenAt q
  · have := place_yes (r1.off O (by simp)) (by omega) r2.nodup j hj
    rw [hjx] at this
    exact this
  · have hB := h.off O
    have hlg := r3 lg (.inr (.inl hown))
    have O2 : Off [lg] w2 (w2.setCell ⟨lg, j * 9 + 4 + q, none⟩ (.int .i64 m)) := (Off.refl _ _).setCell (by simp) _
    have hR := (r1.off O (by simp)).setMark r2.nodup hj hown hq m (x : Int) (by rw [Int.toNat_natCast, hjx])
    rw [← Nat.add_assoc] at hR
    refine ⟨⟨hB.mem.off h.n0 O2 (by simp only [List.mem_cons, List.not_mem_nil, or_false]; exact fun e => hlg.1 e.symm) (by simp only [List.mem_cons, List.not_mem_nil, or_false]; exact fun e => hlg.2.1 e.symm), h.wf, h.wfr.markC (a := (x : Int)) (by rw [Int.toNat_natCast]; exact hxn) _ _, ⟨T, V, v, hR, r2.mark _ _ _, r3⟩,
      fun b hb => ⟨(h.x b hb).1, (h.x b hb).2.1, Nat.lt_of_lt_of_le (hB.x b hb).2.2 O2.size⟩, h.n0, h.n1⟩, ⟨_, O2, fun b hb hm => ?_⟩⟩
    simp only [List.mem_cons, List.not_mem_nil, or_false] at hb
    exact hlg.2.2 (hb ▸ hm)

/-- The program's cards stand for M, C; the document's for R, D; X are blocks of neither. -/
structure CBoth (w : World) (cb pb mb sb db qb rb n : Nat) (M R : MemS) (C D : Nat → Int) (c : Nat) (X : List Nat) : Prop where
  sp : SBoth w pb mb sb qb rb n M R C D c (cb :: db :: X)
  cp : w.cell? ⟨cb, 0, none⟩ = some (.pointer (some ⟨pb, 0, none⟩))
  dp : w.cell? ⟨db, 0, none⟩ = some (.pointer (some ⟨qb, 0, none⟩))
  cx : cb ∉ X
  dx : db ∉ X
section
variable {w : World} {cb pb mb sb db qb rb n c : Nat} {M R : MemS} {C D : Nat → Int} {X : List Nat} (h : CBoth w cb pb mb sb db qb rb n M R C D c X)
include h
theorem CBoth.n0 : 0 < n := h.sp.n0
theorem CBoth.n1 : n ≤ 1024 := h.sp.n1
theorem CBoth.card : CardAt w cb pb mb sb n M C := by
  have hx := h.sp.px
  have hb := h.sp.both.x cb (by simp)
  exact ⟨h.sp.space, h.cp, fun e => hx (by simp [e]), hb.1, hb.2.1⟩
theorem CBoth.more {c' : Nat} (hc : c ≤ c') : CBoth w cb pb mb sb db qb rb n M R C D c' X := ⟨h.sp.more hc, h.cp, h.dp, h.cx, h.dx⟩
/-- The spaces have turned, the cards' blocks have not. -/
theorem CBoth.spaces {w' : World} {M' R' : MemS} {C' D' : Nat → Int} {c' : Nat} (hS : SBoth w' pb mb sb qb rb n M' R' C' D' c' (cb :: db :: X)) (O : OffX (cb :: db :: X) w w') : CBoth w' cb pb mb sb db qb rb n M' R' C' D' c' X ∧ OffX X w w' :=
  ⟨⟨hS, O.cell h.cp (by simp), O.cell h.dp (by simp), h.cx, h.dx⟩, O.mono (fun b hb => by simp [hb])⟩
theorem CBoth.off {w' : World} (O : Off [] w w') : CBoth w' cb pb mb sb db qb rb n M R C D c X := (h.spaces (h.sp.off O) (BothAt.offX O)).1
theorem CBoth.drew : CBoth w.drew cb pb mb sb db qb rb n M R C D c X := h.off (Off.refl _ _).drew
theorem CBoth.cb_lt : cb < w.heap.size := World.block_lt_of_cell? _ _ h.cp
theorem CBoth.db_lt : db < w.heap.size := World.block_lt_of_cell? _ _ h.dp
theorem CBoth.alloc (o : Obj) : CBoth (w.alloc o) cb pb mb sb db qb rb n M R C D c (w.heap.size :: X) := by
  have h1 := h.off ((Off.refl [] w).alloc o)
  have a := h.cb_lt
  have b := h.db_lt
  refine ⟨(h.sp.alloc o).less (fun q hq => ?_), h1.cp, h1.dp, by simp only [List.mem_cons, not_or]; exact ⟨by omega, h.cx⟩, by simp only [List.mem_cons, not_or]; exact ⟨by omega, h.dx⟩⟩
  simp only [List.mem_cons] at hq ⊢
  rcases hq with e | e | e | e
  · exact .inr (.inl e)
  · exact .inr (.inr (.inl e))
  · exact .inl e
  · exact .inr (.inr (.inr e))
theorem CBoth.less {Y : List Nat} (hY : ∀ b, b ∈ Y → b ∈ X) : CBoth w cb pb mb sb db qb rb n M R C D c Y :=
  ⟨h.sp.less (fun q hq => by simp only [List.mem_cons] at hq ⊢; rcases hq with e | e | e; exact .inl e; exact .inr (.inl e); exact .inr (.inr (hY q e))), h.cp, h.dp, fun hm => h.cx (hY _ hm), fun hm => h.dx (hY _ hm)⟩
/-- Only the program's segments have turned. -/
theorem CBoth.psegs {w' : World} {M' : MemS} {c' : Nat} (hC : CardAt w' cb pb mb sb n M' C) (hW : Wf n M' c') (hc : c ≤ c') (hK : Kc n M') (O : Off [sb] w w') (hO : CurOk n M' C) : CBoth w' cb pb mb sb db qb rb n M' R C D c' X ∧ OffX X w w' := by
  have hb := h.sp.both.stepL hC.sp.mem hW hc O (fun b hb => by simp only [List.mem_cons, List.not_mem_nil, or_false] at hb; exact .inr (.inl hb))
  have hx : OffX (pb :: qb :: cb :: db :: X) w w' := ⟨_, O, fun b hb hm => by
    simp only [List.mem_cons, List.not_mem_nil, or_false] at hb
    exact (h.sp.both.x b hm).2.1 hb⟩
  exact h.spaces (h.sp.mems hb hx hO h.sp.okD hK) (hx.mono (fun b hb => by simp only [List.mem_cons] at hb ⊢; exact .inr (.inr hb)))
end
end Go.Proofs.Ytoafoodgomnfeaa

namespace Go.Proofs.Ytoafoodgomnfeaa
open Go.RowKit
set_option linter.unusedVariables false
section
variable {w : World} {cb pb mb sb db qb rb n c : Nat} {M R : MemS} {C D : Nat → Int} {X : List Nat}
theorem BothAt.noplace {w : World} {mb sb rb n c : Nat} {M R : MemS} {X : List Nat} (h : BothAt w mb sb rb n M R c X) {x : Int} (hx : ¬ R.isTaken n x) :
    ∀ w2, Off [] w w2 → Calls Try.prog 91 #[.pointer (some ⟨rb, 0, none⟩), .int .i64 x] w2 fun e w' => e = .returned (.int .i64 (-1)) ∧ w2 = w' := fun w2 O => by
  obtain ⟨T, V, v, r1, r2, r3⟩ := h.ref
  exact place_none (r1.off O (by simp)) r2 h.n1 hx

set_option maxRecDepth 100000 in
theorem CBoth.dgen (h : CBoth w cb pb mb sb db qb rb n M R C D c X) (v : Int) (h0 : 0 ≤ v) (h1 : v ≤ 18446744073709551615) :
    Calls Try.prog 84 #[.pointer (some ⟨db, 0, none⟩), .int .u64 v] w fun e w' => e = .returned (.tuple #[.int .i64 ((genOf n R v).getD 0), .bool (genOf n R v).isSome]) ∧ Off [] w w' := by
  have p0 := h.dp
  have p1 := h.sp.qptr
  have HH := Lib.hid h
  have n1 := h.n1
  by_cases ha : isAddr v = true
  · have hof := Lib.hid (of_yes v w h0 h1 ha)
    have hlt : v / 8 < 65536 := by
      have := ha
      unfold isAddr at this
      rw [Bool.and_eq_true] at this
      exact of_decide_eq_true this.2
    by_cases h6 : v % 8 = 6
    · have e : genOf n R v = none := if_neg (fun h => h.2.1 h6)
      rw [e]
      have h6' : (v % 8 == 6) = true := beq_iff_eq.2 h6
      clear h e ha h6
      go_enter Try.func84, Try.ntmps84
      go_wp2_with fail
      refine hof.out.mono ?_
      rintro e w1 ⟨rfl, O⟩
      have OO := Lib.hid (O.alloc (.cells #[.int .i64 2, .int .i64 (v % 8), .int .i64 (v / 8), .int .i64 0, .int .u64 0] 153))
      clear O
      go_wp2_with fail
      go_ret2
      exact ⟨rfl, OO.out⟩
    · have h6' : (v % 8 == 6) = false := beq_eq_false_iff_ne.2 h6
      have d0 : (0 : Int) ≤ v / 8 := by omega
      by_cases ht : R.isTaken n (v / 8 / 64)
      · have e : genOf n R v = some (R.S (v / 8 / 64).toNat).gen := if_pos ⟨ha, h6, ht⟩
        rw [e]
        obtain ⟨x, hx⟩ : ∃ x : Nat, v / 8 / 64 = x := ⟨(v / 8 / 64).toNat, by omega⟩
        rw [hx] at ht
        rw [hx, Int.toNat_natCast]
        obtain ⟨lcap, lg, len, j, cap, vg, va, l1, hj, hlen, ⟨_, c1, _⟩, _, _, hpl, _⟩ := h.sp.both.row ht
        rw [← hx] at hpl
        have HPL := Lib.hid hpl
        generalize (R.S x).gen = gg at *
        clear h e ha h6 hpl ht hx
        have j0 : (0 : Int) ≤ (j : Int) := by omega
        have j1 : (j : Int) < (len : Int) := by omega
        go_enter Try.func84, Try.ntmps84
        go_wp2_with fail
        refine hof.out.mono ?_
        rintro e w1 ⟨rfl, O⟩
        have O2 := O.alloc (.cells #[.int .i64 2, .int .i64 (v % 8), .int .i64 (v / 8), .int .i64 0, .int .u64 0] 153)
        have OO := Lib.hid O2
        have hA : (w1.alloc (.cells #[.int .i64 2, .int .i64 (v % 8), .int .i64 (v / 8), .int .i64 0, .int .u64 0] 153)).heap[w1.heap.size]? = some _ := Array.getElem?_push_size
        have s0 := cell_of_row _ _ 0 _ _ _ hA
        have s1 := cell_of_row _ _ 1 _ _ _ hA
        have s2 := cell_of_row _ _ 2 _ _ _ hA
        simp only [List.getElem?_toArray, List.getElem?_cons_zero, List.getElem?_cons_succ] at s0 s1 s2
        have p0' := O2.cell p0 (by simp)
        have p1' := O2.cell p1 (by simp)
        have l1' := O2.cell l1 (by simp)
        have c1' := O2.cell c1 (by simp)
        clear O hA p0 p1 l1 c1
        go_wp2_with fail
        generalize w1.alloc (.cells #[.int .i64 2, .int .i64 (v % 8), .int .i64 (v / 8), .int .i64 0, .int .u64 0] 153) = w2 at *
        generalize w1.heap.size = sp at *
        go_quiet ((go_at_call 91; exact qleft (HPL.out _ (O2.drewN _))))
        clear O2
        go_wp2_with fail
        go_ret2
        exact ⟨rfl, OO.out.drewN _⟩
      · have e : genOf n R v = none := if_neg (fun h => ht h.2.2)
        rw [e]
        have HPL := Lib.hid (h.sp.both.noplace ht)
        clear h e ha h6 ht
        go_enter Try.func84, Try.ntmps84
        go_wp2_with fail
        refine hof.out.mono ?_
        rintro e w1 ⟨rfl, O⟩
        have O2 := O.alloc (.cells #[.int .i64 2, .int .i64 (v % 8), .int .i64 (v / 8), .int .i64 0, .int .u64 0] 153)
        have OO := Lib.hid O2
        have hA : (w1.alloc (.cells #[.int .i64 2, .int .i64 (v % 8), .int .i64 (v / 8), .int .i64 0, .int .u64 0] 153)).heap[w1.heap.size]? = some _ := Array.getElem?_push_size
        have s0 := cell_of_row _ _ 0 _ _ _ hA
        have s1 := cell_of_row _ _ 1 _ _ _ hA
        have s2 := cell_of_row _ _ 2 _ _ _ hA
        simp only [List.getElem?_toArray, List.getElem?_cons_zero, List.getElem?_cons_succ] at s0 s1 s2
        have p0' := O2.cell p0 (by simp)
        have p1' := O2.cell p1 (by simp)
        clear O hA p0 p1
        go_wp2_with fail
        generalize w1.alloc (.cells #[.int .i64 2, .int .i64 (v % 8), .int .i64 (v / 8), .int .i64 0, .int .u64 0] 153) = w2 at *
        generalize w1.heap.size = sp at *
        go_quiet ((go_at_call 91; exact qleft (HPL.out _ (O2.drewN _))))
        clear O2
        go_wp2_with fail
        go_ret2
        exact ⟨rfl, OO.out.drewN _⟩
  · have ha : isAddr v = false := by simpa using ha
    have e : genOf n R v = none := if_neg (fun h => by rw [ha] at h; cases h.1)
    rw [e]
    have hof := Lib.hid (of_no v w h0 h1 ha)
    clear h e ha
    go_enter Try.func84, Try.ntmps84
    go_wp2_with fail
    refine hof.out.mono ?_
    rintro e w1 ⟨⟨r, rfl, k, t, a, x, m, hk, rfl⟩, O⟩
    have OO := Lib.hid (O.alloc (.cells #[.int .i64 k, .int .i64 t, .int .i64 a, .int .i64 x, .int .u64 m] 153))
    have hk' : (k == 2) = false := beq_eq_false_iff_ne.2 hk
    clear O hk
    go_wp2_with fail
    go_ret2
    exact ⟨rfl, OO.out⟩
end
end Go.Proofs.Ytoafoodgomnfeaa
