/-
  YtoafoodgomnfeaaSpace: package space's functions, a contract a function and a case.
-/
import Derived.Test.YtoafoodgomnfeaaOpen
namespace Go.Proofs.Ytoafoodgomnfeaa
open Go.RowKit
set_option linter.unusedVariables false

/-- A space: its memory, and its 20 current segments (one above each; 0: none). -/
structure SpaceAt (w : World) (pb mb sb n : Nat) (M : MemS) (C : Nat → Int) : Prop where
  mem : MemAt w mb sb n M
  ptr : w.cell? ⟨pb, 0, none⟩ = some (.pointer (some ⟨mb, 0, none⟩))
  cur : ∀ g k, g < 5 → k < 4 → w.cell? ⟨pb, 1 + g * 4 + k, none⟩ = some (.int .i64 (C (g * 4 + k)))
  fz : ∀ j, w.frozen? ⟨pb, j, none⟩ = false
  nm : pb ≠ mb
  ns : pb ≠ sb
  ran : ∀ i, i < 20 → 0 ≤ C i ∧ C i ≤ n

theorem SpaceAt.pb_lt {w : World} {pb mb sb n : Nat} {M : MemS} {C : Nat → Int} (h : SpaceAt w pb mb sb n M C) : pb < w.heap.size := World.block_lt_of_cell? w _ h.ptr
theorem SpaceAt.off {w w' : World} {pb mb sb n : Nat} {M : MemS} {C : Nat → Int} {L : List Nat} (h : SpaceAt w pb mb sb n M C) (hn : 0 < n) (ho : Off L w w') (h0 : pb ∉ L) (h1 : mb ∉ L) (h2 : sb ∉ L) : SpaceAt w' pb mb sb n M C :=
  ⟨h.mem.off hn ho h1 h2, ho.cell h.ptr h0, fun g k hg hk => ho.cell (h.cur g k hg hk) h0, fun j => (ho.frozen (p := ⟨pb, j, none⟩) h.pb_lt h0).trans (h.fz j), h.nm, h.ns, h.ran⟩
/-- The memory has turned, the space's own block has not. -/
theorem SpaceAt.mem' {w w' : World} {pb mb sb n : Nat} {M M' : MemS} {C : Nat → Int} {L : List Nat} (h : SpaceAt w pb mb sb n M C) (ho : Off L w w') (h0 : pb ∉ L) (H : MemAt w' mb sb n M') : SpaceAt w' pb mb sb n M' C :=
  ⟨H, ho.cell h.ptr h0, fun g k hg hk => ho.cell (h.cur g k hg hk) h0, fun j => (ho.frozen (p := ⟨pb, j, none⟩) h.pb_lt h0).trans (h.fz j), h.nm, h.ns, h.ran⟩

def putC (C : Nat → Int) (i : Nat) (v : Int) : Nat → Int := fun j => if j = i then v else C j
theorem SpaceAt.setCur {w : World} {pb mb sb n : Nat} {M : MemS} {C : Nat → Int} (h : SpaceAt w pb mb sb n M C) {g k : Nat} (hg : g < 5) (hk : k < 4) (v : Int) (hv0 : 0 ≤ v) (hv : v ≤ n) :
    SpaceAt (w.setCell ⟨pb, 1 + g * 4 + k, none⟩ (.int .i64 v)) pb mb sb n M (putC C (g * 4 + k) v) := by
  have O : Off [pb] w (w.setCell ⟨pb, 1 + g * 4 + k, none⟩ (.int .i64 v)) := (Off.refl _ _).setCell (by simp) _
  have hm := h.mem
  have e1 := h.nm
  have e2 := h.ns
  refine ⟨⟨O.cell hm.segs (by simp; omega), O.cell hm.count (by simp; omega), O.cell hm.free (by simp; omega), fun j => by rw [World.frozen?_setCell]; exact hm.fz j, hm.ne,
    fun k hk j hj => ⟨O.cell (hm.body k hk j hj).1 (by simp; omega), by rw [World.frozen?_setCell]; exact (hm.body k hk j hj).2⟩⟩, ?_, fun g' k' hg' hk' => ?_, fun j => by rw [World.frozen?_setCell]; exact h.fz j, e1, e2, fun i hi => ?_⟩
  · rw [World.cell?_setCell_other _ _ _ _ (by simp only [ne_eq, Addr.mk.injEq, true_and, and_true]; omega)]; exact h.ptr
  · by_cases e : g' * 4 + k' = g * 4 + k
    · have eg : g' = g := by omega
      have ek : k' = k := by omega
      subst eg ek
      rw [World.cell?_setCell_same _ _ _ (h.cur g' k' hg hk)]
      simp [putC]
    · rw [World.cell?_setCell_other _ _ _ _ (by simp only [ne_eq, Addr.mk.injEq, true_and, and_true]; omega), h.cur g' k' hg' hk']
      simp [putC, e]
  · unfold putC
    split
    · exact ⟨hv0, hv⟩
    · exact h.ran i hi

theorem none_no {w : World} {pb mb sb n : Nat} {M : MemS} {C : Nat → Int} (h : SpaceAt w pb mb sb n M C) :
    Calls Try.prog 73 #[.pointer (some ⟨pb, 0, none⟩)] w fun e w' => e = .returned (.bool false) ∧ w = w' := by
  have h0 := h.ptr
  clear h
  go_enter Try.func73, Try.ntmps73
  go_wp2
  go_ret
  exact ⟨rfl, rfl⟩

/-- Whether so many words of a generation and a kind may be put. -/
def mayB (g k c : Int) : Bool := decide (0 ≤ g ∧ g ≤ 4 ∧ (((k = 0 ∨ k = 1) ∧ c = 2) ∨ ((k = 2 ∨ k = 3) ∧ 1 ≤ c ∧ c ≤ 63)))
theorem may_any (g k c : Int) (w : World) : Calls Try.prog 74 #[.int .i64 g, .int .i64 k, .int .i64 c] w fun e w' => e = .returned (.bool (mayB g k c)) ∧ w = w' := by
  by_cases h1 : g < 0
  · have e : mayB g k c = false := by unfold mayB; exact decide_eq_false (by omega)
    rw [e]
    go_enter Try.func74, Try.ntmps74
    go_wp2
    go_ret
    exact ⟨rfl, rfl⟩
  by_cases h2 : 4 < g
  · have e : mayB g k c = false := by unfold mayB; exact decide_eq_false (by omega)
    rw [e]
    go_enter Try.func74, Try.ntmps74
    go_wp2
    go_ret
    exact ⟨rfl, rfl⟩
  by_cases k0 : k = 0
  · subst k0
    by_cases c2 : c = 2
    · subst c2
      have e : mayB g 0 2 = true := by unfold mayB; exact decide_eq_true (by omega)
      rw [e]
      go_enter Try.func74, Try.ntmps74
      go_wp2
      go_ret
      exact ⟨rfl, rfl⟩
    · have e : mayB g 0 c = false := by unfold mayB; exact decide_eq_false (by omega)
      have e2 : (c == 2) = false := beq_eq_false_iff_ne.2 c2
      rw [e]
      clear c2
      go_enter Try.func74, Try.ntmps74
      go_wp2
      go_ret
      exact ⟨rfl, rfl⟩
  by_cases k1 : k = 1
  · subst k1
    by_cases c2 : c = 2
    · subst c2
      have e : mayB g 1 2 = true := by unfold mayB; exact decide_eq_true (by omega)
      rw [e]
      go_enter Try.func74, Try.ntmps74
      go_wp2
      go_ret
      exact ⟨rfl, rfl⟩
    · have e : mayB g 1 c = false := by unfold mayB; exact decide_eq_false (by omega)
      have e2 : (c == 2) = false := beq_eq_false_iff_ne.2 c2
      rw [e]
      clear c2
      go_enter Try.func74, Try.ntmps74
      go_wp2
      go_ret
      exact ⟨rfl, rfl⟩
  have e0 : (k == 0) = false := beq_eq_false_iff_ne.2 k0
  have e1 : (k == 1) = false := beq_eq_false_iff_ne.2 k1
  by_cases k2 : k = 2
  · subst k2
    by_cases c1 : 1 ≤ c
    · have e : mayB g 2 c = decide (c ≤ 63) := by unfold mayB; rw [decide_eq_decide]; omega
      rw [e]
      clear e
      go_enter Try.func74, Try.ntmps74
      go_wp2
      go_ret
      exact ⟨rfl, rfl⟩
    · have e : mayB g 2 c = false := by unfold mayB; exact decide_eq_false (by omega)
      have c3 : c < 1 := by omega
      rw [e]
      clear c1
      go_enter Try.func74, Try.ntmps74
      go_wp2
      go_ret
      exact ⟨rfl, rfl⟩
  by_cases k3 : k = 3
  · subst k3
    by_cases c1 : 1 ≤ c
    · have e : mayB g 3 c = decide (c ≤ 63) := by unfold mayB; rw [decide_eq_decide]; omega
      rw [e]
      clear e
      go_enter Try.func74, Try.ntmps74
      go_wp2
      go_ret
      exact ⟨rfl, rfl⟩
    · have e : mayB g 3 c = false := by unfold mayB; exact decide_eq_false (by omega)
      have c3 : c < 1 := by omega
      rw [e]
      clear c1
      go_enter Try.func74, Try.ntmps74
      go_wp2
      go_ret
      exact ⟨rfl, rfl⟩
  have e2 : (k == 2) = false := beq_eq_false_iff_ne.2 k2
  have e3 : (k == 3) = false := beq_eq_false_iff_ne.2 k3
  have e : mayB g k c = false := by unfold mayB; exact decide_eq_false (by omega)
  rw [e]
  clear k0 k1 k2 k3
  go_enter Try.func74, Try.ntmps74
  go_wp2
  go_ret
  exact ⟨rfl, rfl⟩

theorem cur_yes {w : World} {pb mb sb n : Nat} {M : MemS} {C : Nat → Int} (h : SpaceAt w pb mb sb n M C) (hn : n ≤ 1024) (g k : Nat) (hg : g < 5) (hk : k < 4) (hc : C (g * 4 + k) ≠ 0) :
    Calls Try.prog 72 #[.pointer (some ⟨pb, 0, none⟩), .int .i64 g, .int .i64 k] w fun e w' => e = .returned (.tuple #[.int .i64 (C (g * 4 + k) - 1), .bool true]) ∧ w = w' := by
  have h0 := h.cur g k hg hk
  have hr := h.ran (g * 4 + k) (by omega)
  generalize C (g * 4 + k) = x at *
  have e0 : (x == 0) = false := beq_eq_false_iff_ne.2 hc
  obtain ⟨r1, r2⟩ := hr
  clear h hc
  go_enter Try.func72, Try.ntmps72
  go_wp2
  go_ret2
  exact ⟨rfl, rfl⟩
theorem cur_zero {w : World} {pb mb sb n : Nat} {M : MemS} {C : Nat → Int} (h : SpaceAt w pb mb sb n M C) (hn : n ≤ 1024) (g k : Nat) (hg : g < 5) (hk : k < 4) (hc : C (g * 4 + k) = 0) :
    Calls Try.prog 72 #[.pointer (some ⟨pb, 0, none⟩), .int .i64 g, .int .i64 k] w fun e w' => e = .returned (.tuple #[.int .i64 0, .bool false]) ∧ w = w' := by
  have h0 := h.cur g k hg hk
  rw [hc] at h0
  clear h hc
  go_enter Try.func72, Try.ntmps72
  go_wp2
  go_ret2
  exact ⟨rfl, rfl⟩
theorem cur_out {w : World} {pb mb sb n : Nat} {M : MemS} {C : Nat → Int} (h : SpaceAt w pb mb sb n M C) (g k : Int) (hb : g < 0 ∨ 4 < g ∨ k < 0 ∨ 3 < k) :
    Calls Try.prog 72 #[.pointer (some ⟨pb, 0, none⟩), .int .i64 g, .int .i64 k] w fun e w' => e = .returned (.tuple #[.int .i64 0, .bool false]) ∧ w = w' := by
  clear h
  by_cases a1 : g < 0
  · go_enter Try.func72, Try.ntmps72
    go_wp2
    go_ret2
    exact ⟨rfl, rfl⟩
  by_cases a2 : 4 < g
  · go_enter Try.func72, Try.ntmps72
    go_wp2
    go_ret2
    exact ⟨rfl, rfl⟩
  by_cases a3 : k < 0
  · go_enter Try.func72, Try.ntmps72
    go_wp2
    go_ret2
    exact ⟨rfl, rfl⟩
  have a4 : 3 < k := by omega
  clear hb
  go_enter Try.func72, Try.ntmps72
  go_wp2
  go_ret2
  exact ⟨rfl, rfl⟩

/-- 'New' of package space. -/
theorem snew_arg (x : Int) (w : World) (h : x < 8 ∨ 1024 < x) :
    Calls Try.prog 31 #[.int .i64 x] w fun e w' => e = .returned (.tuple #[.pointer none, .int .i64 1]) ∧ w = w' := by
  have hh := Lib.hid h
  clear h
  go_enter Try.func31, Try.ntmps31
  go_wp2_with fail
  refine (new_arg x w hh.out).mono ?_
  rintro e w1 ⟨rfl, rfl⟩
  go_wp2_with fail
  go_ret2
  exact ⟨rfl, rfl⟩

theorem SpaceAt.made {w : World} {mb sb n : Nat} {M : MemS} (H : MemAt w mb sb n M) (hn : 0 < n) (t : TypeId) :
    SpaceAt (w.alloc (.cells #[.pointer (some ⟨mb, 0, none⟩), .int .i64 0, .int .i64 0, .int .i64 0, .int .i64 0, .int .i64 0, .int .i64 0, .int .i64 0, .int .i64 0, .int .i64 0, .int .i64 0, .int .i64 0, .int .i64 0, .int .i64 0, .int .i64 0, .int .i64 0, .int .i64 0, .int .i64 0, .int .i64 0, .int .i64 0, .int .i64 0] t)) w.heap.size mb sb n M (fun _ => 0) := by
  have h1 := H.mb_lt
  have h2 := H.sb_lt hn
  have hA : ∀ o, (w.alloc o).heap[w.heap.size]? = some o := fun o => Array.getElem?_push_size
  refine ⟨H.off hn ((Off.refl [] _).alloc _) (by simp) (by simp), ?_, fun g k hg hk => ?_, fun j => frozen_of_row _ _ j _ _ (hA _), by omega, by omega, fun i hi => ⟨Int.le_refl _, by show (0 : Int) ≤ n; omega⟩⟩
  · rw [cell_of_row _ _ 0 _ _ _ (hA _)]; rfl
  · rw [cell_of_row _ _ _ _ _ _ (hA _)]
    have : ∃ j, j < 20 ∧ 1 + g * 4 + k = j + 1 := ⟨g * 4 + k, by omega, by omega⟩
    obtain ⟨j, hj, e⟩ := this
    rw [e]
    match j, hj with
    | 0, _ | 1, _ | 2, _ | 3, _ | 4, _ | 5, _ | 6, _ | 7, _ | 8, _ | 9, _ | 10, _ | 11, _ | 12, _ | 13, _ | 14, _ | 15, _ | 16, _ | 17, _ | 18, _ | 19, _ => rfl
    | j + 20, h => exact absurd h (by omega)

theorem snew_ok (x : Int) (n : Nat) (w : World) (hx : x = n) (h1 : 8 ≤ n) (h2 : n ≤ 1024) :
    Calls Try.prog 31 #[.int .i64 x] w fun e w' => ∃ pb mb sb, e = .returned (.tuple #[.pointer (some ⟨pb, 0, none⟩), .int .i64 0]) ∧
      SpaceAt w' pb mb sb n (MemS.made n) (fun _ => 0) ∧ Off [] w w' ∧ w.heap.size ≤ pb ∧ w.heap.size ≤ mb ∧ w.heap.size ≤ sb := by
  have hh := Lib.hid hx
  clear hx
  go_enter Try.func31, Try.ntmps31
  go_wp2_with fail
  refine (new_ok x n w hh.out h1 h2).mono ?_
  rintro e w1 ⟨rfl, H, O⟩
  have HS := SpaceAt.made H (by omega) 83
  have hsz := O.size
  have HH := Lib.hid HS
  have OO := Lib.hid O
  clear H O HS
  go_wp2_with fail
  go_ret2
  exact ⟨_, _, _, rfl, HH.out, OO.out.alloc _, by omega, by omega, by omega⟩
end Go.Proofs.Ytoafoodgomnfeaa
