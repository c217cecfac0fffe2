/-
  YtoafoodgomnfeaaAgain: Again of package card, in one contract.
-/
import Derived.Test.YtoafoodgomnfeaaWordsIt
import Derived.RegionIn
namespace Go.Proofs.Ytoafoodgomnfeaa
open Go.RowKit Go.Shelf
set_option linter.unusedVariables false
attribute [local go_sem] Oper.semAt_some wide_fn

theorem again_none {w : World} {cb pb mb sb n : Nat} {M : MemS} {C : Nat → Int} (h : CardAt w cb pb mb sb n M C) (hn0 : 0 < n) (hn : n ≤ 1024) (x c : Int) (hx : ¬ M.isTaken n x) :
    Calls Try.prog 41 #[.pointer (some ⟨cb, 0, none⟩), .int .i64 x, .int .i64 c] w fun e w' => e = .returned (.int .i64 19) ∧ Off [] w w' := by
  have h1 := h.off hn0 ((Off.refl [] w).alloc (.cells #[.pointer (some ⟨cb, 0, none⟩)] 77)) (by simp) (by simp) (by simp) (by simp)
  have O1 := (Off.refl [] w).alloc (.cells #[.pointer (some ⟨cb, 0, none⟩)] 77)
  have d0 : (w.alloc (.cells #[.pointer (some ⟨cb, 0, none⟩)] 77)).cell? ⟨w.heap.size, 0, none⟩ = some (.pointer (some ⟨cb, 0, none⟩)) := by rw [cell_of_row _ _ 0 _ _ _ Array.getElem?_push_size]; rfl
  have hs := Lib.hid (seg_no h1.sp.mem hn0 hn x hx)
  have hh := Lib.hid h1
  have O1' := Lib.hid O1
  have p1 := h1.ptr
  have p2 := h1.sp.ptr
  clear h h1 hx O1
  go_enter Try.func41, Try.ntmps41
  go_wp2_with fail
  generalize w.alloc _ = w1 at d0 hs hh O1' p1 p2 ⊢
  generalize w.heap.size = B at d0 ⊢
  go_wp2_with fail
  refine (cnone_no hh.out).mono ?_
  rintro e w2 ⟨rfl, rfl⟩
  go_wp2_with fail
  refine hs.out.mono ?_
  rintro e w2 ⟨rfl, O⟩
  unfold SegS.told SegS.zero
  have O2 := Lib.hid (O1'.out.trans O)
  clear O
  go_wp2_with fail
  go_ret
  exact ⟨rfl, O2.out.alloc _⟩

set_option maxHeartbeats 400000 in
theorem again_arg {w : World} {cb pb mb sb n : Nat} {M : MemS} {C : Nat → Int} (h : CardAt w cb pb mb sb n M C) (hn0 : 0 < n) (hn : n ≤ 1024) (x c : Int) (hx : M.isTaken n x) (hc : c < 0 ∨ 3 < c) :
    Calls Try.prog 41 #[.pointer (some ⟨cb, 0, none⟩), .int .i64 x, .int .i64 c] w fun e w' => e = .returned (.int .i64 1) ∧ Off [] w w' := by
  have h1 := h.off hn0 ((Off.refl [] w).alloc (.cells #[.pointer (some ⟨cb, 0, none⟩)] 77)) (by simp) (by simp) (by simp) (by simp)
  have O1 := (Off.refl [] w).alloc (.cells #[.pointer (some ⟨cb, 0, none⟩)] 77)
  have d0 : (w.alloc (.cells #[.pointer (some ⟨cb, 0, none⟩)] 77)).cell? ⟨w.heap.size, 0, none⟩ = some (.pointer (some ⟨cb, 0, none⟩)) := by rw [cell_of_row _ _ 0 _ _ _ Array.getElem?_push_size]; rfl
  have hs := seg_yes h1.sp.mem hn x.toNat (by have := hx.1; have := hx.2.1; omega) hx.2.2 x (by have := hx.1; omega)
  generalize M.S x.toNat = s at hs
  have hs' := Lib.hid hs
  have hh := Lib.hid h1
  have O1' := Lib.hid O1
  have p1 := h1.ptr
  have p2 := h1.sp.ptr
  clear h h1 hx O1 hs
  by_cases hc0 : c < 0
  · go_enter Try.func41, Try.ntmps41
    go_wp2_with fail
    generalize w.alloc _ = w1 at d0 hs' hh O1' p1 p2 ⊢
    generalize w.heap.size = B at d0 ⊢
    go_wp2_with fail
    refine (cnone_no hh.out).mono ?_
    rintro e w2 ⟨rfl, rfl⟩
    go_wp2_with fail
    refine hs'.out.mono ?_
    rintro e w2 ⟨rfl, O⟩
    unfold SegS.told
    have O2 := Lib.hid (O1'.out.trans O)
    clear O
    go_wp2_with fail
    go_ret
    exact ⟨rfl, O2.out.alloc _⟩
  · have hc3 : 4 ≤ c := by omega
    go_enter Try.func41, Try.ntmps41
    go_wp2_with fail
    generalize w.alloc _ = w1 at d0 hs' hh O1' p1 p2 ⊢
    generalize w.heap.size = B at d0 ⊢
    go_wp2_with fail
    refine (cnone_no hh.out).mono ?_
    rintro e w2 ⟨rfl, rfl⟩
    go_wp2_with fail
    refine hs'.out.mono ?_
    rintro e w2 ⟨rfl, O⟩
    unfold SegS.told
    have O2 := Lib.hid (O1'.out.trans O)
    clear O
    go_wp2_with fail
    go_ret
    exact ⟨rfl, O2.out.alloc _⟩

/-- 'words': the iterator's value, its three captured variables in boxes of their own. -/
theorem words_call (cb : Nat) (k c : Int) (w : World) :
    Calls Try.prog 78 #[.pointer (some ⟨cb, 0, none⟩), .int .i64 k, .int .i64 c] w fun e w' =>
      e = .returned (.func (.func 94) #[] #[.pointer (some ⟨w.heap.size, 0, none⟩), .pointer (some ⟨w.heap.size + 1, 0, none⟩), .pointer (some ⟨w.heap.size + 2, 0, none⟩)]) ∧
      w'.cell? ⟨w.heap.size, 0, none⟩ = some (.pointer (some ⟨cb, 0, none⟩)) ∧ w'.cell? ⟨w.heap.size + 1, 0, none⟩ = some (.int .i64 k) ∧ w'.cell? ⟨w.heap.size + 2, 0, none⟩ = some (.int .i64 c) ∧
      Off [] w w' ∧ w'.heap.size = w.heap.size + 3 := by
  have hA : ((w.alloc (.cells #[.pointer (some ⟨cb, 0, none⟩)] 77))).cell? ⟨w.heap.size, 0, none⟩ = some (.pointer (some ⟨cb, 0, none⟩)) := by rw [cell_of_row _ _ 0 _ _ _ Array.getElem?_push_size]; rfl
  have hB : ((w.alloc (.cells #[.pointer (some ⟨cb, 0, none⟩)] 77)).alloc (.cells #[.int .i64 k] 3)).cell? ⟨w.heap.size + 1, 0, none⟩ = some (.int .i64 k) := by
    have := cell_of_row ((w.alloc (.cells #[.pointer (some ⟨cb, 0, none⟩)] 77)).alloc (.cells #[.int .i64 k] 3)) (w.alloc (.cells #[.pointer (some ⟨cb, 0, none⟩)] 77)).heap.size 0 _ _ _ Array.getElem?_push_size
    rw [World.size_alloc] at this
    rw [this]; rfl
  have hC : (((w.alloc (.cells #[.pointer (some ⟨cb, 0, none⟩)] 77)).alloc (.cells #[.int .i64 k] 3)).alloc (.cells #[.int .i64 c] 3)).cell? ⟨w.heap.size + 2, 0, none⟩ = some (.int .i64 c) := by
    have := cell_of_row (((w.alloc (.cells #[.pointer (some ⟨cb, 0, none⟩)] 77)).alloc (.cells #[.int .i64 k] 3)).alloc (.cells #[.int .i64 c] 3)) ((w.alloc (.cells #[.pointer (some ⟨cb, 0, none⟩)] 77)).alloc (.cells #[.int .i64 k] 3)).heap.size 0 _ _ _ Array.getElem?_push_size
    rw [World.size_alloc, World.size_alloc] at this
    rw [this]; rfl
  have hA2 := ((Off.refl [] _).alloc (.cells #[.int .i64 c] 3)).cell (((Off.refl [] _).alloc (.cells #[.int .i64 k] 3)).cell hA (by simp)) (by simp)
  have hB2 := ((Off.refl [] _).alloc (.cells #[.int .i64 c] 3)).cell hB (by simp)
  have a1 := Lib.hid hA2
  have a2 := Lib.hid hB2
  have a3 := Lib.hid hC
  clear hA hB hC hA2 hB2
  go_enter Try.func78, Try.ntmps78
  go_wp2
  go_ret
  exact ⟨rfl, a1.out, a2.out, a3.out, (((Off.refl [] w).alloc _).alloc _).alloc _, by simp⟩

def againM (n : Nat) (M : MemS) (s : SegS) (xs : List U64) : Int := xs.foldl (fun m x => younger n M s x.1 m) 5
theorem againM_snoc (n : Nat) (M : MemS) (s : SegS) (xs : List U64) (x : U64) : againM n M s (xs ++ [x]) = younger n M s x.1 (againM n M s xs) := by simp [againM]
theorem againM_ran {n c : Nat} {M : MemS} (W : Wf n M c) (s : SegS) (xs : List U64) : 0 ≤ againM n M s xs ∧ againM n M s xs ≤ 5 := by
  have key : ∀ (xs : List U64) (m : Int), 0 ≤ m → m ≤ 5 → 0 ≤ xs.foldl (fun m x => younger n M s x.1 m) m ∧ xs.foldl (fun m x => younger n M s x.1 m) m ≤ 5 := by
    intro xs
    induction xs with
    | nil => intro m h0 h5; exact ⟨h0, h5⟩
    | cons x xs ih => intro m h0 h5; have := younger_ran W s x.1 m h0 h5; exact ih _ this.1 this.2
  exact key xs 5 (by omega) (by omega)

theorem Off.keeps {W W' : World} (h : Off [] W W') : KeepsOthers W W' := ⟨h.size, fun k o hk _ => (h.block k (Array.getElem?_eq_some_iff.1 hk).1 (by simp)).trans hk⟩
theorem Off.kept {W W' : World} (h : Off [] W W') {N0 mk : Nat} (hN : N0 ≤ W.heap.size) : Kept N0 mk W W' := ⟨h.size, fun k hk _ => h.block k (by omega) (by simp)⟩
theorem Off.putObj {L : List Nat} {a w : World} (h : Off L a w) {D : Nat} (hD : a.heap.size ≤ D) (o : Obj) : Off L a (w.putObj D o) :=
  ⟨h.os, h.tape, h.output, by rw [World.putObj_size]; exact h.size, fun k hk hn => by rw [World.putObj_heap_other (by omega)]; exact h.block k hk hn⟩
theorem Off.put1 (w : World) (D : Nat) (o : Obj) : Off [D] w (w.putObj D o) :=
  ⟨rfl, rfl, rfl, by rw [World.putObj_size]; exact Nat.le_refl _, fun k hk hn => World.putObj_heap_other (by simpa using hn)⟩
theorem Off.of_below' {w w' : World} (h : Below w.heap.size w w') (L : List Nat) : Off L w w' := Off.of_below h (Nat.le_refl _) L

/-- What lies in the loop's own boxes. -/
structure AgI (w W : World) (bx B7 mk cb : Nat) (s : SegS) (v : Int) : Prop where
  box : W.cell? ⟨bx, 0, none⟩ = some (.pointer (some ⟨cb, 0, none⟩))
  t0 : W.cell? ⟨B7, 0, none⟩ = some (.int .i64 s.gen)
  t1 : W.cell? ⟨B7, 1, none⟩ = some (.int .i64 s.kind)
  t2 : W.cell? ⟨B7, 2, none⟩ = some (.int .i64 s.n)
  t3 : W.cell? ⟨B7, 3, none⟩ = some (.int .i64 s.c0)
  t4 : W.cell? ⟨B7, 4, none⟩ = some (.int .i64 s.c1)
  t5 : W.cell? ⟨B7, 5, none⟩ = some (.int .i64 s.c2)
  t6 : W.cell? ⟨B7, 6, none⟩ = some (.int .i64 s.c3)
  val : W.cell? ⟨mk, 0, none⟩ = some (.int .i64 v)
  fz : W.frozen? ⟨mk, 0, none⟩ = false
theorem AgI.own {w : World} {bx B7 mk cb : Nat} {s : SegS} (f : List U64 → Int) : Own (fun (pre : List U64) W => AgI w W bx B7 mk cb s (f pre)) :=
  fun pre A B row h hg hr => ⟨cell_kept h.box hg hr, cell_kept h.t0 hg hr, cell_kept h.t1 hg hr, cell_kept h.t2 hg hr, cell_kept h.t3 hg hr, cell_kept h.t4 hg hr, cell_kept h.t5 hg hr, cell_kept h.t6 hg hr, cell_kept h.val hg hr, (frozen_kept h.val hg hr).trans h.fz⟩

set_option maxHeartbeats 2000000 in
set_option maxRecDepth 100000 in
theorem again_yes {w : World} {cb pb mb sb n cc : Nat} {M : MemS} {C : Nat → Int} (h : CardAt w cb pb mb sb n M C) (W : Wf n M cc) (hn0 : 0 < n) (hn : n ≤ 1024) (k c : Nat) (hk : k < n) (hc : c < 4) (ht : (M.S k).taken ≠ 0) (K : SegKc (M.S k)) :
    Calls Try.prog 41 #[.pointer (some ⟨cb, 0, none⟩), .int .i64 k, .int .i64 c] w fun e w' => e = .returned (.int .i64 0) ∧
      CardAt w' cb pb mb sb n (M.mark k c (againM n M (M.S k) (wordsUp K c (cntW (M.S k).n c)))) C ∧ Off [sb] w w' := by
  have hu := W.used k hk
  have h1 := h.off hn0 ((Off.refl [] w).alloc (.cells #[.pointer (some ⟨cb, 0, none⟩)] 77)) (by simp) (by simp) (by simp) (by simp)
  have O1 := (Off.refl [] w).alloc (.cells #[.pointer (some ⟨cb, 0, none⟩)] 77)
  have d0 : (w.alloc (.cells #[.pointer (some ⟨cb, 0, none⟩)] 77)).cell? ⟨w.heap.size, 0, none⟩ = some (.pointer (some ⟨cb, 0, none⟩)) := by rw [cell_of_row _ _ 0 _ _ _ Array.getElem?_push_size]; rfl
  have z1 : (w.alloc (.cells #[.pointer (some ⟨cb, 0, none⟩)] 77)).heap.size = w.heap.size + 1 := by simp
  obtain ⟨s, hs⟩ : ∃ s, M.S k = s := ⟨_, rfl⟩
  have hseg := seg_yes h1.sp.mem hn k hk ht (k : Int) rfl
  rw [hs] at hseg
  have hh := Lib.hid h1
  have hseg' := Lib.hid hseg
  have HW := Lib.hid W
  have hb1 := h.cb_lt
  have hb2 := h.sp.pb_lt
  have hb3 := h.sp.mem.mb_lt
  have hb4 := h.sp.mem.sb_lt hn0
  have H0 := Lib.hid h
  clear h hseg W
  refine (callsIn_wide (n := 20)).1 ?_
  refine callsIn_of_wp_marks Try.func41 rfl trivial ?_ rfl
  simp only [Try.ntmps41, List.size_toArray, List.length_cons, List.length_nil, Nat.reduceAdd, Nat.reduceSub, Array.replicate_succ, Array.replicate_zero, List.push_toArray, List.append_toArray, List.nil_append, List.cons_append]
  have p1 := h1.ptr
  have p2 := h1.sp.ptr
  clear h1
  gi_wp2_with fail
  have O1' := Lib.hid O1
  clear O1
  generalize w.alloc _ = w1 at d0 hh hseg' O1' p1 p2 z1 ⊢
  obtain ⟨bx, hbx⟩ : ∃ bx, w.heap.size = bx := ⟨_, rfl⟩
  rw [hbx] at d0 z1 hb1 hb2 hb3 hb4
  have hBX := Lib.hid hbx
  simp only [hbx]
  clear hbx
  refine (callsIn_wide.2 (cnone_no hh.out)).mono ?_
  rintro e w2 ⟨rfl, rfl⟩
  gi_wp2_with fail
  refine (callsIn_wide.2 hseg'.out).mono ?_
  rintro e w2 ⟨rfl, O⟩
  obtain ⟨gen, kind, nn, c0, c1, c2, c3, t, ws⟩ := s
  unfold SegS.told
  have d0' := O.cell d0 (by simp)
  have z2 := O.size
  have O2 := Lib.hid (O1'.out.trans O)
  have H2 := Lib.hid (hh.out.off hn0 O (by simp) (by simp) (by simp) (by simp))
  clear O d0 p1 p2 hseg' hh O1'
  have q1 : (0 : Int) ≤ (c : Int) := by omega
  have q2 : (c : Int) < 4 := by omega
  obtain ⟨T7, hT7⟩ : ∃ o : Obj, o = (.cells #[.int .i64 gen, .int .i64 kind, .int .i64 nn, .int .i64 c0, .int .i64 c1, .int .i64 c2, .int .i64 c3] 37) := ⟨_, rfl⟩
  have e1 := (((Off.refl [] w2).alloc (.cells #[.int .i64 gen, .int .i64 kind, .int .i64 nn, .int .i64 c0, .int .i64 c1, .int .i64 c2, .int .i64 c3] 37)).alloc (.cells #[.int .i64 5] 3)).cell d0' (by simp)
  have hA : (w2.alloc (.cells #[.int .i64 gen, .int .i64 kind, .int .i64 nn, .int .i64 c0, .int .i64 c1, .int .i64 c2, .int .i64 c3] 37)).heap[w2.heap.size]? = some _ := Array.getElem?_push_size
  have ag : AgI w ((w2.alloc (.cells #[.int .i64 gen, .int .i64 kind, .int .i64 nn, .int .i64 c0, .int .i64 c1, .int .i64 c2, .int .i64 c3] 37)).alloc (.cells #[.int .i64 5] 3)) bx w2.heap.size (w2.heap.size + 1) cb ⟨gen, kind, nn, c0, c1, c2, c3, t, ws⟩ 5 := by
    have o2 := (Off.refl [] (w2.alloc (.cells #[.int .i64 gen, .int .i64 kind, .int .i64 nn, .int .i64 c0, .int .i64 c1, .int .i64 c2, .int .i64 c3] 37))).alloc (.cells #[.int .i64 5] 3)
    have hB := cell_of_row ((w2.alloc (.cells #[.int .i64 gen, .int .i64 kind, .int .i64 nn, .int .i64 c0, .int .i64 c1, .int .i64 c2, .int .i64 c3] 37)).alloc (.cells #[.int .i64 5] 3)) (w2.alloc (.cells #[.int .i64 gen, .int .i64 kind, .int .i64 nn, .int .i64 c0, .int .i64 c1, .int .i64 c2, .int .i64 c3] 37)).heap.size 0 _ _ _ Array.getElem?_push_size
    have hF := frozen_of_row ((w2.alloc (.cells #[.int .i64 gen, .int .i64 kind, .int .i64 nn, .int .i64 c0, .int .i64 c1, .int .i64 c2, .int .i64 c3] 37)).alloc (.cells #[.int .i64 5] 3)) (w2.alloc (.cells #[.int .i64 gen, .int .i64 kind, .int .i64 nn, .int .i64 c0, .int .i64 c1, .int .i64 c2, .int .i64 c3] 37)).heap.size 0 _ _ Array.getElem?_push_size
    rw [World.size_alloc] at hB hF
    exact ⟨e1, o2.cell (by rw [cell_of_row _ _ 0 _ _ _ hA]; rfl) (by simp), o2.cell (by rw [cell_of_row _ _ 1 _ _ _ hA]; rfl) (by simp), o2.cell (by rw [cell_of_row _ _ 2 _ _ _ hA]; rfl) (by simp), o2.cell (by rw [cell_of_row _ _ 3 _ _ _ hA]; rfl) (by simp),
      o2.cell (by rw [cell_of_row _ _ 4 _ _ _ hA]; rfl) (by simp), o2.cell (by rw [cell_of_row _ _ 5 _ _ _ hA]; rfl) (by simp), o2.cell (by rw [cell_of_row _ _ 6 _ _ _ hA]; rfl) (by simp), by rw [hB]; rfl, hF⟩
  have O4 := (O2.out.alloc (.cells #[.int .i64 gen, .int .i64 kind, .int .i64 nn, .int .i64 c0, .int .i64 c1, .int .i64 c2, .int .i64 c3] 37)).alloc (.cells #[.int .i64 5] 3)
  have H4 := H2.out.off hn0 (((Off.refl [] w2).alloc (.cells #[.int .i64 gen, .int .i64 kind, .int .i64 nn, .int .i64 c0, .int .i64 c1, .int .i64 c2, .int .i64 c3] 37)).alloc (.cells #[.int .i64 5] 3)) (by simp) (by simp) (by simp) (by simp)
  have z4 : ((w2.alloc (.cells #[.int .i64 gen, .int .i64 kind, .int .i64 nn, .int .i64 c0, .int .i64 c1, .int .i64 c2, .int .i64 c3] 37)).alloc (.cells #[.int .i64 5] 3)).heap.size = w2.heap.size + 2 := by simp
  have AG := Lib.hid ag
  have O4' := Lib.hid O4
  have H4' := Lib.hid H4
  have Z4 := Lib.hid z4
  clear hA hT7 ag O4 H4 O2 H2 z4
  gi_wp2_with fail
  generalize (w2.alloc _).alloc _ = w4 at e1 AG O4' H4' Z4 ⊢
  obtain ⟨B7, hB7⟩ : ∃ B7, w2.heap.size = B7 := ⟨_, rfl⟩
  rw [hB7] at AG Z4 z2
  simp only [hB7]
  clear hB7 d0'
  refine (callsIn_wide.2 (words_call cb k c w4)).mono ?_
  rintro e w5 ⟨rfl, g1, g2, g3, O5, z5⟩
  rw [Z4.out] at g1 g2 g3 z5 ⊢
  have AG5 : AgI w w5 bx B7 (B7 + 1) cb ⟨gen, kind, nn, c0, c1, c2, c3, t, ws⟩ 5 := by
    have a := AG.out
    exact ⟨O5.cell a.box (by simp), O5.cell a.t0 (by simp), O5.cell a.t1 (by simp), O5.cell a.t2 (by simp), O5.cell a.t3 (by simp), O5.cell a.t4 (by simp), O5.cell a.t5 (by simp), O5.cell a.t6 (by simp), O5.cell a.val (by simp),
      (O5.frozen (World.block_lt_of_cell? _ _ a.val) (by simp)).trans a.fz⟩
  have OW := Lib.hid (O4'.out.trans O5)
  have H5 := Lib.hid (H4'.out.off hn0 O5 (by simp) (by simp) (by simp) (by simp))
  have AG5' := Lib.hid AG5
  clear AG5 AG O5 O4' H4' e1
  gi_wp2_with fail
  have hagain : ∀ xs, againM n M (M.S k) xs = againM n M ⟨gen, kind, nn, c0, c1, c2, c3, t, ws⟩ xs := fun xs => by rw [hs]
  have hB5 : Below w.heap.size w w5 := OW.out.below (by simp) (Nat.le_refl _)
  have hst := words_stops 19 (by omega) w5.heap.size (B7 + 1) (B7 + 2) (B7 + 2 + 1) (B7 + 2 + 2) cb pb mb sb n k c w5 H5.out hn hk hc ht hu.1 hu.2 K (by omega) (by omega) (by omega) (by omega) (by omega) (by omega) (by omega) (Nat.le_refl _) g1 g2 g3
  have hBX' := hBX.out
  have fb : ∀ W, Below w.heap.size w W → CardAt W cb pb mb sb n M C := fun W hB => H0.out.off hn0 (Off.of_below' hB []) (by simp) (by simp) (by simp) (by simp)
  have FB := Lib.hid fb
  have HA := Lib.hid hagain
  have HST := Lib.hid hst
  have hyo : ∀ (W : World) (x : U64) (m : Int), Below w.heap.size w W → _ := fun W x m hB => younger_any (fb W hB) hn0 hn ⟨gen, kind, nn, c0, c1, c2, c3, t, ws⟩ x.1 m x.2.1 x.2.2
  have HY := Lib.hid hyo
  clear fb hagain hst hyo hs g1 g2 g3
  refine wpIn_rangeFunc_ownF (a₁ := ?a1) rfl (by omega) (gf := 94) (lb := #[.pointer (some ⟨B7 + 2, 0, none⟩), .pointer (some ⟨B7 + 2 + 1, 0, none⟩), .pointer (some ⟨B7 + 2 + 2, 0, none⟩)]) rfl trivial (enters_of Try.func94 (by kernel_rfl) rfl)
    HST.out Kept.trans (fun W l o o' hl h _ _ => ⟨by simp, fun i hi _ => World.putObj_heap_other (by omega)⟩) (Below.refl _ _) (fun _ => rfl)
    (fun pre W => AgI w W bx B7 (B7 + 1) cb ⟨gen, kind, nn, c0, c1, c2, c3, t, ws⟩ (againM n M ⟨gen, kind, nn, c0, c1, c2, c3, t, ws⟩ pre) ∧ Below w.heap.size w W ∧ w5.heap.size ≤ W.heap.size)
    (fun _ _ _ => False)
    (OwnFrom.and (Own.from (AgI.own _) _) (OwnFrom.and (ownFrom_below (Nat.le_refl _) (by omega)) (fun _ _ _ _ hs hg _ => Nat.le_trans hs hg.size)))
    (fun _ _ _ _ _ hs _ _ => hs)
    ⟨AG5'.out, hB5, Nat.le_refl _⟩ ?assign ?body ?done ?stop
  case assign =>
    intro l x W K hK
    gi_wp2
    exact hK
  case stop =>
    rintro D c pre W _ _ h _
    exact h.elim
  case body =>
    rintro l pre x W ⟨ag, hB, hsz⟩ _
    have b0 := ag.box
    have b1 := ag.t0
    have b2 := ag.t1
    have b3 := ag.t2
    have b4 := ag.t3
    have b5 := ag.t4
    have b6 := ag.t5
    have b7 := ag.t6
    have b8 := ag.val
    have f8 := ag.fz
    have AG := Lib.hid ag
    have HB := Lib.hid hB
    clear ag hB
    gi_wp2_with fail
    refine (CallsIn.inRound l (callsIn_wide.2 (HY.out W x _ HB.out))).mono ?_
    rintro e w' ⟨rfl, O⟩
    have k8 := O.cell b8 (by simp)
    have e8 := (O.frozen (World.block_lt_of_cell? _ _ b8) (by simp)).trans f8
    have hm1 := World.block_lt_of_cell? _ _ b8
    have OO := Lib.hid O
    clear b0 b1 b2 b3 b4 b5 b6 b7 b8 f8 O
    gi_wp2_with fail
    have hb := OO.out
    have a := AG.out
    have O6 := (Off.refl [B7 + 1] w').setCell (p := ⟨B7 + 1, 0, none⟩) (by simp) (.int .i64 (younger n M ⟨gen, kind, nn, c0, c1, c2, c3, t, ws⟩ x.1 (againM n M ⟨gen, kind, nn, c0, c1, c2, c3, t, ws⟩ pre)))
    have hbx7 : bx < B7 := by omega
    refine ⟨hb.keeps.trans (KeepsOthers.setCell _ _ _), (hb.kept hsz).trans ⟨O6.size, fun i hi hne => O6.block i (by have := hb.size; omega) (by simp; omega)⟩, ⟨?_, ?_, ?_, ?_, ?_, ?_, ?_, ?_, ?_, ?_⟩, ?_, ?_⟩
    · exact O6.cell (hb.cell a.box (by simp)) (by simp; omega)
    · exact O6.cell (hb.cell a.t0 (by simp)) (by simp)
    · exact O6.cell (hb.cell a.t1 (by simp)) (by simp)
    · exact O6.cell (hb.cell a.t2 (by simp)) (by simp)
    · exact O6.cell (hb.cell a.t3 (by simp)) (by simp)
    · exact O6.cell (hb.cell a.t4 (by simp)) (by simp)
    · exact O6.cell (hb.cell a.t5 (by simp)) (by simp)
    · exact O6.cell (hb.cell a.t6 (by simp)) (by simp)
    · rw [againM_snoc]; exact World.cell?_setCell_same _ _ _ k8
    · rw [World.frozen?_setCell]; exact e8
    · exact (HB.out.trans (hb.below (by simp) (by have := HB.out.size; omega))).setCell (p := ⟨B7 + 1, 0, none⟩) (by show w.heap.size ≤ B7 + 1; omega) _
    · exact Nat.le_trans hsz (Nat.le_trans hb.size O6.size)
  case done =>
    rintro D ys W hD rfl ⟨ag, hB, hsz⟩ hK
    have b0 := ag.box
    have b8 := ag.val
    have HM := FB.out W hB
    have p1 := HM.ptr
    have p2 := HM.sp.ptr
    have hmr := againM_ran HW.out (M.S k) (wordsUp K c (cntW (M.S k).n c))
    rw [← HA.out] at b8
    generalize hmm : againM n M (M.S k) (wordsUp K c (cntW (M.S k).n c)) = mm at hmr b8
    have HMM := Lib.hid hmm
    clear hmm
    have hma : ∀ W', CardAt W' cb pb mb sb n M C → _ := fun W' H => mark_yes H.sp.mem hn k hk ht (k : Int) (c : Int) mm rfl (by omega) (by omega) hmr.1 hmr.2
    have HMA := Lib.hid hma
    have HM' := Lib.hid HM
    have HB := Lib.hid hB
    clear hma HM ag hB
    gi_wp2_with fail
    refine wpIn_mono (Q := NoPanic _) ?_ NoPanic.imp
    gi_region_with (first | (gi_at_call 28; refine (callsIn_wide.2 (HMA.out _ (CardAt.drew HM'.out))).mono ?_; rintro e w' ⟨rfl, HN, ON⟩) | (gi_at_call 28; refine (callsIn_wide.2 (HMA.out _ HM'.out)).mono ?_; rintro e w' ⟨rfl, HN, ON⟩))
    all_goals refine NoPanic.normal ?_
    all_goals gi_wp2_with fail
    all_goals (
      have hDl := (Array.getElem?_eq_some_iff.1 hK).1
      have hK' : w'.heap[D]? = some (.deferred (some [])) := (ON.block D hDl (by simp; omega)).trans hK
      have OA := ((Off.of_below' HB.out [sb]).drew.trans ON).putObj (D := D) (by omega) (.deferred none)
      refine ⟨by simp, .inl ⟨_, _, rfl, run_takeDeferred hK', ?_⟩⟩
      exact ⟨_, results_tmp rfl _ _ _, rfl, by rw [HMM.out]; exact H0.out.mem' OA (by simpa using H0.out.ns) (by simpa using H0.out.sp.ns) (HN.off hn0 (Off.put1 w' D _) (by simp; omega) (by simp; omega)), OA⟩)
end Go.Proofs.Ytoafoodgomnfeaa
