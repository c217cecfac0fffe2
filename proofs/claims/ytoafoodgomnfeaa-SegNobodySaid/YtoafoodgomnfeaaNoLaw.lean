/-
  YtoafoodgomnfeaaNoLaw: the law of no memory, walked.
-/
import Derived.Test.YtoafoodgomnfeaaNobody
import Derived.Deep.RegionHeld3
namespace Go.Proofs.Ytoafoodgomnfeaa
open Go.RowKit
set_option linter.unusedVariables false

/-- What the law's rounds read: the call, the slice of two, the memory that was not made. -/
structure NoneAt (w0 w : World) (xb lb eb : Nat) (x : ActS) : Prop where
  off : Off [] w0 w
  act : ∀ j, j < 5 → w.cell? ⟨xb, j, none⟩ = some (x.cellOf j)
  l0 : w.cell? ⟨lb, 0, none⟩ = some (.pointer none)
  l1 : w.cell? ⟨lb, 1, none⟩ = some (.pointer (some ⟨eb, 0, none⟩))
  nob : Nobody w (.pointer (some ⟨eb, 0, none⟩))
theorem NoneAt.to {w0 w w' : World} {xb lb eb : Nat} {x : ActS} (h : NoneAt w0 w xb lb eb x) (o : Off [] w w') : NoneAt w0 w' xb lb eb x :=
  ⟨h.off.trans o, fun j hj => o.cell (h.act j hj) (by simp), o.cell h.l0 (by simp), o.cell h.l1 (by simp), h.nob.off o (by simp)⟩

theorem quiet_add_left {P : Program} {f : FuncId} {args : Array Value} {w : World} {a n : Nat} {v : Value}
    (h : Calls P f args (w.drewN (a + n)) fun e w' => e = .returned v ∧ w.drewN (a + n) = w') :
    Calls P f args (w.drewN (a + n)) fun e w'' => e = .returned v ∧ ∃ m, w'' = w.drewN (a + m) :=
  h.mono fun _ _ ⟨he, hm⟩ => ⟨he, n, hm.symm⟩
theorem quiet_left {P : Program} {f : FuncId} {args : Array Value} {w : World} {n : Nat} {v : Value}
    (h : Calls P f args (w.drewN n) fun e w' => e = .returned v ∧ w.drewN n = w') : Calls P f args (w.drewN n) fun e w'' => e = .returned v ∧ ∃ m, w'' = w.drewN m :=
  h.mono fun _ _ ⟨he, hm⟩ => ⟨he, n, hm.symm⟩
theorem Nobody.drewN {w : World} {v : Value} (h : Nobody w v) (n : Nat) : Nobody (w.drewN n) v := h.off ((Off.refl [] w).drewN n) (by simp)
theorem NoneAt.row {w0 w : World} {xb lb eb : Nat} {x : ActS} (h : NoneAt w0 w xb lb eb x) {k : Nat} (hk : k < 2) : ∃ v, w.cell? ⟨lb, k, none⟩ = some v ∧ Nobody w v := by
  match k, hk with
  | 0, _ => exact ⟨_, h.l0, .inl rfl⟩
  | 1, _ => exact ⟨_, h.l1, h.nob⟩

/-- What a round holds of its world, by its numbers. -/
structure NoneR (w0 w : World) (xb lb eb : Nat) (x : ActS) (k : Nat) (v : Value) : Prop where
  at_ : NoneAt w0 w xb lb eb x
  cell : w.cell? ⟨lb, k, none⟩ = some v
  nob : Nobody w v
section
variable {w0 w w' : World} {xb lb eb : Nat} {x : ActS} {k : Nat} {v : Value}
theorem NoneR.to (h : NoneR w0 w xb lb eb x k v) (o : Off [] w w') : NoneR w0 w' xb lb eb x k v := ⟨h.at_.to o, o.cell h.cell (by simp), h.nob.off o (by simp)⟩
theorem NoneR.alloc (h : NoneR w0 w xb lb eb x k v) (o : Obj) : NoneR w0 (w.alloc o) xb lb eb x k v := h.to ((Off.refl _ _).alloc o)
theorem NoneR.drew (h : NoneR w0 w xb lb eb x k v) : NoneR w0 w.drew xb lb eb x k v := h.to (Off.refl _ _).drew
theorem NoneR.facts (h : NoneR w0 w xb lb eb x k v) : NoneR w0 w xb lb eb x k v ∧ w.cell? ⟨xb, 1, none⟩ = some (.int .i64 x.a) ∧ w.cell? ⟨xb, 2, none⟩ = some (.int .i64 x.b) ∧ w.cell? ⟨xb, 3, none⟩ = some (.int .i64 x.c) ∧
    w.cell? ⟨xb, 4, none⟩ = some (.int .u64 x.w) ∧ w.cell? ⟨lb, k, none⟩ = some v :=
  ⟨h, h.at_.act 1 (by omega), h.at_.act 2 (by omega), h.at_.act 3 (by omega), h.at_.act 4 (by omega), h.cell⟩
theorem nob_seg_at {w : World} {v : Value} (h : Nobody w v) (a : Int) : Calls Try.prog 17 #[v, .int .i64 a] w fun e w' =>
    e = .returned (.tuple #[.agg #[.int .i64 0, .int .i64 0, .int .i64 0, .int .i64 0, .int .i64 0, .int .i64 0, .int .i64 0], .bool false]) ∧
      w.alloc (.cells #[.int .i64 0, .int .i64 0, .int .i64 0, .int .i64 0, .int .i64 0, .int .i64 0, .int .i64 0] 37) = w' := by
  have hh := Lib.hid h
  clear h
  go_enter Try.func17, Try.ntmps17
  go_wp2_with (go_at_call 54; refine (nob_at (hh.out.off ((Off.refl [] _).alloc _) (by simp)) _).mono ?_; rintro e w' ⟨rfl, rfl⟩)
  exact bodyPost_ret (v := .tuple #[SegS.zero.told, .bool false]) (by simp [results, Try.results17, go_sem, SegS.told, SegS.zero]) rfl ⟨rfl, rfl⟩
theorem NoneR.taken (h : NoneR w0 w xb lb eb x k v) : Calls Try.prog 22 #[v, .slice none 0 0] w fun e w' => e = .returned (.slice none 0 0) ∧ NoneR w0 w' xb lb eb x k v :=
  (nob_taken h.nob).mono fun _ _ ⟨he, o⟩ => ⟨he, h.to o⟩
end

theorem cell_two_new (w : World) (x y : Value) (t : TypeId) (j : Nat) (u : Value) (h : [x, y][j]? = some u) : (w.alloc (.cells #[x, y] t)).cell? ⟨w.heap.size, j, none⟩ = some u := by
  rw [cell_of_row _ _ _ _ _ _ (heap_alloc_new w (.cells #[x, y] t))]
  simpa using h
set_option maxRecDepth 100000 in
set_option maxHeartbeats 2000000 in
theorem nobody_law (x : ActS) (hx : x.Ok) (w : World) :
    Calls Try.prog 7 #[.agg #[.int .i64 x.doo, .int .i64 x.a, .int .i64 x.b, .int .i64 x.c, .int .u64 x.w]] w fun e w' => e = .returned (.bool true) ∧ Off [] w w' := by
  obtain ⟨xd, xa, xb, xc, xw⟩ := x
  have ha := hx.a1
  simp only [] at ha
  have HX := Lib.hid hx
  clear hx
  go_enter Try.func7, Try.ntmps7
  go_wp2_with fail
  have hN : NoneAt w (((w.alloc (.cells #[.int .i64 xd, .int .i64 xa, .int .i64 xb, .int .i64 xc, .int .u64 xw] 31)).alloc (.cells #[.slice none 0 0, .int .i64 0, .int .i64 0] 57)).alloc
      (.cells #[.pointer none, .pointer (some ⟨w.heap.size + 1, 0, none⟩)] 23)) w.heap.size (w.heap.size + 1 + 1) (w.heap.size + 1) ⟨xd, xa, xb, xc, xw⟩ := by
    refine ⟨((((Off.refl _ _).alloc _).alloc _).alloc _), fun j hj => ?_, ?_, ?_, .inr ⟨_, rfl, ?_, ?_, ?_⟩⟩
    · rw [World.cell?_alloc_lt _ _ _ (by simp; omega), World.cell?_alloc_lt _ _ _ (by simp)]
      match j, hj with
      | 0, _ | 1, _ | 2, _ | 3, _ | 4, _ => simp [ActS.cellOf]
    · have := cell_two_new ((w.alloc (.cells #[.int .i64 xd, .int .i64 xa, .int .i64 xb, .int .i64 xc, .int .u64 xw] 31)).alloc (.cells #[.slice none 0 0, .int .i64 0, .int .i64 0] 57)) (.pointer none) (.pointer (some ⟨w.heap.size + 1, 0, none⟩)) 23 0 _ rfl
      simpa using this
    · have := cell_two_new ((w.alloc (.cells #[.int .i64 xd, .int .i64 xa, .int .i64 xb, .int .i64 xc, .int .u64 xw] 31)).alloc (.cells #[.slice none 0 0, .int .i64 0, .int .i64 0] 57)) (.pointer none) (.pointer (some ⟨w.heap.size + 1, 0, none⟩)) 23 1 _ rfl
      simpa using this
    · rw [World.cell?_alloc_lt _ _ _ (by simp)]; simp
    · rw [World.cell?_alloc_lt _ _ _ (by simp)]; simp
    · rw [World.cell?_alloc_lt _ _ _ (by simp)]; simp
  generalize (((w.alloc (.cells #[.int .i64 xd, .int .i64 xa, .int .i64 xb, .int .i64 xc, .int .u64 xw] 31)).alloc (.cells #[.slice none 0 0, .int .i64 0, .int .i64 0] 57)).alloc
      (.cells #[.pointer none, .pointer (some ⟨w.heap.size + 1, 0, none⟩)] 23)) = W1 at hN ⊢
  generalize w.heap.size = xp at hN ⊢
  generalize xp + 1 = ep at hN ⊢
  generalize ep + 1 = lp at hN ⊢
  have HN1 := Lib.hid hN
  clear hN
  go_loopw [5] (fun i wr => ∃ k : Nat, k ≤ 2 ∧ i = .int .i64 k ∧ NoneAt w wr xp lp ep ⟨xd, xa, xb, xc, xw⟩) (fun i _ => 2 - (intOf i).toNat)
  case atStart => exact ⟨0, by omega, rfl, HN1.out⟩
  case round =>
    obtain ⟨k, hk, rfl, hN⟩ := hrel
    have HN := Lib.hid hN
    have c1 := hN.act 1 (by omega)
    have c2 := hN.act 2 (by omega)
    have c3 := hN.act 3 (by omega)
    have c4 := hN.act 4 (by omega)
    simp only [ActS.cellOf] at c1 c2 c3 c4
    have l0 := hN.l0
    have l1 := hN.l1
    clear hN
    clear l0 l1
    by_cases h2 : k < 2
    · obtain ⟨v, hv, hn⟩ := HN.out.row h2
      have NV := Lib.hid hn
      have NR : Hid (NoneR w wr xp lp ep ⟨xd, xa, xb, xc, xw⟩ k v) := Lib.hid ⟨HN.out, hv, hn⟩
      have k2 : (k : Int) < 2 := by omega
      clear hn
      go_wp2_with fail
      go_quiet ((go_at_call 16; exact quiet_left (nob_take (NV.out.drewN _) _ _)))
      go_wp2_with fail
      go_quiet ((go_at_call 19; exact quiet_add_left (nob_bump (NV.out.drewN _) _ _)))
      go_wp2_with fail
      go_quiet ((go_at_call 21; exact quiet_add_left (nob_read (NV.out.drewN _) _ ha)))
      go_wp2_with fail
      rename_i q1 q2 _ _
      have NR2 : NoneR w _ xp lp ep ⟨xd, xa, xb, xc, xw⟩ k v := NR.out.to ((((Off.refl [] wr).drewN q1).drewN q2).drewN nq)
      generalize ((wr.drewN q1).drewN q2).drewN nq = w2 at NR2 ⊢
      clear c1 c2 c3 c4 hv NV NR HN
      go_region_held3 (fun w' => NoneR w w' xp lp ep ⟨xd, xa, xb, xc, xw⟩ k v ∧ w'.cell? ⟨xp, 1, none⟩ = some (.int .i64 xa) ∧ w'.cell? ⟨xp, 2, none⟩ = some (.int .i64 xb) ∧ w'.cell? ⟨xp, 3, none⟩ = some (.int .i64 xc) ∧
          w'.cell? ⟨xp, 4, none⟩ = some (.int .u64 xw) ∧ w'.cell? ⟨lp, k, none⟩ = some v)
        (first | assumption | exact NoneR.facts (by assumption) | exact NoneR.facts (NoneR.drew (by assumption)) | exact NoneR.facts (NoneR.alloc (‹NoneR _ _ _ _ _ _ _ _ ∧ _›).1 _) | exact NoneR.facts (NoneR.alloc (by assumption) _) | exact NoneR.facts (NoneR.alloc (NoneR.alloc (by assumption) _) _))
        (first
          | (go_at_call 17; refine (nob_seg_at (NoneR.nob (‹NoneR _ _ _ _ _ _ _ _ ∧ _›).1) _).mono ?_; rintro e w' ⟨rfl, rfl⟩)
          | (go_at_call 22; refine (NoneR.taken (‹NoneR _ _ _ _ _ _ _ _ ∧ _›).1).mono ?_; rintro e w' ⟨rfl, hr⟩)
          | (go_at_call 20; refine (nob_write (NoneR.nob (‹NoneR _ _ _ _ _ _ _ _ ∧ _›).1) _ _ ha).mono ?_; rintro e w' ⟨rfl, rfl⟩)
          | (go_at_call 18; refine (nob_give (NoneR.nob (‹NoneR _ _ _ _ _ _ _ _ ∧ _›).1) _).mono ?_; rintro e w' ⟨rfl, rfl⟩)
          | (go_at_call 28; refine (nob_mark (NoneR.nob (‹NoneR _ _ _ _ _ _ _ _ ∧ _›).1) _ _ _).mono ?_; rintro e w' ⟨rfl, rfl⟩)
          | (go_at_call 15; refine (nob_free (NoneR.nob (‹NoneR _ _ _ _ _ _ _ _ ∧ _›).1)).mono ?_; rintro e w' ⟨rfl, rfl⟩)
          | (go_at_call 23; refine (nob_limit (NoneR.nob (‹NoneR _ _ _ _ _ _ _ _ ∧ _›).1)).mono ?_; rintro e w' ⟨rfl, rfl⟩))
      all_goals (
        have NR3 := (‹NoneR _ _ _ _ _ _ _ _ ∧ _›).1
        generalize World.drew _ = w3 at NR3 ⊢
        rename_i hh
        clear hh NR2
        go_wp2_with fail
        simp only [List.append_eq, List.cons_append, List.nil_append]
        go_region_held3 (fun w' => NoneR w w' xp lp ep ⟨xd, xa, xb, xc, xw⟩ k v ∧ w'.cell? ⟨xp, 1, none⟩ = some (.int .i64 xa) ∧ w'.cell? ⟨xp, 2, none⟩ = some (.int .i64 xb) ∧ w'.cell? ⟨xp, 3, none⟩ = some (.int .i64 xc) ∧
            w'.cell? ⟨xp, 4, none⟩ = some (.int .u64 xw) ∧ w'.cell? ⟨lp, k, none⟩ = some v)
          (first | assumption | exact NoneR.facts (by assumption) | exact NoneR.facts (NoneR.drew (by assumption)) | exact NoneR.facts (NoneR.alloc (‹NoneR _ _ _ _ _ _ _ _ ∧ _›).1 _) | exact NoneR.facts (NoneR.alloc (by assumption) _) | exact NoneR.facts (NoneR.alloc (NoneR.alloc (by assumption) _) _))
          (first
            | (go_at_call 17; refine (nob_seg_at (NoneR.nob (‹NoneR _ _ _ _ _ _ _ _ ∧ _›).1) _).mono ?_; rintro e w' ⟨rfl, rfl⟩)
            | (go_at_call 22; refine (NoneR.taken (‹NoneR _ _ _ _ _ _ _ _ ∧ _›).1).mono ?_; rintro e w' ⟨rfl, hr⟩)
            | (go_at_call 20; refine (nob_write (NoneR.nob (‹NoneR _ _ _ _ _ _ _ _ ∧ _›).1) _ _ ha).mono ?_; rintro e w' ⟨rfl, rfl⟩)
            | (go_at_call 18; refine (nob_give (NoneR.nob (‹NoneR _ _ _ _ _ _ _ _ ∧ _›).1) _).mono ?_; rintro e w' ⟨rfl, rfl⟩)
            | (go_at_call 28; refine (nob_mark (NoneR.nob (‹NoneR _ _ _ _ _ _ _ _ ∧ _›).1) _ _ _).mono ?_; rintro e w' ⟨rfl, rfl⟩)
            | (go_at_call 15; refine (nob_free (NoneR.nob (‹NoneR _ _ _ _ _ _ _ _ ∧ _›).1)).mono ?_; rintro e w' ⟨rfl, rfl⟩)
            | (go_at_call 23; refine (nob_limit (NoneR.nob (‹NoneR _ _ _ _ _ _ _ _ ∧ _›).1)).mono ?_; rintro e w' ⟨rfl, rfl⟩))
        have NR4 := (‹NoneR _ _ _ _ _ _ _ _ ∧ _›).1
        generalize World.drew _ = w4 at NR4 ⊢
        rename_i hh
        clear hh NR3
        go_wp2_with fail
        go_roundw
        case rel => exact ⟨k + 1, by omega, by go_num, NR4.at_⟩
        case measure => simp [intOf]; omega)
    · obtain rfl : k = 2 := by omega
      clear hk h2 c1 c2 c3 c4
      go_wp2_with fail
      refine nob_copy.mono ?_
      rintro e w1 ⟨rfl, rfl⟩
      go_wp2_with fail
      refine (awake_true _).mono ?_
      rintro e w2 ⟨rfl, O⟩
      go_wp2_with fail
      go_ret
      exact ⟨rfl, HN.out.off.trans O⟩
end Go.Proofs.Ytoafoodgomnfeaa
