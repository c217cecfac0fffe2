/-
  YtoafoodgomnfeaaCNobody: no cards: what package card's functions do at nil cards, and at such as New did not make; the law of them, walked.
-/
import Derived.Test.YtoafoodgomnfeaaCards
namespace Go.Proofs.Ytoafoodgomnfeaa
open Go.RowKit
set_option linter.unusedVariables false

/-- No cards: nil, or a block that points to no space. -/
def CNob (w : World) (v : Value) : Prop := v = .pointer none ∨ ∃ b, v = .pointer (some ⟨b, 0, none⟩) ∧ w.cell? ⟨b, 0, none⟩ = some (.pointer none)
theorem CNob.off {w w' : World} {v : Value} (h : CNob w v) (o : Off [] w w') : CNob w' v := by
  rcases h with h | ⟨b, h1, h2⟩
  · exact .inl h
  · exact .inr ⟨b, h1, o.cell h2 (by simp)⟩

theorem cnob_none {w : World} {v : Value} (h : CNob w v) : Calls Try.prog 77 #[v] w fun e w' => e = .returned (.bool true) ∧ w = w' := by
  rcases h with rfl | ⟨b, rfl, hc⟩
  · go_enter Try.func77, Try.ntmps77
    go_wp2
    go_ret
    exact ⟨rfl, rfl⟩
  · go_enter Try.func77, Try.ntmps77
    go_wp2
    go_ret
    exact ⟨rfl, rfl⟩
theorem cnob_gen {w : World} {v : Value} (h : CNob w v) (x : Int) (h0 : 0 ≤ x) (h1 : x ≤ 18446744073709551615) : Calls Try.prog 48 #[v, .int .u64 x] w fun e w' => e = .returned (.tuple #[.int .i64 0, .bool false]) ∧ Off [] w w' := by
  have hh := Lib.hid h
  clear h
  by_cases ha : isAddr x = true
  · have hy := Lib.hid (addr_yes x w h0 h1 ha)
    clear ha
    go_enter Try.func48, Try.ntmps48
    go_wp2_with fail
    refine hy.out.mono ?_
    rintro e w1 ⟨rfl, O⟩
    have O1 := Lib.hid O
    have H1 := Lib.hid (hh.out.off O)
    clear O
    go_wp2_with fail
    refine (cnob_none H1.out).mono ?_
    rintro e w2 ⟨rfl, rfl⟩
    go_wp2_with fail
    go_ret2
    exact ⟨rfl, O1.out⟩
  · have ha : isAddr x = false := by simpa using ha
    have hy := Lib.hid (addr_no x w h0 h1 ha)
    clear ha
    go_enter Try.func48, Try.ntmps48
    go_wp2_with fail
    refine hy.out.mono ?_
    rintro e w1 ⟨rfl, O⟩
    have O1 := Lib.hid O
    have H1 := Lib.hid (hh.out.off O)
    clear O
    go_wp2_with fail
    refine (cnob_none H1.out).mono ?_
    rintro e w2 ⟨rfl, rfl⟩
    go_wp2_with fail
    go_ret2
    exact ⟨rfl, O1.out⟩
theorem cnob_store {w : World} {v : Value} (h : CNob w v) (a x : Int) : Calls Try.prog 46 #[v, .int .i64 a, .int .u64 x] w fun e w' => e = .returned (.int .i64 18) ∧ w = w' := by
  have hh := Lib.hid h
  clear h
  go_enter Try.func46, Try.ntmps46
  go_wp2_with fail
  refine (cnob_none hh.out).mono ?_
  rintro e w2 ⟨rfl, rfl⟩
  go_wp2_with fail
  go_ret
  exact ⟨rfl, rfl⟩
theorem cnob_dirty {w : World} {v : Value} (h : CNob w v) (g : Int) : Calls Try.prog 42 #[v, .int .i64 g] w fun e w' => e = .returned (.slice none 0 0) ∧ w = w' := by
  have hh := Lib.hid h
  clear h
  go_enter Try.func42, Try.ntmps42
  go_wp2_with fail
  refine (cnob_none hh.out).mono ?_
  rintro e w2 ⟨rfl, rfl⟩
  go_wp2_with fail
  go_ret
  exact ⟨rfl, rfl⟩
theorem cnob_again {w : World} {v : Value} (h : CNob w v) (hv : v.oneCell' = true) (a c : Int) : Calls Try.prog 41 #[v, .int .i64 a, .int .i64 c] w fun e w' => e = .returned (.int .i64 19) ∧ Off [] w w' := by
  have hh := Lib.hid (h.off ((Off.refl [] w).alloc (.cells #[v] 77)))
  have d0 : (w.alloc (.cells #[v] 77)).cell? ⟨w.heap.size, 0, none⟩ = some v := by rw [cell_of_row _ _ 0 _ _ _ Array.getElem?_push_size]; rfl
  have O := Lib.hid ((Off.refl [] w).alloc (.cells #[v] 77))
  rcases h with rfl | ⟨b, rfl, _⟩
  · go_enter Try.func41, Try.ntmps41
    go_wp2_with fail
    refine (cnob_none hh.out).mono ?_
    rintro e w2 ⟨rfl, rfl⟩
    go_wp2_with fail
    go_ret
    exact ⟨rfl, O.out⟩
  · go_enter Try.func41, Try.ntmps41
    go_wp2_with fail
    refine (cnob_none hh.out).mono ?_
    rintro e w2 ⟨rfl, rfl⟩
    go_wp2_with fail
    go_ret
    exact ⟨rfl, O.out⟩
theorem cnob_copy {w : World} : Calls Try.prog 49 #[.pointer none] w fun e w' => e = .returned (.pointer none) ∧ w = w' := by
  go_enter Try.func49, Try.ntmps49
  go_wp2
  go_ret
  exact ⟨rfl, rfl⟩

/-- What the law's rounds read. -/
structure CNoneAt (w0 w : World) (xb lb eb : Nat) (x : ActS) : Prop where
  off : Off [] w0 w
  act : ∀ j, j < 5 → w.cell? ⟨xb, j, none⟩ = some (x.cellOf j)
  l0 : w.cell? ⟨lb, 0, none⟩ = some (.pointer none)
  l1 : w.cell? ⟨lb, 1, none⟩ = some (.pointer (some ⟨eb, 0, none⟩))
  nob : CNob w (.pointer (some ⟨eb, 0, none⟩))
theorem CNoneAt.to {w0 w w' : World} {xb lb eb : Nat} {x : ActS} (h : CNoneAt w0 w xb lb eb x) (o : Off [] w w') : CNoneAt w0 w' xb lb eb x :=
  ⟨h.off.trans o, fun j hj => o.cell (h.act j hj) (by simp), o.cell h.l0 (by simp), o.cell h.l1 (by simp), h.nob.off o⟩
theorem CNoneAt.row {w0 w : World} {xb lb eb : Nat} {x : ActS} (h : CNoneAt w0 w xb lb eb x) {k : Nat} (hk : k < 2) : ∃ v : Value, w.cell? ⟨lb, k, none⟩ = some v ∧ CNob w v ∧ v.oneCell' = true := by
  match k, hk with
  | 0, _ => exact ⟨_, h.l0, .inl rfl, rfl⟩
  | 1, _ => exact ⟨_, h.l1, h.nob, rfl⟩

/-- What a round holds of its world, by its numbers. -/
structure CNoneR (w0 w : World) (xb lb eb : Nat) (x : ActS) (k : Nat) (v : Value) : Prop where
  at_ : CNoneAt w0 w xb lb eb x
  cell : w.cell? ⟨lb, k, none⟩ = some v
  nob : CNob w v
  one : v.oneCell' = true
  w0 : 0 ≤ x.w
  w1 : x.w ≤ 18446744073709551615
section
variable {w0 w w' : World} {xb lb eb : Nat} {x : ActS} {k : Nat} {v : Value}
theorem CNoneR.to (h : CNoneR w0 w xb lb eb x k v) (o : Off [] w w') : CNoneR w0 w' xb lb eb x k v := ⟨h.at_.to o, o.cell h.cell (by simp), h.nob.off o, h.one, h.w0, h.w1⟩
theorem CNoneR.alloc (h : CNoneR w0 w xb lb eb x k v) (o : Obj) : CNoneR w0 (w.alloc o) xb lb eb x k v := h.to ((Off.refl _ _).alloc o)
theorem CNoneR.drew (h : CNoneR w0 w xb lb eb x k v) : CNoneR w0 w.drew xb lb eb x k v := h.to (Off.refl _ _).drew
theorem CNoneR.facts (h : CNoneR w0 w xb lb eb x k v) : CNoneR w0 w xb lb eb x k v ∧ w.cell? ⟨xb, 1, none⟩ = some (.int .i64 x.a) ∧ w.cell? ⟨xb, 2, none⟩ = some (.int .i64 x.b) ∧
    w.cell? ⟨xb, 4, none⟩ = some (.int .u64 x.w) ∧ w.cell? ⟨lb, k, none⟩ = some v :=
  ⟨h, h.at_.act 1 (by omega), h.at_.act 2 (by omega), h.at_.act 4 (by omega), h.cell⟩
end
theorem CNoneR.gen {w0 w : World} {xb lb eb : Nat} {d a b c u : Int} {k : Nat} {v : Value} (h : CNoneR w0 w xb lb eb ⟨d, a, b, c, u⟩ k v) : Calls Try.prog 48 #[v, .int .u64 u] w fun e w' => e = .returned (.tuple #[.int .i64 0, .bool false]) ∧ CNoneR w0 w' xb lb eb ⟨d, a, b, c, u⟩ k v :=
  (cnob_gen h.nob u h.w0 h.w1).mono fun _ _ ⟨he, o⟩ => ⟨he, h.to o⟩
theorem CNoneR.again {w0 w : World} {xb lb eb : Nat} {d a b c u : Int} {k : Nat} {v : Value} (h : CNoneR w0 w xb lb eb ⟨d, a, b, c, u⟩ k v) : Calls Try.prog 41 #[v, .int .i64 a, .int .i64 b] w fun e w' => e = .returned (.int .i64 19) ∧ CNoneR w0 w' xb lb eb ⟨d, a, b, c, u⟩ k v :=
  (cnob_again h.nob h.one a b).mono fun _ _ ⟨he, o⟩ => ⟨he, h.to o⟩

theorem cell_two_new (w : World) (x y : Value) (t : TypeId) (j : Nat) (u : Value) (h : [x, y][j]? = some u) : (w.alloc (.cells #[x, y] t)).cell? ⟨w.heap.size, j, none⟩ = some u := by
  rw [cell_of_row _ _ _ _ _ _ (heap_alloc_new w (.cells #[x, y] t))]
  simpa using h
set_option maxRecDepth 100000 in
set_option maxHeartbeats 1000000 in
theorem cnobody_law (x : ActS) (hx : x.Ok) (w : World) :
    Calls Try.prog 11 #[.agg #[.int .i64 x.doo, .int .i64 x.a, .int .i64 x.b, .int .i64 x.c, .int .u64 x.w]] w fun e w' => e = .returned (.bool true) ∧ Off [] w w' := by
  obtain ⟨xd, xa, xb, xc, xw⟩ := x
  have HX := Lib.hid hx
  clear hx
  go_enter Try.func11, Try.ntmps11
  go_wp2_with fail
  have hN : CNoneAt w (((w.alloc (.cells #[.int .i64 xd, .int .i64 xa, .int .i64 xb, .int .i64 xc, .int .u64 xw] 92)).alloc (.cells #[.pointer none] 80)).alloc
      (.cells #[.pointer none, .pointer (some ⟨w.heap.size + 1, 0, none⟩)] 77)) w.heap.size (w.heap.size + 1 + 1) (w.heap.size + 1) ⟨xd, xa, xb, xc, xw⟩ := by
    refine ⟨((((Off.refl _ _).alloc _).alloc _).alloc _), fun j hj => ?_, ?_, ?_, .inr ⟨_, rfl, ?_⟩⟩
    · rw [World.cell?_alloc_lt _ _ _ (by simp; omega), World.cell?_alloc_lt _ _ _ (by simp)]
      match j, hj with
      | 0, _ | 1, _ | 2, _ | 3, _ | 4, _ => simp [ActS.cellOf]
    · have := cell_two_new ((w.alloc (.cells #[.int .i64 xd, .int .i64 xa, .int .i64 xb, .int .i64 xc, .int .u64 xw] 92)).alloc (.cells #[.pointer none] 80)) (.pointer none) (.pointer (some ⟨w.heap.size + 1, 0, none⟩)) 77 0 _ rfl
      simpa using this
    · have := cell_two_new ((w.alloc (.cells #[.int .i64 xd, .int .i64 xa, .int .i64 xb, .int .i64 xc, .int .u64 xw] 92)).alloc (.cells #[.pointer none] 80)) (.pointer none) (.pointer (some ⟨w.heap.size + 1, 0, none⟩)) 77 1 _ rfl
      simpa using this
    · rw [World.cell?_alloc_lt _ _ _ (by simp)]; simp
  generalize (((w.alloc (.cells #[.int .i64 xd, .int .i64 xa, .int .i64 xb, .int .i64 xc, .int .u64 xw] 92)).alloc (.cells #[.pointer none] 80)).alloc
      (.cells #[.pointer none, .pointer (some ⟨w.heap.size + 1, 0, none⟩)] 77)) = W1 at hN ⊢
  generalize w.heap.size = xp at hN ⊢
  generalize xp + 1 = ep at hN ⊢
  generalize ep + 1 = lp at hN ⊢
  have HN1 := Lib.hid hN
  clear hN
  go_loopw [5] (fun i wr => ∃ k : Nat, k ≤ 2 ∧ i = .int .i64 k ∧ CNoneAt w wr xp lp ep ⟨xd, xa, xb, xc, xw⟩) (fun i _ => 2 - (intOf i).toNat)
  case atStart => exact ⟨0, by omega, rfl, HN1.out⟩
  case round =>
    obtain ⟨k, hk, rfl, hN⟩ := hrel
    have HN := Lib.hid hN
    clear hN
    by_cases h2 : k < 2
    · obtain ⟨v, hv, hn, ho⟩ := HN.out.row h2
      have NR : CNoneR w wr xp lp ep ⟨xd, xa, xb, xc, xw⟩ k v := ⟨HN.out, hv, hn, ho, HX.out.w0, HX.out.w1⟩
      have k2 : (k : Int) < 2 := by omega
      have k0 : (0 : Int) ≤ (k : Int) := by omega
      clear hn hv HN ho HX HN1
      go_wp2_with fail
      go_region_held3 (fun w' => CNoneR w w' xp lp ep ⟨xd, xa, xb, xc, xw⟩ k v ∧ w'.cell? ⟨xp, 1, none⟩ = some (.int .i64 xa) ∧ w'.cell? ⟨xp, 2, none⟩ = some (.int .i64 xb) ∧ w'.cell? ⟨xp, 4, none⟩ = some (.int .u64 xw) ∧ w'.cell? ⟨lp, k, none⟩ = some v)
        (first | assumption | exact CNoneR.facts (by assumption) | exact CNoneR.facts (CNoneR.drew (by assumption)) | exact CNoneR.facts (CNoneR.alloc (‹CNoneR _ _ _ _ _ _ _ _ ∧ _›).1 _) | exact CNoneR.facts (CNoneR.alloc (by assumption) _))
        (first
          | (go_at_call 48; refine (CNoneR.gen (‹CNoneR _ _ _ _ _ _ _ _ ∧ _›).1).mono ?_; rintro e w' ⟨rfl, hr⟩)
          | (go_at_call 46; refine (cnob_store (CNoneR.nob (‹CNoneR _ _ _ _ _ _ _ _ ∧ _›).1) _ _).mono ?_; rintro e w' ⟨rfl, rfl⟩)
          | (go_at_call 41; refine (CNoneR.again (‹CNoneR _ _ _ _ _ _ _ _ ∧ _›).1).mono ?_; rintro e w' ⟨rfl, hr⟩)
          | (go_at_call 42; refine (cnob_dirty (CNoneR.nob (‹CNoneR _ _ _ _ _ _ _ _ ∧ _›).1) _).mono ?_; rintro e w' ⟨rfl, rfl⟩))
      all_goals (
        have NR3 := (‹CNoneR _ _ _ _ _ _ _ _ ∧ _›).1
        rename_i hh
        clear hh NR
        go_wp2_with fail
        go_region_held3 (fun w' => CNoneR w w' xp lp ep ⟨xd, xa, xb, xc, xw⟩ k v ∧ w'.cell? ⟨xp, 1, none⟩ = some (.int .i64 xa) ∧ w'.cell? ⟨xp, 2, none⟩ = some (.int .i64 xb) ∧ w'.cell? ⟨xp, 4, none⟩ = some (.int .u64 xw) ∧ w'.cell? ⟨lp, k, none⟩ = some v)
          (first | assumption | exact CNoneR.facts (by assumption) | exact CNoneR.facts (CNoneR.drew (by assumption)) | exact CNoneR.facts (CNoneR.alloc (‹CNoneR _ _ _ _ _ _ _ _ ∧ _›).1 _) | exact CNoneR.facts (CNoneR.alloc (by assumption) _))
          (first
            | (go_at_call 48; refine (CNoneR.gen (‹CNoneR _ _ _ _ _ _ _ _ ∧ _›).1).mono ?_; rintro e w' ⟨rfl, hr⟩)
            | (go_at_call 46; refine (cnob_store (CNoneR.nob (‹CNoneR _ _ _ _ _ _ _ _ ∧ _›).1) _ _).mono ?_; rintro e w' ⟨rfl, rfl⟩)
            | (go_at_call 41; refine (CNoneR.again (‹CNoneR _ _ _ _ _ _ _ _ ∧ _›).1).mono ?_; rintro e w' ⟨rfl, hr⟩)
            | (go_at_call 42; refine (cnob_dirty (CNoneR.nob (‹CNoneR _ _ _ _ _ _ _ _ ∧ _›).1) _).mono ?_; rintro e w' ⟨rfl, rfl⟩))
        all_goals (
          have NR4 := (‹CNoneR _ _ _ _ _ _ _ _ ∧ _›).1
          rename_i hh
          clear hh NR3
          go_wp2_with fail
          go_roundw
          case rel => exact ⟨k + 1, by omega, by go_num, NR4.at_⟩
          case measure => simp [intOf]; omega))
    · obtain rfl : k = 2 := by omega
      clear hk h2
      go_wp2_with fail
      refine cnob_copy.mono ?_
      rintro e w1 ⟨rfl, rfl⟩
      go_wp2_with fail
      refine (awake09_true _).mono ?_
      rintro e w2 ⟨rfl, O⟩
      go_wp2_with fail
      go_ret
      exact ⟨rfl, HN.out.off.trans O⟩
end Go.Proofs.Ytoafoodgomnfeaa
