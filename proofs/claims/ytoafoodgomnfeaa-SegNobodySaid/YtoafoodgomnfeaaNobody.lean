/-
  YtoafoodgomnfeaaNobody: no memory, or one that New did not make: what each function of seg says of it.
-/
import Derived.Test.YtoafoodgomnfeaaAny
namespace Go.Proofs.Ytoafoodgomnfeaa
open Go.RowKit
set_option linter.unusedVariables false

/-- No memory: a nil pointer, or one to a memory that was not made. -/
def Nobody (w : World) (v : Value) : Prop :=
  v = .pointer none ∨ ∃ mb, v = .pointer (some ⟨mb, 0, none⟩) ∧ w.cell? ⟨mb, 0, none⟩ = some (.slice none 0 0) ∧ w.cell? ⟨mb, 1, none⟩ = some (.int .i64 0) ∧ w.cell? ⟨mb, 2, none⟩ = some (.int .i64 0)

theorem Nobody.off {w w' : World} {v : Value} {L : List Nat} (h : Nobody w v) (o : Off L w w') (hL : ∀ mb, v = .pointer (some ⟨mb, 0, none⟩) → mb ∉ L) : Nobody w' v := by
  rcases h with rfl | ⟨mb, rfl, h0, h1, h2⟩
  · exact .inl rfl
  · exact .inr ⟨mb, rfl, o.cell h0 (hL mb rfl), o.cell h1 (hL mb rfl), o.cell h2 (hL mb rfl)⟩

theorem nob_at {w : World} {v : Value} (h : Nobody w v) (x : Int) : Calls Try.prog 54 #[v, .int .i64 x] w fun e w' => e = .returned (.pointer none) ∧ w = w' := by
  rcases h with rfl | ⟨mb, rfl, h0, h1, h2⟩
  · go_enter Try.func54, Try.ntmps54
    go_wp2
    go_ret
    exact ⟨rfl, rfl⟩
  · by_cases hx : x < 0
    · go_enter Try.func54, Try.ntmps54
      go_wp2
      go_ret
      exact ⟨rfl, rfl⟩
    · have hx' : 0 ≤ x := by omega
      go_enter Try.func54, Try.ntmps54
      go_wp2
      go_ret
      exact ⟨rfl, rfl⟩

theorem nob_word {w : World} {v : Value} (h : Nobody w v) (x : Int) (hxm : x ≤ 9223372036854775807) : Calls Try.prog 55 #[v, .int .i64 x] w fun e w' => e = .returned (.pointer none) ∧ w = w' := by
  have hh := Lib.hid h
  clear h
  by_cases hx : x < 0
  · go_enter Try.func55, Try.ntmps55
    go_wp2
    go_ret
    exact ⟨rfl, rfl⟩
  · have hx' : 0 ≤ x := by omega
    go_enter Try.func55, Try.ntmps55
    go_wp2_with (go_at_call 54; refine (nob_at hh.out _).mono ?_; rintro e w' ⟨rfl, rfl⟩)
    go_ret
    exact ⟨rfl, rfl⟩

set_option maxHeartbeats 1000000 in
theorem nob_take {w : World} {v : Value} (h : Nobody w v) (a b : Int) : Calls Try.prog 16 #[v, .int .i64 a, .int .i64 b] w fun e w' => e = .returned (.tuple #[.int .i64 0, .int .i64 1]) ∧ w = w' := by
  rcases h with rfl | ⟨mb, rfl, h0, h1, h2⟩
  · go_enter Try.func16, Try.ntmps16
    go_wp2
    go_ret2
    exact ⟨rfl, rfl⟩
  · by_cases a1 : a < 0
    · go_enter Try.func16, Try.ntmps16
      go_wp2
      go_ret2
      exact ⟨rfl, rfl⟩
    by_cases a2 : 4 < a
    · go_enter Try.func16, Try.ntmps16
      go_wp2
      go_ret2
      exact ⟨rfl, rfl⟩
    by_cases a3 : b < 0
    · go_enter Try.func16, Try.ntmps16
      go_wp2
      go_ret2
      exact ⟨rfl, rfl⟩
    by_cases a4 : 3 < b
    · go_enter Try.func16, Try.ntmps16
      go_wp2
      go_ret2
      exact ⟨rfl, rfl⟩
    · go_enter Try.func16, Try.ntmps16
      go_wp2
      go_ret2
      exact ⟨rfl, rfl⟩

theorem nob_bump {w : World} {v : Value} (h : Nobody w v) (a b : Int) : Calls Try.prog 19 #[v, .int .i64 a, .int .i64 b] w fun e w' => e = .returned (.tuple #[.int .i64 0, .int .i64 19]) ∧ w = w' := by
  have hh := Lib.hid h
  clear h
  go_enter Try.func19, Try.ntmps19
  go_wp2_with (go_at_call 54; refine (nob_at hh.out _).mono ?_; rintro e w' ⟨rfl, rfl⟩)
  go_ret2
  exact ⟨rfl, rfl⟩
theorem nob_read {w : World} {v : Value} (h : Nobody w v) (x : Int) (hxm : x ≤ 9223372036854775807) : Calls Try.prog 21 #[v, .int .i64 x] w fun e w' => e = .returned (.tuple #[.int .u64 0, .int .i64 18]) ∧ w = w' := by
  have hh := Lib.hid h
  clear h
  go_enter Try.func21, Try.ntmps21
  go_wp2_with (go_at_call 55; refine (nob_word hh.out _ hxm).mono ?_; rintro e w' ⟨rfl, rfl⟩)
  go_ret2
  exact ⟨rfl, rfl⟩
theorem nob_write {w : World} {v : Value} (h : Nobody w v) (x : Int) (u : Int) (hxm : x ≤ 9223372036854775807) : Calls Try.prog 20 #[v, .int .i64 x, .int .u64 u] w fun e w' => e = .returned (.int .i64 18) ∧ w = w' := by
  have hh := Lib.hid h
  clear h
  go_enter Try.func20, Try.ntmps20
  go_wp2_with (go_at_call 55; refine (nob_word hh.out _ hxm).mono ?_; rintro e w' ⟨rfl, rfl⟩)
  go_ret
  exact ⟨rfl, rfl⟩
theorem nob_give {w : World} {v : Value} (h : Nobody w v) (a : Int) : Calls Try.prog 18 #[v, .int .i64 a] w fun e w' => e = .returned (.int .i64 19) ∧ w = w' := by
  have hh := Lib.hid h
  clear h
  go_enter Try.func18, Try.ntmps18
  go_wp2_with (go_at_call 54; refine (nob_at hh.out _).mono ?_; rintro e w' ⟨rfl, rfl⟩)
  go_ret
  exact ⟨rfl, rfl⟩
theorem nob_mark {w : World} {v : Value} (h : Nobody w v) (a b c : Int) : Calls Try.prog 28 #[v, .int .i64 a, .int .i64 b, .int .i64 c] w fun e w' => e = .returned (.int .i64 19) ∧ w = w' := by
  have hh := Lib.hid h
  clear h
  go_enter Try.func28, Try.ntmps28
  go_wp2_with (go_at_call 54; refine (nob_at hh.out _).mono ?_; rintro e w' ⟨rfl, rfl⟩)
  go_ret
  exact ⟨rfl, rfl⟩
theorem nob_free {w : World} {v : Value} (h : Nobody w v) : Calls Try.prog 15 #[v] w fun e w' => e = .returned (.int .i64 0) ∧ w = w' := by
  rcases h with rfl | ⟨mb, rfl, h0, h1, h2⟩
  · go_enter Try.func15, Try.ntmps15
    go_wp2
    go_ret
    exact ⟨rfl, rfl⟩
  · go_enter Try.func15, Try.ntmps15
    go_wp2
    go_ret
    exact ⟨rfl, rfl⟩
theorem nob_limit {w : World} {v : Value} (h : Nobody w v) : Calls Try.prog 23 #[v] w fun e w' => e = .returned (.int .i64 0) ∧ w = w' := by
  rcases h with rfl | ⟨mb, rfl, h0, h1, h2⟩
  · go_enter Try.func23, Try.ntmps23
    go_wp2
    go_ret
    exact ⟨rfl, rfl⟩
  · go_enter Try.func23, Try.ntmps23
    go_wp2
    go_ret
    exact ⟨rfl, rfl⟩
theorem nob_copy {w : World} : Calls Try.prog 26 #[.pointer none] w fun e w' => e = .returned (.pointer none) ∧ w = w' := by
  go_enter Try.func26, Try.ntmps26
  go_wp2
  go_ret
  exact ⟨rfl, rfl⟩
theorem nob_seg {w : World} {v : Value} (h : Nobody w v) (a : Int) : Calls Try.prog 17 #[v, .int .i64 a] w fun e w' => e = .returned (.tuple #[SegS.zero.told, .bool false]) ∧ Off [] w w' := by
  have hh := Lib.hid h
  clear h
  go_enter Try.func17, Try.ntmps17
  go_wp2_with (go_at_call 54; refine (nob_at (hh.out.off ((Off.refl [] _).alloc _) (by simp)) _).mono ?_; rintro e w' ⟨rfl, rfl⟩)
  exact bodyPost_ret (v := .tuple #[SegS.zero.told, .bool false]) (by simp [results, Try.results17, go_sem, SegS.told, SegS.zero]) rfl ⟨rfl, (Off.refl _ _).alloc _⟩

set_option maxRecDepth 100000 in
set_option maxHeartbeats 1000000 in
theorem nob_taken {w : World} {v : Value} (h : Nobody w v) : Calls Try.prog 22 #[v, .slice none 0 0] w fun e w' => e = .returned (.slice none 0 0) ∧ Off [] w w' := by
  rcases h with rfl | ⟨mb, rfl, h0, h1, h2⟩
  · go_enter Try.func22, Try.ntmps22
    go_wp2
    go_ret
    exact ⟨rfl, (Off.refl _ _).alloc _⟩
  · have h0' := ((Off.refl [] w).alloc (.cells #[.pointer (some ⟨mb, 0, none⟩)] 23)).cell h0 (by simp)
    have hS := fun (p : Value) (W : World) => AnyF.slices_SortFunc_none (P := Try.prog) (ρ := Try.laysSlF6_f57_ren) { Try.laysSlF6_f57 with } none 0 p W
    change ∀ p W, Calls Try.prog 57 _ _ _ at hS
    have HS := Lib.hid hS
    clear hS
    go_enter Try.func22, Try.ntmps22
    go_wp2_with fail
    go_loopw [5, 15] (fun l i wr => l = .slice none 0 0 ∧ i = .int .i64 0 ∧ wr = w.alloc (.cells #[.pointer (some ⟨mb, 0, none⟩)] 23)) (fun _ _ _ => 0)
    case atStart => exact ⟨rfl, rfl, rfl⟩
    case round =>
      obtain ⟨rfl, rfl, rfl⟩ := hrel
      go_wp2_with fail
      refine (HS.out _ _).mono ?_
      rintro e w' ⟨rfl, rfl⟩
      go_wp2_with fail
      go_ret
      exact ⟨rfl, (Off.refl _ _).alloc _⟩
end Go.Proofs.Ytoafoodgomnfeaa
