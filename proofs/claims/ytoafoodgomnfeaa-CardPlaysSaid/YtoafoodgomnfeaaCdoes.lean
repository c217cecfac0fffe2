/-
  YtoafoodgomnfeaaCdoes: a call of both cards: the answers are the same.
-/
import Derived.Test.YtoafoodgomnfeaaCmade
namespace Go.Proofs.Ytoafoodgomnfeaa
open Go.RowKit
set_option linter.unusedVariables false

theorem StoreIs.ex (n : Nat) (M : MemS) (a v : Int) : ∃ s M', StoreIs n M a v s M' := by
  by_cases h : M.hasWord n a
  · exact ⟨_, _, .inl ⟨rfl, h, rfl⟩⟩
  · exact ⟨_, _, .inr ⟨rfl, h, rfl⟩⟩
theorem StoreIs.one {n : Nat} {M M' M'' : MemS} {a v s s' : Int} (h : StoreIs n M a v s M') (h' : StoreIs n M a v s' M'') : s' = s ∧ M'' = M' := by
  rcases h with ⟨rfl, hw, rfl⟩ | ⟨rfl, hw, rfl⟩ <;> rcases h' with ⟨rfl, hw', rfl⟩ | ⟨rfl, hw', rfl⟩ <;> first | exact ⟨rfl, rfl⟩ | exact absurd hw hw' | exact absurd hw' hw
theorem AgainIs.ex (n : Nat) (M : MemS) (x c : Int) : ∃ s M', AgainIs n M x c s M' := by
  by_cases h : M.isTaken n x
  · by_cases hc : c < 0 ∨ 3 < c
    · exact ⟨_, _, .inr (.inr ⟨rfl, h, hc, rfl⟩)⟩
    · exact ⟨_, _, .inl ⟨rfl, h, by omega, by omega, rfl⟩⟩
  · exact ⟨_, _, .inr (.inl ⟨rfl, h, rfl⟩)⟩
theorem AgainIs.one {n : Nat} {M M' M'' : MemS} {x c s s' : Int} (h : AgainIs n M x c s M') (h' : AgainIs n M x c s' M'') : s' = s ∧ M'' = M' := by
  rcases h with ⟨rfl, hw, a, b, rfl⟩ | ⟨rfl, hw, rfl⟩ | ⟨rfl, hw, a, rfl⟩ <;> rcases h' with ⟨rfl, hw', a', b', rfl⟩ | ⟨rfl, hw', rfl⟩ | ⟨rfl, hw', a', rfl⟩ <;> first | exact ⟨rfl, rfl⟩ | exact absurd hw hw' | exact absurd hw' hw | omega
theorem StoreIs.cur {n : Nat} {M M' : MemS} {C : Nat → Int} {a v s : Int} (h : CurOk n M C) (hG : StoreIs n M a v s M') : CurOk n M' C := by
  rcases hG with ⟨_, _, rfl⟩ | ⟨_, _, rfl⟩
  · exact (h.write a v).mark _ _ _
  · exact h
theorem AgainIs.cur {n : Nat} {M M' : MemS} {C : Nat → Int} {a v s : Int} (h : CurOk n M C) (hG : AgainIs n M a v s M') : CurOk n M' C := by
  rcases hG with ⟨_, _, _, _, rfl⟩ | ⟨_, _, rfl⟩ | ⟨_, _, _, rfl⟩
  · exact h.mark _ _ _
  · exact h
  · exact h
section
variable {w : World} {cb pb mb sb db qb rb n c : Nat} {M R : MemS} {C D : Nat → Int} {X : List Nat} (h : CBoth w cb pb mb sb db qb rb n M R C D c X)
include h
theorem CBoth.palloc (hc : c ≤ 1000000) (g k cc : Int) :
    Calls Try.prog 35 #[.pointer (some ⟨pb, 0, none⟩), .int .i64 g, .int .i64 k, .int .i64 cc] w fun e w' => ∃ r s M' C', e = .returned (.tuple #[.int .i64 r, .int .i64 s]) ∧
      AllocIs n M C g k cc r s M' C' ∧ CBoth w' cb pb mb sb db qb rb n M' R C' D (c + 1) X ∧ OffX X w w' := by
  refine (h.sp.palloc hc g k cc).mono ?_
  rintro e w' ⟨r, s, M', C', rfl, hA, hS, O⟩
  exact ⟨r, s, M', C', rfl, hA, h.spaces hS O⟩
theorem CBoth.dalloc (g k cc : Int) {r s : Int} {R' : MemS} {D' : Nat → Int} (hA : AllocIs n R D g k cc r s R' D') :
    Calls Try.prog 75 #[.pointer (some ⟨qb, 0, none⟩), .int .i64 g, .int .i64 k, .int .i64 cc] w fun e w' => e = .returned (.tuple #[.int .i64 r, .int .i64 s]) ∧ CBoth w' cb pb mb sb db qb rb n M R' C D' (c + 1) X ∧ OffX X w w' := by
  refine (h.sp.dalloc g k cc hA).mono ?_
  rintro e w' ⟨rfl, hS, O⟩
  exact ⟨rfl, h.spaces hS O⟩
theorem CBoth.pgive (a : Int) {s : Int} {M' : MemS} {C' : Nat → Int} (hG : SGiveIs n M C a s M' C') :
    Calls Try.prog 36 #[.pointer (some ⟨pb, 0, none⟩), .int .i64 a] w fun e w' => e = .returned (.int .i64 s) ∧ CBoth w' cb pb mb sb db qb rb n M' R C' D c X ∧ OffX X w w' := by
  refine (h.sp.pgive a hG).mono ?_
  rintro e w' ⟨rfl, hS, O⟩
  exact ⟨rfl, h.spaces hS O⟩
theorem CBoth.dgive (a : Int) {s : Int} {R' : MemS} {D' : Nat → Int} (hG : SGiveIs n R D a s R' D') :
    Calls Try.prog 76 #[.pointer (some ⟨qb, 0, none⟩), .int .i64 a] w fun e w' => e = .returned (.int .i64 s) ∧ CBoth w' cb pb mb sb db qb rb n M R' C D' c X ∧ OffX X w w' := by
  refine (h.sp.dgive a hG).mono ?_
  rintro e w' ⟨rfl, hS, O⟩
  exact ⟨rfl, h.spaces hS O⟩
theorem CBoth.pwrite (a v : Int) (ha : a ≤ 9223372036854775807) (h0 : 0 ≤ v) (h1 : v ≤ 18446744073709551615) {s : Int} {M' : MemS} (hG : WriteIs n M a v s M') :
    Calls Try.prog 20 #[.pointer (some ⟨mb, 0, none⟩), .int .i64 a, .int .u64 v] w fun e w' => e = .returned (.int .i64 s) ∧ CBoth w' cb pb mb sb db qb rb n M' R C D c X ∧ OffX X w w' := by
  refine (h.sp.pwrite a v ha h0 h1 hG).mono ?_
  rintro e w' ⟨rfl, hS, O⟩
  exact ⟨rfl, h.spaces hS O⟩
theorem CBoth.dwrite (a v : Int) (ha : a ≤ 9223372036854775807) {s : Int} {R' : MemS} (hG : WriteIs n R a v s R') :
    Calls Try.prog 66 #[.pointer (some ⟨rb, 0, none⟩), .int .i64 a, .int .u64 v] w fun e w' => e = .returned (.int .i64 s) ∧ CBoth w' cb pb mb sb db qb rb n M R' C D c X ∧ OffX X w w' := by
  refine (h.sp.dwrite a v ha hG).mono ?_
  rintro e w' ⟨rfl, hS, O⟩
  exact ⟨rfl, h.spaces hS O⟩
theorem CBoth.pstore (a v : Int) (ha : a ≤ 9223372036854775807) (h0 : 0 ≤ v) (h1 : v ≤ 18446744073709551615) {s : Int} {M' : MemS} (hG : StoreIs n M a v s M') :
    Calls Try.prog 46 #[.pointer (some ⟨cb, 0, none⟩), .int .i64 a, .int .u64 v] w fun e w' => e = .returned (.int .i64 s) ∧ CBoth w' cb pb mb sb db qb rb n M' R C D c X ∧ OffX X w w' := by
  refine (cstore_all h.card h.sp.both.wf h.sp.kc h.n0 h.n1 a v ha h0 h1).mono ?_
  rintro e w' ⟨s', M'', rfl, hG', hC, hW, hK, O⟩
  obtain ⟨rfl, rfl⟩ := hG.one hG'
  exact ⟨rfl, h.psegs hC hW (Nat.le_refl _) hK O (hG.cur h.sp.okC)⟩
theorem CBoth.pagain (x q : Int) {s : Int} {M' : MemS} (hG : AgainIs n M x q s M') :
    Calls Try.prog 41 #[.pointer (some ⟨cb, 0, none⟩), .int .i64 x, .int .i64 q] w fun e w' => e = .returned (.int .i64 s) ∧ CBoth w' cb pb mb sb db qb rb n M' R C D c X ∧ OffX X w w' := by
  refine (again_all h.card h.sp.both.wf h.sp.kc h.n0 h.n1 x q).mono ?_
  rintro e w' ⟨s', M'', rfl, hG', hC, hW, hK, O⟩
  obtain ⟨rfl, rfl⟩ := hG.one hG'
  exact ⟨rfl, h.psegs hC hW (Nat.le_refl _) hK O (hG.cur h.sp.okC)⟩
theorem CBoth.pgen (v : Int) (h0 : 0 ≤ v) (h1 : v ≤ 18446744073709551615) :
    Calls Try.prog 48 #[.pointer (some ⟨cb, 0, none⟩), .int .u64 v] w fun e w' => e = .returned (.tuple #[.int .i64 ((genOf n M v).getD 0), .bool (genOf n M v).isSome]) ∧ Off [] w w' := gen_any h.card h.n0 h.n1 v h0 h1
/-- The document's list, from its cards. -/
theorem CBoth.lst : ∃ la lcap len, w.cell? ⟨rb, 1, none⟩ = some (.slice la len lcap) ∧ len ≤ 1024 := by
  obtain ⟨T, V, v, r1, r2, r3⟩ := h.sp.both.ref
  obtain ⟨la, lcap, lg, hv, _, _⟩ := r1.form
  have hl := r1.l
  have := r2.len
  have := h.n1
  rw [hv] at hl
  exact ⟨_, _, _, hl, by omega⟩
end
/-- What both answer to Alloc. -/
def CAlloc1 (w1 : World) (cb pb mb sb db qb rb n : Nat) (M : MemS) (C : Nat → Int) (c : Nat) (X : List Nat) (g k cc : Int) (s8 s9 : Value) (w' : World) : Prop :=
  ∃ r s M' C', s8 = .int .i64 r ∧ s9 = .int .i64 s ∧ AllocIs n M C g k cc r s M' C' ∧ CBoth w' cb pb mb sb db qb rb n M' M C' C (c + 1) X ∧ OffX X w1 w'

section
variable {w : World} {cb pb mb sb db qb rb n c : Nat} {M : MemS} {C : Nat → Int} {X : List Nat}
set_option maxRecDepth 100000 in
set_option maxHeartbeats 2000000 in
theorem cdoes_any (h : CBoth w cb pb mb sb db qb rb n M M C C c X) (hc : c ≤ 900000) (d xa xb xc xu : Int) (ha : xa ≤ 9223372036854775807) (hu0 : 0 ≤ xu) (hu1 : xu ≤ 18446744073709551615) :
    Calls Try.prog 53 #[.pointer (some ⟨cb, 0, none⟩), .pointer (some ⟨db, 0, none⟩), .agg #[.int .i64 d, .int .i64 xa, .int .i64 xb, .int .i64 xc, .int .u64 xu]] w fun e w' =>
      e = .returned (.bool true) ∧ ∃ M' C', CBoth w' cb pb mb sb db qb rb n M' M' C' C' (c + 2) X ∧ OffX X w w' := by
  have hB := h.alloc (.cells #[.int .i64 d, .int .i64 xa, .int .i64 xb, .int .i64 xc, .int .u64 xu] 92)
  have hA := ActV.boxed w d xa xb xc (.int .u64 xu) 92
  have hO := OffX.alloc1 (X := X) w (.cells #[.int .i64 d, .int .i64 xa, .int .i64 xb, .int .i64 xc, .int .u64 xu] 92)
  obtain ⟨la, lcap, len, hl, hlen⟩ := h.lst
  have l2 := ((Off.refl [] w).alloc (.cells #[.int .i64 d, .int .i64 xa, .int .i64 xb, .int .i64 xc, .int .u64 xu] 92)).cell hl (by simp)
  have l0 := hB.dp
  have l1 := hB.sp.qptr
  have p0 := hB.cp
  have HB := Lib.hid hB
  have HO := Lib.hid hO
  have fin : Hid (∀ {w' : World} {M' : MemS} {C' : Nat → Int} {q : Nat}, CBoth w' cb pb mb sb db qb rb n M' M' C' C' q (w.heap.size :: X) → q ≤ c + 2 → OffX (w.heap.size :: X) (w.alloc (.cells #[.int .i64 d, .int .i64 xa, .int .i64 xb, .int .i64 xc, .int .u64 xu] 92)) w' → ∃ M' C', CBoth w' cb pb mb sb db qb rb n M' M' C' C' (c + 2) X ∧ OffX X w w') :=
    Lib.hid fun h1 hq h2 => ⟨_, _, (h1.more hq).less (fun b hb => List.mem_cons_of_mem _ hb), hO.trans (h2.mono (fun b hb => List.mem_cons_of_mem _ hb))⟩
  have HC := Lib.hid hc
  have HU := Lib.hid (And.intro hu0 hu1)
  have HAX := Lib.hid ha
  have q64 : IntKind.i64.wrap (64 * (len : Int)) = 64 * (len : Int) := by rw [IntKind.wrap_i64]; omega
  have S0 : (0 : Int) ≤ 64 * (len : Int) := by omega
  have S1 : 64 * (len : Int) ≤ 100000 := by omega
  clear hB hO h hc hl hu0 hu1 ha hlen
  by_cases e0 : d = 0
  · have f0 : (d == 0) = true := beq_iff_eq.2 e0
    clear e0
    obtain ⟨g0, g1, g2, g3, g4⟩ := hA
    have GA : Hid (ActV (w.alloc (.cells #[.int .i64 d, .int .i64 xa, .int .i64 xb, .int .i64 xc, .int .u64 xu] 92)) w.heap.size d xa xb xc (.int .u64 xu)) := Lib.hid ⟨g0, g1, g2, g3, g4⟩
    go_enter Try.func53, Try.ntmps53
    go_upto_region 4 with fail
    clear g0 g1 g2 g3 g4 l0 l1 l2 p0
    generalize w.alloc (.cells #[.int .i64 d, .int .i64 xa, .int .i64 xb, .int .i64 xc, .int .u64 xu] 92) = w1 at HB HO GA fin ⊢
    generalize w.heap.size = B at HB GA fin ⊢
    go_cut [8, 9] from 33 to 46 (fun s8 s9 w' => CAlloc1 w1 cb pb mb sb db qb rb n M C c (B :: X) xa xb xc s8 s9 w')
    case first =>
      go_region_held3 (fun w' => ActV w' B d xa xb xc (.int .u64 xu) ∧ w'.cell? ⟨B, 1, none⟩ = some (.int .i64 xa) ∧ w'.cell? ⟨B, 2, none⟩ = some (.int .i64 xb) ∧ w'.cell? ⟨B, 3, none⟩ = some (.int .i64 xc) ∧ w'.cell? ⟨cb, 0, none⟩ = some (.pointer (some ⟨pb, 0, none⟩)))
        (first | with_reducible assumption | exact ⟨GA.out, GA.out.2.1, GA.out.2.2.1, GA.out.2.2.2.1, HB.out.cp⟩ | exact ⟨(ActV.offX (‹ActV _ _ _ _ _ _ _ ∧ _›).1 (‹OffX _ _ _›)), (ActV.offX (‹ActV _ _ _ _ _ _ _ ∧ _›).1 (‹OffX _ _ _›)).2.1, (ActV.offX (‹ActV _ _ _ _ _ _ _ ∧ _›).1 (‹OffX _ _ _›)).2.2.1, (ActV.offX (‹ActV _ _ _ _ _ _ _ ∧ _›).1 (‹OffX _ _ _›)).2.2.2.1, CBoth.cp (‹CBoth _ cb pb mb sb db qb rb n _ _ _ _ _ _›)⟩ | fail)
        (first
          | (go_at_call 35; refine (CBoth.palloc (CBoth.drew HB.out) (by have := HC.out; omega) xa xb xc).mono ?_; rintro e w' ⟨r, s, M', C', rfl, hT, hp, Op⟩)
          | fail)
      all_goals (
        have FIN : Hid (CAlloc1 w1 cb pb mb sb db qb rb n M C c (B :: X) xa xb xc (.int .i64 r) (.int .i64 s) w') := Lib.hid ⟨r, s, M', C', rfl, rfl, hT, hp, ((OffX.refl _ _).drew).trans Op⟩
        clear hp Op hT
        rename_i hh
        clear hh
        go_wp2_with fail
        go_meet
        exact FIN.out)
    case rest =>
      obtain ⟨r, s, M', C', rfl, rfl, hT, h1, O1⟩ := hcut
      have HT := Lib.hid hT
      have OO1 := Lib.hid O1
      have GB : Hid (ActV wc B d xa xb xc (.int .u64 xu)) := Lib.hid (GA.out.offX O1)
      have H1 := Lib.hid h1
      obtain ⟨g0, g1, g2, g3, g4⟩ := GB.out
      have l0 := h1.dp
      clear hT h1 O1
      go_upto_region 5 with fail
      clear g0 g1 g2 g3 g4 l0
      go_cut [10, 11] from 47 to 60 (fun s8 s9 w' => s8 = .int .i64 r ∧ s9 = .int .i64 s ∧ CBoth w' cb pb mb sb db qb rb n M' M' C' C' (c + 2) (B :: X) ∧ OffX (B :: X) wc w')
      case first =>
        go_region_held3 (fun w' => ActV w' B d xa xb xc (.int .u64 xu) ∧ w'.cell? ⟨B, 1, none⟩ = some (.int .i64 xa) ∧ w'.cell? ⟨B, 2, none⟩ = some (.int .i64 xb) ∧ w'.cell? ⟨B, 3, none⟩ = some (.int .i64 xc) ∧ w'.cell? ⟨db, 0, none⟩ = some (.pointer (some ⟨qb, 0, none⟩)))
          (first | with_reducible assumption | exact ⟨GB.out, GB.out.2.1, GB.out.2.2.1, GB.out.2.2.2.1, H1.out.dp⟩ | exact ⟨(ActV.offX (‹ActV _ _ _ _ _ _ _ ∧ _›).1 (‹OffX _ _ _›)), (ActV.offX (‹ActV _ _ _ _ _ _ _ ∧ _›).1 (‹OffX _ _ _›)).2.1, (ActV.offX (‹ActV _ _ _ _ _ _ _ ∧ _›).1 (‹OffX _ _ _›)).2.2.1, (ActV.offX (‹ActV _ _ _ _ _ _ _ ∧ _›).1 (‹OffX _ _ _›)).2.2.2.1, CBoth.dp (‹CBoth _ cb pb mb sb db qb rb n _ _ _ _ _ _›)⟩ | fail)
          (first
            | (go_at_call 75; refine (CBoth.dalloc (CBoth.drew H1.out) xa xb xc HT.out).mono ?_; rintro e w' ⟨rfl, hp, Op⟩)
            | fail)
        all_goals (
          have FIN : Hid (CBoth w' cb pb mb sb db qb rb n M' M' C' C' (c + 2) (B :: X) ∧ OffX (B :: X) wc w') := Lib.hid ⟨hp, ((OffX.refl _ _).drew).trans Op⟩
          clear hp Op
          rename_i hh
          clear hh
          go_wp2_with fail
          go_meet
          exact ⟨rfl, rfl, FIN.out⟩)
      case rest =>
        obtain ⟨rfl, rfl, h2, O2⟩ := hcut
        have FIN := Lib.hid (fin.out h2 (by omega) (OO1.out.trans O2))
        clear h2 O2
        go_wp2_with fail
        go_ret
        exact ⟨rfl, FIN.out⟩
  by_cases e1 : d = 1
  · have f0 : (d == 0) = false := beq_eq_false_iff_ne.2 e0
    have f1 : (d == 1) = true := beq_iff_eq.2 e1
    clear e0 e1
    obtain ⟨g0, g1, g2, g3, g4⟩ := hA
    have GA : Hid (ActV (w.alloc (.cells #[.int .i64 d, .int .i64 xa, .int .i64 xb, .int .i64 xc, .int .u64 xu] 92)) w.heap.size d xa xb xc (.int .u64 xu)) := Lib.hid ⟨g0, g1, g2, g3, g4⟩
    go_enter Try.func53, Try.ntmps53
    go_wp2_with fail
    refine (word_any d xa xb xc xu (64 * (len : Int)) _ S0 S1 HU.out.1 HU.out.2).mono ?_
    rintro e w2 ⟨v, rfl, v0, v1, O2⟩
    have OX2 : Hid (OffX (w.heap.size :: X) (w.alloc (.cells #[.int .i64 d, .int .i64 xa, .int .i64 xb, .int .i64 xc, .int .u64 xu] 92)) w2) := Lib.hid (BothAt.offX O2)
    have H2 := Lib.hid (HB.out.off O2)
    have GA2 := Lib.hid (GA.out.offX OX2.out)
    clear O2 g0 g1 g2 g3 g4 l0 l1 l2 p0 HB
    generalize w.alloc (.cells #[.int .i64 d, .int .i64 xa, .int .i64 xb, .int .i64 xc, .int .u64 xu] 92) = w1 at HO GA fin OX2 ⊢
    generalize w.heap.size = B at GA fin OX2 H2 GA2 ⊢
    have HV := Lib.hid (And.intro v0 v1)
    obtain ⟨gv, hgv⟩ : ∃ gv, (genOf n M v).getD 0 = gv := ⟨_, rfl⟩
    obtain ⟨gs, hgs⟩ : ∃ gs, (genOf n M v).isSome = gs := ⟨_, rfl⟩
    have HGV := Lib.hid (And.intro hgv hgs)
    obtain ⟨s, M', hG⟩ := StoreIs.ex n M xa v
    have HG := Lib.hid hG
    clear hG hgv hgs v0 v1
    go_wp2_with fail
    refine (H2.out.pgen v HV.out.1 HV.out.2).mono ?_
    rintro e w3 ⟨rfl, O3⟩
    rw [HGV.out.1, HGV.out.2]
    have OX3 : Hid (OffX (B :: X) w1 w3) := Lib.hid (OX2.out.trans (BothAt.offX O3))
    have H3 := Lib.hid (H2.out.off O3)
    clear O3
    go_wp2_with fail
    refine (H3.out.dgen v HV.out.1 HV.out.2).mono ?_
    rintro e w4 ⟨rfl, O4⟩
    rw [HGV.out.1, HGV.out.2]
    have OX4 : Hid (OffX (B :: X) w1 w4) := Lib.hid (OX3.out.trans (BothAt.offX O4))
    have HB := Lib.hid (H3.out.off O4)
    have GB := Lib.hid (GA.out.offX OX4.out)
    clear O4
    go_upto_region 12 with fail
    go_region_held3 (fun w' => ActV w' B d xa xb xc (.int .u64 xu) ∧ w'.cell? ⟨B, 1, none⟩ = some (.int .i64 xa))
      (first | with_reducible assumption | exact ⟨GB.out, GB.out.2.1⟩ | exact ⟨(ActV.offX (‹ActV _ _ _ _ _ _ _ ∧ _›).1 (‹OffX _ _ _›)), (ActV.offX (‹ActV _ _ _ _ _ _ _ ∧ _›).1 (‹OffX _ _ _›)).2.1⟩ | fail)
      (first
        | (go_at_call 46; first | (refine (CBoth.pstore hd _ _ HAX.out HV.out.1 HV.out.2 HG.out).mono ?_; rintro e w' ⟨rfl, hp, Op⟩) | (refine (CBoth.pstore (CBoth.drew HB.out) _ _ HAX.out HV.out.1 HV.out.2 HG.out).mono ?_; rintro e w' ⟨rfl, hp, Op⟩))
        | (go_at_call 85; first | (refine (CBoth.dstore hp _ _ HAX.out HV.out.1 HV.out.2 HG.out).mono ?_; rintro e w' ⟨rfl, hd, Od⟩) | (refine (CBoth.dstore (CBoth.drew HB.out) _ _ HAX.out HV.out.1 HV.out.2 HG.out).mono ?_; rintro e w' ⟨rfl, hd, Od⟩))
        | fail)
    all_goals (
      have FIN : Hid (∃ N' E', CBoth w' cb pb mb sb db qb rb n N' N' E' E' (c + 2) X ∧ OffX X w w') := by
        first
          | exact Lib.hid (fin.out hd (by omega) (OX4.out.trans (((OffX.refl _ _).drew).trans (Op.trans Od))))
          | exact Lib.hid (fin.out hp (by omega) (OX4.out.trans (((OffX.refl _ _).drew).trans (Od.trans Op))))
      clear hp hd Op Od
      rename_i hh
      clear hh
      go_wp2_with fail
      go_ret
      exact ⟨rfl, FIN.out⟩)
  by_cases e2 : d = 2
  · have f0 : (d == 0) = false := beq_eq_false_iff_ne.2 e0
    have f1 : (d == 1) = false := beq_eq_false_iff_ne.2 e1
    have f2 : (d == 2) = true := beq_iff_eq.2 e2
    clear e0 e1 e2
    obtain ⟨g0, g1, g2, g3, g4⟩ := hA
    have GA : Hid (ActV (w.alloc (.cells #[.int .i64 d, .int .i64 xa, .int .i64 xb, .int .i64 xc, .int .u64 xu] 92)) w.heap.size d xa xb xc (.int .u64 xu)) := Lib.hid ⟨g0, g1, g2, g3, g4⟩
    go_enter Try.func53, Try.ntmps53
    go_wp2_with fail
    refine (word_any d xa xb xc xu (64 * (len : Int)) _ S0 S1 HU.out.1 HU.out.2).mono ?_
    rintro e w2 ⟨v, rfl, v0, v1, O2⟩
    have OX2 : Hid (OffX (w.heap.size :: X) (w.alloc (.cells #[.int .i64 d, .int .i64 xa, .int .i64 xb, .int .i64 xc, .int .u64 xu] 92)) w2) := Lib.hid (BothAt.offX O2)
    have H2 := Lib.hid (HB.out.off O2)
    have GA2 := Lib.hid (GA.out.offX OX2.out)
    clear O2 g0 g1 g2 g3 g4 l0 l1 l2 p0 HB
    generalize w.alloc (.cells #[.int .i64 d, .int .i64 xa, .int .i64 xb, .int .i64 xc, .int .u64 xu] 92) = w1 at HO GA fin OX2 ⊢
    generalize w.heap.size = B at GA fin OX2 H2 GA2 ⊢
    have HV := Lib.hid (And.intro v0 v1)
    obtain ⟨gv, hgv⟩ : ∃ gv, (genOf n M v).getD 0 = gv := ⟨_, rfl⟩
    obtain ⟨gs, hgs⟩ : ∃ gs, (genOf n M v).isSome = gs := ⟨_, rfl⟩
    have HGV := Lib.hid (And.intro hgv hgs)
    obtain ⟨s, M', hG⟩ := StoreIs.ex n M xa v
    have HG := Lib.hid hG
    clear hG hgv hgs v0 v1
    go_wp2_with fail
    refine (H2.out.pgen v HV.out.1 HV.out.2).mono ?_
    rintro e w3 ⟨rfl, O3⟩
    rw [HGV.out.1, HGV.out.2]
    have OX3 : Hid (OffX (B :: X) w1 w3) := Lib.hid (OX2.out.trans (BothAt.offX O3))
    have H3 := Lib.hid (H2.out.off O3)
    clear O3
    go_wp2_with fail
    refine (H3.out.dgen v HV.out.1 HV.out.2).mono ?_
    rintro e w4 ⟨rfl, O4⟩
    rw [HGV.out.1, HGV.out.2]
    have OX4 : Hid (OffX (B :: X) w1 w4) := Lib.hid (OX3.out.trans (BothAt.offX O4))
    have HB := Lib.hid (H3.out.off O4)
    have GB := Lib.hid (GA.out.offX OX4.out)
    clear O4
    go_upto_region 12 with fail
    go_region_held3 (fun w' => ActV w' B d xa xb xc (.int .u64 xu) ∧ w'.cell? ⟨B, 1, none⟩ = some (.int .i64 xa))
      (first | with_reducible assumption | exact ⟨GB.out, GB.out.2.1⟩ | exact ⟨(ActV.offX (‹ActV _ _ _ _ _ _ _ ∧ _›).1 (‹OffX _ _ _›)), (ActV.offX (‹ActV _ _ _ _ _ _ _ ∧ _›).1 (‹OffX _ _ _›)).2.1⟩ | fail)
      (first
        | (go_at_call 46; first | (refine (CBoth.pstore hd _ _ HAX.out HV.out.1 HV.out.2 HG.out).mono ?_; rintro e w' ⟨rfl, hp, Op⟩) | (refine (CBoth.pstore (CBoth.drew HB.out) _ _ HAX.out HV.out.1 HV.out.2 HG.out).mono ?_; rintro e w' ⟨rfl, hp, Op⟩))
        | (go_at_call 85; first | (refine (CBoth.dstore hp _ _ HAX.out HV.out.1 HV.out.2 HG.out).mono ?_; rintro e w' ⟨rfl, hd, Od⟩) | (refine (CBoth.dstore (CBoth.drew HB.out) _ _ HAX.out HV.out.1 HV.out.2 HG.out).mono ?_; rintro e w' ⟨rfl, hd, Od⟩))
        | fail)
    all_goals (
      have FIN : Hid (∃ N' E', CBoth w' cb pb mb sb db qb rb n N' N' E' E' (c + 2) X ∧ OffX X w w') := by
        first
          | exact Lib.hid (fin.out hd (by omega) (OX4.out.trans (((OffX.refl _ _).drew).trans (Op.trans Od))))
          | exact Lib.hid (fin.out hp (by omega) (OX4.out.trans (((OffX.refl _ _).drew).trans (Od.trans Op))))
      clear hp hd Op Od
      rename_i hh
      clear hh
      go_wp2_with fail
      go_ret
      exact ⟨rfl, FIN.out⟩)
  by_cases e3 : d = 3
  · have f0 : (d == 0) = false := beq_eq_false_iff_ne.2 e0
    have f1 : (d == 1) = false := beq_eq_false_iff_ne.2 e1
    have f2 : (d == 2) = false := beq_eq_false_iff_ne.2 e2
    have f3 : (d == 3) = true := beq_iff_eq.2 e3
    clear e0 e1 e2 e3
    obtain ⟨g0, g1, g2, g3, g4⟩ := hA
    have GA : Hid (ActV (w.alloc (.cells #[.int .i64 d, .int .i64 xa, .int .i64 xb, .int .i64 xc, .int .u64 xu] 92)) w.heap.size d xa xb xc (.int .u64 xu)) := Lib.hid ⟨g0, g1, g2, g3, g4⟩
    go_enter Try.func53, Try.ntmps53
    obtain ⟨s, M', hG⟩ := AgainIs.ex n M xa xb
    have HG := Lib.hid hG
    clear hG
    go_upto_region 14 with fail
    clear g0 g1 g2 g3 g4 l0 l1 l2 p0
    generalize w.alloc (.cells #[.int .i64 d, .int .i64 xa, .int .i64 xb, .int .i64 xc, .int .u64 xu] 92) = w1 at HB HO GA fin ⊢
    generalize w.heap.size = B at HB GA fin ⊢
    have HKM := Lib.hid HB.out.sp.kc
    go_region_held3 (fun w' => ActV w' B d xa xb xc (.int .u64 xu) ∧ w'.cell? ⟨B, 1, none⟩ = some (.int .i64 xa) ∧ w'.cell? ⟨B, 2, none⟩ = some (.int .i64 xb))
      (first | with_reducible assumption | exact ⟨GA.out, GA.out.2.1, GA.out.2.2.1⟩ | exact ⟨(ActV.offX (‹ActV _ _ _ _ _ _ _ ∧ _›).1 (‹OffX _ _ _›)), (ActV.offX (‹ActV _ _ _ _ _ _ _ ∧ _›).1 (‹OffX _ _ _›)).2.1, (ActV.offX (‹ActV _ _ _ _ _ _ _ ∧ _›).1 (‹OffX _ _ _›)).2.2.1⟩ | fail)
      (first
        | (go_at_call 41; first | (refine (CBoth.pagain hd _ _ HG.out).mono ?_; rintro e w' ⟨rfl, hp, Op⟩) | (refine (CBoth.pagain (CBoth.drew HB.out) _ _ HG.out).mono ?_; rintro e w' ⟨rfl, hp, Op⟩))
        | (go_at_call 86; first | (refine (CBoth.dagain hp HKM.out _ _ HG.out).mono ?_; rintro e w' ⟨rfl, hd, Od⟩) | (refine (CBoth.dagain (CBoth.drew HB.out) HKM.out _ _ HG.out).mono ?_; rintro e w' ⟨rfl, hd, Od⟩))
        | fail)
    all_goals (
      have FIN : Hid (∃ N' E', CBoth w' cb pb mb sb db qb rb n N' N' E' E' (c + 2) X ∧ OffX X w w') := by
        first
          | exact Lib.hid (fin.out hd (by omega) (((OffX.refl _ _).drew).trans (Op.trans Od)))
          | exact Lib.hid (fin.out hp (by omega) (((OffX.refl _ _).drew).trans (Od.trans Op)))
      clear hp hd Op Od
      rename_i hh
      clear hh
      go_wp2_with fail
      go_ret
      exact ⟨rfl, FIN.out⟩)
  by_cases e4 : d = 4
  · have f0 : (d == 0) = false := beq_eq_false_iff_ne.2 e0
    have f1 : (d == 1) = false := beq_eq_false_iff_ne.2 e1
    have f2 : (d == 2) = false := beq_eq_false_iff_ne.2 e2
    have f3 : (d == 3) = false := beq_eq_false_iff_ne.2 e3
    have f4 : (d == 4) = true := beq_iff_eq.2 e4
    clear e0 e1 e2 e3 e4
    obtain ⟨g0, g1, g2, g3, g4⟩ := hA
    have GA : Hid (ActV (w.alloc (.cells #[.int .i64 d, .int .i64 xa, .int .i64 xb, .int .i64 xc, .int .u64 xu] 92)) w.heap.size d xa xb xc (.int .u64 xu)) := Lib.hid ⟨g0, g1, g2, g3, g4⟩
    go_enter Try.func53, Try.ntmps53
    obtain ⟨s, M', hG⟩ := WriteIs.ex n M xa xu
    have HG := Lib.hid hG
    clear hG
    go_upto_region 16 with fail
    clear g0 g1 g2 g3 g4 l0 l1 l2 p0
    generalize w.alloc (.cells #[.int .i64 d, .int .i64 xa, .int .i64 xb, .int .i64 xc, .int .u64 xu] 92) = w1 at HB HO GA fin ⊢
    generalize w.heap.size = B at HB GA fin ⊢
    have HKM := Lib.hid HB.out.sp.kc
    go_region_held3 (fun w' => ActV w' B d xa xb xc (.int .u64 xu) ∧ w'.cell? ⟨B, 1, none⟩ = some (.int .i64 xa) ∧ w'.cell? ⟨B, 4, none⟩ = some (.int .u64 xu) ∧ w'.cell? ⟨cb, 0, none⟩ = some (.pointer (some ⟨pb, 0, none⟩)) ∧ w'.cell? ⟨pb, 0, none⟩ = some (.pointer (some ⟨mb, 0, none⟩)) ∧ w'.cell? ⟨db, 0, none⟩ = some (.pointer (some ⟨qb, 0, none⟩)) ∧ w'.cell? ⟨qb, 0, none⟩ = some (.pointer (some ⟨rb, 0, none⟩)))
      (first | with_reducible assumption | exact ⟨GA.out, GA.out.2.1, GA.out.2.2.2.2, HB.out.cp, HB.out.sp.pptr, HB.out.dp, HB.out.sp.qptr⟩ | exact ⟨(ActV.offX (‹ActV _ _ _ _ _ _ _ ∧ _›).1 (‹OffX _ _ _›)), (ActV.offX (‹ActV _ _ _ _ _ _ _ ∧ _›).1 (‹OffX _ _ _›)).2.1, (ActV.offX (‹ActV _ _ _ _ _ _ _ ∧ _›).1 (‹OffX _ _ _›)).2.2.2.2, CBoth.cp (‹CBoth _ cb pb mb sb db qb rb n _ _ _ _ _ _›), SBoth.pptr (CBoth.sp (‹CBoth _ cb pb mb sb db qb rb n _ _ _ _ _ _›)), CBoth.dp (‹CBoth _ cb pb mb sb db qb rb n _ _ _ _ _ _›), SBoth.qptr (CBoth.sp (‹CBoth _ cb pb mb sb db qb rb n _ _ _ _ _ _›))⟩ | fail)
      (first
        | (go_at_call 20; first | (refine (CBoth.pwrite hd _ _ HAX.out HU.out.1 HU.out.2 HG.out).mono ?_; rintro e w' ⟨rfl, hp, Op⟩) | (refine (CBoth.pwrite (CBoth.drew HB.out) _ _ HAX.out HU.out.1 HU.out.2 HG.out).mono ?_; rintro e w' ⟨rfl, hp, Op⟩))
        | (go_at_call 66; first | (refine (CBoth.dwrite hp _ _ HAX.out HG.out).mono ?_; rintro e w' ⟨rfl, hd, Od⟩) | (refine (CBoth.dwrite (CBoth.drew HB.out) _ _ HAX.out HG.out).mono ?_; rintro e w' ⟨rfl, hd, Od⟩))
        | fail)
    all_goals (
      have FIN : Hid (∃ N' E', CBoth w' cb pb mb sb db qb rb n N' N' E' E' (c + 2) X ∧ OffX X w w') := by
        first
          | exact Lib.hid (fin.out hd (by omega) (((OffX.refl _ _).drew).trans (Op.trans Od)))
          | exact Lib.hid (fin.out hp (by omega) (((OffX.refl _ _).drew).trans (Od.trans Op)))
      clear hp hd Op Od
      rename_i hh
      clear hh
      go_wp2_with fail
      go_ret
      exact ⟨rfl, FIN.out⟩)
  by_cases e5 : d = 5
  · have f0 : (d == 0) = false := beq_eq_false_iff_ne.2 e0
    have f1 : (d == 1) = false := beq_eq_false_iff_ne.2 e1
    have f2 : (d == 2) = false := beq_eq_false_iff_ne.2 e2
    have f3 : (d == 3) = false := beq_eq_false_iff_ne.2 e3
    have f4 : (d == 4) = false := beq_eq_false_iff_ne.2 e4
    have f5 : (d == 5) = true := beq_iff_eq.2 e5
    clear e0 e1 e2 e3 e4 e5
    obtain ⟨g0, g1, g2, g3, g4⟩ := hA
    have GA : Hid (ActV (w.alloc (.cells #[.int .i64 d, .int .i64 xa, .int .i64 xb, .int .i64 xc, .int .u64 xu] 92)) w.heap.size d xa xb xc (.int .u64 xu)) := Lib.hid ⟨g0, g1, g2, g3, g4⟩
    go_enter Try.func53, Try.ntmps53
    obtain ⟨s, M', C', hG⟩ := SGiveIs.ex n M C xa
    have HG := Lib.hid hG
    clear hG
    go_upto_region 18 with fail
    clear g0 g1 g2 g3 g4 l0 l1 l2 p0
    generalize w.alloc (.cells #[.int .i64 d, .int .i64 xa, .int .i64 xb, .int .i64 xc, .int .u64 xu] 92) = w1 at HB HO GA fin ⊢
    generalize w.heap.size = B at HB GA fin ⊢
    have HKM := Lib.hid HB.out.sp.kc
    go_region_held3 (fun w' => ActV w' B d xa xb xc (.int .u64 xu) ∧ w'.cell? ⟨B, 1, none⟩ = some (.int .i64 xa) ∧ w'.cell? ⟨cb, 0, none⟩ = some (.pointer (some ⟨pb, 0, none⟩)) ∧ w'.cell? ⟨db, 0, none⟩ = some (.pointer (some ⟨qb, 0, none⟩)))
      (first | with_reducible assumption | exact ⟨GA.out, GA.out.2.1, HB.out.cp, HB.out.dp⟩ | exact ⟨(ActV.offX (‹ActV _ _ _ _ _ _ _ ∧ _›).1 (‹OffX _ _ _›)), (ActV.offX (‹ActV _ _ _ _ _ _ _ ∧ _›).1 (‹OffX _ _ _›)).2.1, CBoth.cp (‹CBoth _ cb pb mb sb db qb rb n _ _ _ _ _ _›), CBoth.dp (‹CBoth _ cb pb mb sb db qb rb n _ _ _ _ _ _›)⟩ | fail)
      (first
        | (go_at_call 36; first | (refine (CBoth.pgive hd _ HG.out).mono ?_; rintro e w' ⟨rfl, hp, Op⟩) | (refine (CBoth.pgive (CBoth.drew HB.out) _ HG.out).mono ?_; rintro e w' ⟨rfl, hp, Op⟩))
        | (go_at_call 76; first | (refine (CBoth.dgive hp _ HG.out).mono ?_; rintro e w' ⟨rfl, hd, Od⟩) | (refine (CBoth.dgive (CBoth.drew HB.out) _ HG.out).mono ?_; rintro e w' ⟨rfl, hd, Od⟩))
        | fail)
    all_goals (
      have FIN : Hid (∃ N' E', CBoth w' cb pb mb sb db qb rb n N' N' E' E' (c + 2) X ∧ OffX X w w') := by
        first
          | exact Lib.hid (fin.out hd (by omega) (((OffX.refl _ _).drew).trans (Op.trans Od)))
          | exact Lib.hid (fin.out hp (by omega) (((OffX.refl _ _).drew).trans (Od.trans Op)))
      clear hp hd Op Od
      rename_i hh
      clear hh
      go_wp2_with fail
      go_ret
      exact ⟨rfl, FIN.out⟩)
  have f0 : (d == 0) = false := beq_eq_false_iff_ne.2 e0
  have f1 : (d == 1) = false := beq_eq_false_iff_ne.2 e1
  have f2 : (d == 2) = false := beq_eq_false_iff_ne.2 e2
  have f3 : (d == 3) = false := beq_eq_false_iff_ne.2 e3
  have f4 : (d == 4) = false := beq_eq_false_iff_ne.2 e4
  have f5 : (d == 5) = false := beq_eq_false_iff_ne.2 e5
  clear e0 e1 e2 e3 e4 e5
  obtain ⟨g0, g1, g2, g3, g4⟩ := hA
  have GA : Hid (ActV (w.alloc (.cells #[.int .i64 d, .int .i64 xa, .int .i64 xb, .int .i64 xc, .int .u64 xu] 92)) w.heap.size d xa xb xc (.int .u64 xu)) := Lib.hid ⟨g0, g1, g2, g3, g4⟩
  go_enter Try.func53, Try.ntmps53
  go_wp2_with fail
  go_ret
  exact ⟨rfl, fin.out HB.out (by omega) (OffX.refl _ _)⟩
end
end Go.Proofs.Ytoafoodgomnfeaa
