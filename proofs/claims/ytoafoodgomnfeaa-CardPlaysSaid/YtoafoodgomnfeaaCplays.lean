/-
  YtoafoodgomnfeaaCplays: the walk of CardPlays.
-/
import Derived.Test.YtoafoodgomnfeaaCstands
namespace Go.Proofs.Ytoafoodgomnfeaa
open Go.RowKit
set_option linter.unusedVariables false

theorem MarkIs.cur {n : Nat} {M M' : MemS} {C : Nat → Int} {a c m s : Int} (h : CurOk n M C) (hG : MarkIs n M a c m s M') : CurOk n M' C := by
  rcases hG with ⟨_, _, _, _, _, _, rfl⟩ | ⟨_, _, rfl⟩ | ⟨_, _, _, rfl⟩
  · exact h.mark _ _ _
  · exact h
  · exact h
theorem MarkIs.kc {n : Nat} {M M' : MemS} {a c m s : Int} (h : Kc n M) (hG : MarkIs n M a c m s M') : Kc n M' := by
  rcases hG with ⟨_, ht, c0, c4, m0, m5, rfl⟩ | ⟨_, _, rfl⟩ | ⟨_, _, _, rfl⟩
  · obtain ⟨c', rfl⟩ : ∃ c' : Nat, c = c' := ⟨c.toNat, by omega⟩
    exact h.mark (by have := ht.1; have := ht.2.1; omega) c' (by omega) m0 m5
  · exact h
  · exact h
theorem CBoth.pmark {w : World} {cb pb mb sb db qb rb n c : Nat} {M R : MemS} {C D : Nat → Int} {X : List Nat} (h : CBoth w cb pb mb sb db qb rb n M R C D c X) (a k m : Int) {s : Int} {M' : MemS} (hG : MarkIs n M a k m s M') :
    Calls Try.prog 28 #[.pointer (some ⟨mb, 0, none⟩), .int .i64 a, .int .i64 k, .int .i64 m] w fun e w' => e = .returned (.int .i64 s) ∧ CBoth w' cb pb mb sb db qb rb n M' R C D c X ∧ OffX X w w' := by
  refine (h.sp.both.pmark a k m hG).mono ?_
  rintro e w' ⟨rfl, hB, O⟩
  have S := h.sp.pmem hB O (hG.cur h.sp.okC) (hG.kc h.sp.kc)
  exact ⟨rfl, h.spaces S.1 S.2⟩

/-- At the head of each round. -/
def CPlRel (W1 : World) (B db qb rb n k : Nat) (s : Value) (wr : World) : Prop :=
  ∃ cb pb mb sb M C c, s = .pointer (some ⟨cb, 0, none⟩) ∧ c ≤ 3 * k ∧ CBoth wr cb pb mb sb db qb rb n M M C C c (List.range B) ∧ OffX (List.range B) W1 wr ∧ B ≤ cb ∧ B ≤ pb ∧ B ≤ mb ∧ B ≤ sb

set_option maxHeartbeats 2000000 in
set_option maxRecDepth 100000 in
theorem cplays_true (n : Nat) (a : Option Addr) (len cap : Nat) (Y : Nat → ActS) (w : World) (hY : ActsAt w a len Y) (hlen : len ≤ 300) (h1 : 8 ≤ n) (h2 : n ≤ 1024) :
    Calls Try.prog 12 #[.int .i64 n, .slice a len cap] w fun e w' => e = .returned (.bool true) ∧ Off [] w w' := by
  obtain ⟨ab, ao, hao, hact⟩ := hY
  have HX := Lib.hid hact
  have HAO := Lib.hid hao
  clear hact hao
  go_enter Try.func12, Try.ntmps12
  go_wp2_with fail
  refine (cnew_ok _ n w rfl h1 h2).mono ?_
  rintro e w1 ⟨cb, pb, mb, sb, rfl, H, O, z0, z1, z2, z3⟩
  have H1 := Lib.hid H
  have O1 := Lib.hid O
  clear H O
  go_wp2_with fail
  refine (rcnew_ok n w1 h1 h2).mono ?_
  rintro e W1 ⟨db, qb, rb, rfl, hR⟩
  have hB := CBoth.made (X := List.range w.heap.size) H1.out h1 h2 hR (fun b hb => by simp only [List.mem_range] at hb; omega)
  have HB := Lib.hid hB
  obtain ⟨_, _, _, _, _, O2, _⟩ := hR
  have OW := Lib.hid (O1.out.trans O2)
  have HGE : Hid (w.heap.size ≤ cb ∧ w.heap.size ≤ pb ∧ w.heap.size ≤ mb ∧ w.heap.size ≤ sb) := Lib.hid ⟨z0, z1, z2, z3⟩
  clear hB O2 H1 O1 z0 z1 z2 z3
  generalize hs : w.heap.size = B at *
  have HBS := Lib.hid hs
  clear hs
  go_wp2_with fail
  refine (cstands_true HB.out).mono ?_
  rintro e W2 ⟨rfl, O3⟩
  have HB2 := Lib.hid (HB.out.off O3)
  have OX2 : Hid (OffX (List.range B) W1 W2) := Lib.hid (BothAt.offX O3)
  clear O3
  go_wp2_with fail
  go_loopw [5, 8] (fun s i wr => ∃ k : Nat, k ≤ len ∧ i = .int .i64 k ∧ CPlRel W1 B db qb rb n k s wr) (fun _ i _ => len - (intOf i).toNat)
  case atStart => exact ⟨0, by omega, rfl, cb, pb, mb, sb, _, _, 0, rfl, by omega, HB2.out, OX2.out, HGE.out⟩
  case round =>
    obtain ⟨k, hk, rfl, cb2, pb2, mb2, sb2, M, C, c, rfl, hck, hB, hOX, hge⟩ := hrel
    have HB3 := Lib.hid hB
    have OX3 := Lib.hid hOX
    have HGE3 := Lib.hid hge
    clear hB hOX hge
    by_cases hlt : k < len
    · cases HAO.out (by omega)
      obtain ⟨hc, hok⟩ := HX.out k hlt
      have ha1 := hok.a1
      have hu0 := hok.w0
      have hu1 := hok.w1
      have hw1 := World.block_lt_of_cell? _ _ (hc 0 (by omega))
      have HIN : Hid (ab ∈ List.range B) := Lib.hid (by rw [← HBS.out]; simpa using hw1)
      have hc' : ∀ j, j < 5 → wr.cell? ⟨ab, ao + k * 5 + j, none⟩ = some ((Y k).cellOf j) := fun j hj => OX3.out.cell (OW.out.cell (hc j hj) (by simp)) HIN.out
      clear hc hw1 hok
      generalize Y k = x at *
      obtain ⟨d, xa, xb, xc, xu⟩ := x
      simp only [] at ha1 hu0 hu1
      have CELLS : Hid (∀ w', OffX (List.range B) wr w' → w'.cell? ⟨ab, ao + k * 5, none⟩ = some (.int .i64 d) ∧ w'.cell? ⟨ab, ao + k * 5 + 1, none⟩ = some (.int .i64 xa) ∧ w'.cell? ⟨ab, ao + k * 5 + 2, none⟩ = some (.int .i64 xb) ∧ w'.cell? ⟨ab, ao + k * 5 + 3, none⟩ = some (.int .i64 xc) ∧ w'.cell? ⟨ab, ao + k * 5 + 4, none⟩ = some (.int .u64 xu)) := Lib.hid (fun w' O => by
        have g0 := O.cell (hc' 0 (by omega)) HIN.out
        have g1 := O.cell (hc' 1 (by omega)) HIN.out
        have g2 := O.cell (hc' 2 (by omega)) HIN.out
        have g3 := O.cell (hc' 3 (by omega)) HIN.out
        have g4 := O.cell (hc' 4 (by omega)) HIN.out
        exact ⟨g0, g1, g2, g3, g4⟩)
      obtain ⟨c0, c1, c2, c3, c4⟩ := CELLS.out wr (OffX.refl _ _)
      clear hc'
      by_cases e6 : d = 6
      · have f6 : (d == 6) = true := beq_iff_eq.2 e6
        clear e6
        go_wp2_with fail
        refine (ccopy_all HB3.out.card HB3.out.n0 HB3.out.n1).mono ?_
        rintro e w4 ⟨cb', pb', mb', sb', ccap, rfl, hm, O4, hb0, hb1, hb2, hb3⟩
        have HB4 := Lib.hid (HB3.out.pushAll O4 (N := [cb', pb', mb', sb']) (fun g hg => by
          have y0 := hm.cb_lt
          have y1 := hm.sp.pb_lt
          have y2 := hm.sp.mem.mb_lt
          have y3 := hm.sp.mem.sb_lt HB3.out.n0
          simp only [List.mem_cons, List.not_mem_nil, or_false] at hg
          omega))
        have HM := Lib.hid hm
        have hcb := HB3.out.cb_lt
        have HLT : Hid (∀ b, b ∈ List.range B → b < cb' ∧ b < pb' ∧ b < mb' ∧ b < sb') := Lib.hid (fun b hb => by
          have y2 := HGE3.out.1
          simp only [List.mem_range] at hb
          omega)
        have HGE4 : Hid (B ≤ cb' ∧ B ≤ pb' ∧ B ≤ mb' ∧ B ≤ sb') := Lib.hid (by
          have y2 := HGE3.out.1
          omega)
        have OX4 : Hid (OffX (List.range B) wr w4) := Lib.hid (BothAt.offX O4)
        have p0 := HB4.out.cp
        clear hm O4 hb0 hb1 hb2 hb3 c0 c1 c2 c3 c4 hcb
        go_wp2_with fail
        refine (HB4.out.palloc (by omega) 0 0 2).mono ?_
        rintro e w5 ⟨r5, s5, M5, C5, rfl, _, hB5, O5⟩
        have HB5 := Lib.hid hB5
        have OX5 := Lib.hid O5
        clear hB5 O5 p0
        obtain ⟨s6, M6, hG6⟩ := StoreIs.ex n M5 0 99
        have HG6 := Lib.hid hG6
        clear hG6
        go_wp2_with fail
        refine (HB5.out.pstore 0 99 (by omega) (by omega) (by omega) HG6.out).mono ?_
        rintro e w6 ⟨rfl, hB6, O6⟩
        have HB6 := Lib.hid hB6
        have OX6 := Lib.hid (OX5.out.trans O6)
        have p0 := hB6.cp
        have p1 := hB6.sp.pptr
        clear hB6 O6
        obtain ⟨s7, M7, hG7⟩ := MarkIs.ex n M6 0 0 0
        have HG7 := Lib.hid hG7
        clear hG7
        go_wp2_with fail
        refine (HB6.out.pmark 0 0 0 HG7.out).mono ?_
        rintro e w7 ⟨rfl, hB7, O7⟩
        have OX7 := Lib.hid (OX6.out.trans O7)
        have HB7 := Lib.hid (hB7.swap HM.out HB3.out.sp.kc OX7.out HLT.out)
        have OX8 : Hid (OffX (List.range B) wr w7) := Lib.hid (OX4.out.trans (OX7.out.mono (fun b hb => by rw [List.mem_append]; exact .inr hb)))
        obtain ⟨c0, c1, c2, c3, c4⟩ := CELLS.out w7 OX8.out
        clear hB7 O7 p0 p1
        go_wp2_with fail
        refine (cdoes_any HB7.out (by omega) d xa xb xc xu ha1 hu0 hu1).mono ?_
        rintro e w8 ⟨rfl, M8, C8, hB8, O8⟩
        have RR : Hid (CPlRel W1 B db qb rb n (k + 1) (.pointer (some ⟨cb', 0, none⟩)) w8) := Lib.hid ⟨cb', pb', mb', sb', M8, C8, _, rfl, by omega, hB8, (OX3.out.trans OX8.out).trans O8, HGE4.out⟩
        clear hB8 O8
        go_wp2_with fail
        go_roundw
        case rel => exact ⟨k + 1, by omega, by go_num, RR.out⟩
        case measure => simp [intOf]; omega
      · have f6 : (d == 6) = false := beq_eq_false_iff_ne.2 e6
        clear e6
        go_wp2_with fail
        refine (cdoes_any HB3.out (by omega) d xa xb xc xu ha1 hu0 hu1).mono ?_
        rintro e w8 ⟨rfl, M8, C8, hB8, O8⟩
        have RR : Hid (CPlRel W1 B db qb rb n (k + 1) (.pointer (some ⟨cb2, 0, none⟩)) w8) := Lib.hid ⟨cb2, pb2, mb2, sb2, M8, C8, _, rfl, by omega, hB8, OX3.out.trans O8, HGE3.out⟩
        clear hB8 O8
        go_wp2_with fail
        go_roundw
        case rel => exact ⟨k + 1, by omega, by go_num, RR.out⟩
        case measure => simp [intOf]; omega
    · go_wp2_with fail
      refine (cstands_true HB3.out).mono ?_
      rintro e w4 ⟨rfl, O4⟩
      have OX4 := Lib.hid (OX3.out.trans (BothAt.offX O4))
      clear O4
      go_wp2_with fail
      refine (awake09_true _).mono ?_
      rintro e w5 ⟨rfl, O5⟩
      have FIN : Hid (Off [] w w5) := Lib.hid (by
        obtain ⟨L, O, hL⟩ := OX4.out
        exact (OW.out.trans_new O (fun x hx => .inr (by have := hL x hx; rw [← HBS.out, List.mem_range] at this; omega))).trans O5)
      clear O5
      go_wp2_with fail
      go_ret
      exact ⟨rfl, FIN.out⟩

set_option maxRecDepth 100000 in
/-- A limit that may not be: no cards. -/
theorem cplays_arg (limit : Int) (a : Option Addr) (len cap : Nat) (w : World) (hx : limit < 8 ∨ 1024 < limit) (hlen : len ≤ 300) :
    Calls Try.prog 12 #[.int .i64 limit, .slice a len cap] w fun e w' => e = .returned (.bool true) ∧ Off [] w w' := by
  have HX := Lib.hid hx
  clear hx
  go_enter Try.func12, Try.ntmps12
  go_wp2_with fail
  refine (cnew_arg limit w HX.out).mono ?_
  rintro e w1 ⟨rfl, rfl⟩
  go_wp2_with fail
  refine (rcnew_arg limit w HX.out).mono ?_
  rintro e w1 ⟨rfl, rfl⟩
  go_wp2_with fail
  refine (awake09_true _).mono ?_
  rintro e w' ⟨rfl, O'⟩
  go_wp2_with fail
  go_ret
  exact ⟨rfl, O'⟩
set_option maxRecDepth 100000 in
/-- Too many calls. -/
theorem cplays_many (limit : Int) (a : Option Addr) (len cap : Nat) (w : World) (hlen : 300 < len) :
    Calls Try.prog 12 #[.int .i64 limit, .slice a len cap] w fun e w' => e = .returned (.bool true) ∧ Off [] w w' := by
  go_enter Try.func12, Try.ntmps12
  go_wp2_with fail
  refine (awake09_true _).mono ?_
  rintro e w' ⟨rfl, O'⟩
  go_wp2_with fail
  go_ret
  exact ⟨rfl, O'⟩
theorem cplays_law (limit : Int) (a : Option Addr) (len cap : Nat) (Y : Nat → ActS) (w : World) (hY : ActsAt w a len Y) :
    Calls Try.prog 12 #[.int .i64 limit, .slice a len cap] w fun e w' => e = .returned (.bool true) ∧ Off [] w w' := by
  by_cases hP : len ≤ 300
  · by_cases hb : limit < 8 ∨ 1024 < limit
    · exact cplays_arg limit a len cap w hb hP
    · obtain ⟨n, rfl, h1, h2⟩ : ∃ n : Nat, limit = n ∧ 8 ≤ n ∧ n ≤ 1024 := ⟨limit.toNat, by omega, by omega, by omega⟩
      exact cplays_true n a len cap Y w hY hP h1 h2
  · exact cplays_many limit a len cap w (by omega)
end Go.Proofs.Ytoafoodgomnfeaa
