/-
  YtoafoodgomnfeaaSplays: the walk of SpacePlays.
-/
import Derived.Test.YtoafoodgomnfeaaSstands
namespace Go.Proofs.Ytoafoodgomnfeaa
open Go.RowKit
set_option linter.unusedVariables false

/-- New blocks are of neither. -/
theorem SBoth.pushAll {w w' : World} {pb mb sb qb rb n c : Nat} {M R : MemS} {C D : Nat → Int} {X : List Nat} (h : SBoth w pb mb sb qb rb n M R C D c X) (O : Off [] w w') {N : List Nat} (hN : ∀ g, g ∈ N → w.heap.size ≤ g ∧ g < w'.heap.size) : SBoth w' pb mb sb qb rb n M R C D c (N ++ X) := by
  have h' := h.off O
  obtain ⟨T, V, v, r1, r2, r3⟩ := h.both.ref
  have m1 := h.both.mem.mb_lt
  have m2 := h.both.mem.sb_lt h.n0
  have a := h.pb_ne.2.2
  have b := h.qb_ne.2.2
  refine ⟨⟨h'.both.mem, h'.both.wf, h'.both.wfr, ⟨T, V, v, r1.off O (by simp), r2, fun q hq => ⟨(r3 q hq).1, (r3 q hq).2.1, fun hx => ?_⟩⟩, fun q hq => ?_, h.n0, h.n1⟩, h'.pptr, h'.pcur, h'.pfz, h'.qptr, h'.qcur, h'.qfz, h.pq, ?_, ?_, h.okC, h.okD, h.kc⟩
  · have := r1.lt hq
    have := (r3 q hq).2.2
    simp only [List.mem_cons, List.mem_append] at hx this
    rcases hx with e | e | e | e
    · exact this (.inl e)
    · exact this (.inr (.inl e))
    · have := hN q e; omega
    · exact this (.inr (.inr e))
  · simp only [List.mem_cons, List.mem_append] at hq
    rcases hq with rfl | rfl | hq | hq
    · exact ⟨(h.both.x q (by simp)).1, (h.both.x q (by simp)).2.1, by have := O.size; omega⟩
    · exact ⟨(h.both.x q (by simp)).1, (h.both.x q (by simp)).2.1, by have := O.size; omega⟩
    · have := hN q hq; exact ⟨by omega, by omega, this.2⟩
    · have := h.both.x q (by simp [hq])
      exact ⟨this.1, this.2.1, by have := O.size; omega⟩
  · rw [List.mem_append]; exact fun hh => hh.elim (fun e => by have := hN _ e; omega) h.px
  · rw [List.mem_append]; exact fun hh => hh.elim (fun e => by have := hN _ e; omega) h.qx
theorem SpaceAt.offX {w w' : World} {pb mb sb n : Nat} {M : MemS} {C : Nat → Int} {X : List Nat} (h : SpaceAt w pb mb sb n M C) (hn : 0 < n) (O : OffX X w w') (h0 : pb ∈ X) (h1 : mb ∈ X) (h2 : sb ∈ X) : SpaceAt w' pb mb sb n M C := by
  obtain ⟨L, O, hL⟩ := O
  exact h.off hn O (fun hm => hL _ hm h0) (fun hm => hL _ hm h1) (fun hm => hL _ hm h2)
/-- The copy goes on in its place. -/
theorem SBoth.swap {w w' : World} {pb mb sb qb rb n c' pb' mb' sb' cap : Nat} {M M3 : MemS} {C C3 : Nat → Int} {X : List Nat} (h : SBoth w' pb mb sb qb rb n M3 M C3 C c' ([pb', mb', sb'] ++ X)) (hS : SpaceAt w pb' mb' sb' n { M with cap := cap } C) (hK : Kc n M) (O : OffX ([pb', mb', sb'] ++ X) w w')
    (hX : ∀ b, b ∈ X → b < pb' ∧ b < mb' ∧ b < sb') : SBoth w' pb' mb' sb' qb rb n { M with cap := cap } { M with cap := cap } C C c' X := by
  have S := hS.offX h.n0 O (by simp) (by simp) (by simp)
  obtain ⟨T, V, v, r1, r2, r3⟩ := h.both.ref
  have hq : qb ∉ [pb', mb', sb'] ++ X := h.qx
  have hq2 := h.qb_ne
  simp only [List.mem_append, List.mem_cons, List.not_mem_nil, or_false, not_or] at hq
  refine ⟨⟨S.mem, h.both.wfr.recap cap, h.both.wfr.recap cap, ⟨T, V, v, r1.recap cap, r2.recap cap, fun b hb => ?_⟩, fun b hb => ?_, h.n0, h.n1⟩, S.ptr, fun i hi => ?_, S.fz, h.qptr, h.qcur, h.qfz, fun e => hq.1.1 e.symm, fun hm => by have := hX _ hm; omega, hq.2, h.okD.recap cap, h.okD.recap cap, hK⟩
  · have := (r3 b hb).2.2
    simp only [List.mem_cons, List.mem_append, not_or, List.not_mem_nil, or_false] at this
    refine ⟨this.2.2.1.2.1, this.2.2.1.2.2, ?_⟩
    simp only [List.mem_cons, not_or]
    exact ⟨this.2.2.1.1, this.2.1, this.2.2.2⟩
  · simp only [List.mem_cons] at hb
    rcases hb with rfl | rfl | hb
    · exact ⟨S.nm, S.ns, S.pb_lt⟩
    · exact ⟨hq.1.2.1, hq.1.2.2, hq2.2.2⟩
    · have := hX b hb
      exact ⟨by omega, by omega, (h.both.x b (by simp [hb])).2.2⟩
  · have := S.cur (i / 4) (i % 4) (by omega) (by omega)
    rw [show 1 + i / 4 * 4 + i % 4 = 1 + i by omega, show i / 4 * 4 + i % 4 = i by omega] at this
    exact this

/-- At the head of each round. -/
def SPlRel (W1 : World) (B qb rb n k : Nat) (s : Value) (wr : World) : Prop :=
  ∃ pb mb sb M C c, s = .pointer (some ⟨pb, 0, none⟩) ∧ c ≤ 3 * k ∧ SBoth wr pb mb sb qb rb n M M C C c (List.range B) ∧ OffX (List.range B) W1 wr ∧ B ≤ pb ∧ B ≤ mb ∧ B ≤ sb

set_option maxHeartbeats 2000000 in
set_option maxRecDepth 100000 in
theorem splays_true (n : Nat) (a : Option Addr) (len cap : Nat) (Y : Nat → ActT) (w : World) (hY : Acts8At w a len Y) (hlen : len ≤ 300) (hG : ∀ i, i < len → (Y i).G.length ≤ 300) (h1 : 8 ≤ n) (h2 : n ≤ 1024)
    (hmany : Calls Try.prog 29 #[.slice a len cap] w fun e w' => e = .returned (.bool false) ∧ w = w') :
    Calls Try.prog 8 #[.int .i64 n, .slice a len cap] w fun e w' => e = .returned (.bool true) ∧ Off [] w w' := by
  obtain ⟨ab, ao, hao, hact⟩ := hY
  have HX := Lib.hid hact
  have HAO := Lib.hid hao
  have HMANY := Lib.hid hmany
  have HGL := Lib.hid hG
  clear hact hao hmany hG
  go_enter Try.func8, Try.ntmps8
  go_wp2_with fail
  refine HMANY.out.mono ?_
  rintro e w0 ⟨rfl, rfl⟩
  go_wp2_with fail
  refine (snew_ok _ n w rfl h1 h2).mono ?_
  rintro e w1 ⟨pb, mb, sb, rfl, H, O, z1, z2, z3⟩
  have H1 := Lib.hid H
  have O1 := Lib.hid O
  have HSZ := Lib.hid O.size
  clear H O
  go_wp2_with fail
  refine (rsnew_ok n w1 h1 h2 (MemS.made n) (fun _ => .slice none 0 0)).mono ?_
  rintro e W1 ⟨qb, rb, rfl, hR, hq0, hq1, hq2, O2, hrb, hqb, hrq, _⟩
  have hB := SBoth.made (w := w) (X := List.range w.heap.size) H1.out h1 h2 O2 hR hq0 hq1 hq2 hrb hqb hrq (fun b hb => by simpa using hb) z1 z2 z3 HSZ.out
  have HB := Lib.hid hB
  have OW := Lib.hid (O1.out.trans O2)
  have HP1 := Lib.hid z1
  have HM1 := Lib.hid z2
  have HS1 := Lib.hid z3
  clear hB O2 hR H1 O1 z1 z2 z3 hq0 hq1 hq2 hrb hqb hrq
  generalize hs : w.heap.size = B at *
  have HBS := Lib.hid hs
  clear hs
  go_wp2_with fail
  refine (sstands_true HB.out).mono ?_
  rintro e W2 ⟨rfl, O3⟩
  have HB2 := Lib.hid (HB.out.off O3)
  have OX2 : Hid (OffX (List.range B) W1 W2) := Lib.hid (BothAt.offX O3)
  clear O3
  go_wp2_with fail
  go_loopw [5, 8] (fun s i wr => ∃ k : Nat, k ≤ len ∧ i = .int .i64 k ∧ SPlRel W1 B qb rb n k s wr) (fun _ i _ => len - (intOf i).toNat)
  case atStart => exact ⟨0, by omega, rfl, pb, mb, sb, _, _, 0, rfl, by omega, HB2.out, OX2.out, HP1.out, HM1.out, HS1.out⟩
  case round =>
    obtain ⟨k, hk, rfl, pb2, mb2, sb2, M, C, c, rfl, hck, hB, hOX, hpB, hmB, hsB⟩ := hrel
    have HB3 := Lib.hid hB
    have OX3 := Lib.hid hOX
    have HPB := Lib.hid hpB
    have HMB := Lib.hid hmB
    have HSB2 := Lib.hid hsB
    clear hB hOX hmB hsB hpB
    by_cases hlt : k < len
    · cases HAO.out (by omega)
      obtain ⟨hc, ha1, hgn⟩ := HX.out k hlt
      have hgl := HGL.out k hlt
      have hw1 := World.block_lt_of_cell? _ _ (hc 0 (by omega))
      have HIN : Hid (ab ∈ List.range B) := Lib.hid (by rw [← HBS.out]; simpa using hw1)
      have hc' : ∀ j, j < 5 → wr.cell? ⟨ab, ao + k * 5 + j, none⟩ = some ((Y k).cellOf j) := fun j hj => OX3.out.cell (OW.out.cell (hc j hj) (by simp)) HIN.out
      have hgen : GensAt wr (List.range B) (Y k).v (Y k).G := by
        exact (hgn.offX (BothAt.offX OW.out)).offX OX3.out
      clear hc hw1 hgn
      generalize Y k = x at *
      obtain ⟨d, xa, xb, xc, xv, G⟩ := x
      simp only [] at ha1 hgl hgen
      have HGEN := Lib.hid hgen
      have hone : xv.oneCell' = true := by
        obtain ⟨_, _, _, _, rfl, _, _⟩ := hgen
        rfl
      have CELLS : Hid (∀ w', OffX (List.range B) wr w' → w'.cell? ⟨ab, ao + k * 5, none⟩ = some (.int .i64 d) ∧ w'.cell? ⟨ab, ao + k * 5 + 1, none⟩ = some (.int .i64 xa) ∧ w'.cell? ⟨ab, ao + k * 5 + 2, none⟩ = some (.int .i64 xb) ∧ w'.cell? ⟨ab, ao + k * 5 + 3, none⟩ = some (.int .i64 xc) ∧ w'.cell? ⟨ab, ao + k * 5 + 4, none⟩ = some xv) := Lib.hid (fun w' O => by
        have g0 := O.cell (hc' 0 (by omega)) HIN.out
        have g1 := O.cell (hc' 1 (by omega)) HIN.out
        have g2 := O.cell (hc' 2 (by omega)) HIN.out
        have g3 := O.cell (hc' 3 (by omega)) HIN.out
        have g4 := O.cell (hc' 4 (by omega)) HIN.out
        exact ⟨g0, g1, g2, g3, g4⟩)
      obtain ⟨c0, c1, c2, c3, c4⟩ := CELLS.out wr (OffX.refl _ _)
      clear hc' hgen
      by_cases e4 : d = 4
      · have f4 : (d == 4) = true := beq_iff_eq.2 e4
        clear e4
        go_wp2_with fail
        refine (scopy_all HB3.out.space HB3.out.n0 HB3.out.n1).mono ?_
        rintro e w4 ⟨pb', mb', sb', ccap, rfl, hm, O4, hb1, hb2, hb3⟩
        have hlt4 := hm.pb_lt
        have HB4 := Lib.hid (HB3.out.pushAll O4 (N := [pb', mb', sb']) (fun g hg => by
          have y1 := hm.mem.mb_lt
          have y2 := hm.mem.sb_lt HB3.out.n0
          simp only [List.mem_cons, List.not_mem_nil, or_false] at hg
          omega))
        have HM := Lib.hid hm
        have HLT : Hid (∀ b, b ∈ List.range B → b < pb' ∧ b < mb' ∧ b < sb') := Lib.hid (fun b hb => by
          have := (HB3.out.both.x b (by simp only [List.mem_cons]; exact .inr (.inr hb))).2.2
          omega)
        have HGE : Hid (B ≤ pb' ∧ B ≤ mb' ∧ B ≤ sb') := Lib.hid (by
          have y1 := HB3.out.both.mem.mb_lt
          have y2 := HMB.out
          omega)
        have OX4 : Hid (OffX (List.range B) wr w4) := Lib.hid (BothAt.offX O4)
        clear hm O4 hb1 hb2 hb3 c0 c1 c2 c3 c4 hlt4
        go_wp2_with fail
        refine (HB4.out.palloc (by omega) 0 0 2).mono ?_
        rintro e w5 ⟨r5, s5, M5, C5, rfl, _, hB5, O5⟩
        have HB5 := Lib.hid hB5
        have OX5 := Lib.hid O5
        clear hB5 O5
        obtain ⟨s6, M6, C6, hG6⟩ := SGiveIs.ex n M5 C5 0
        have HG6 := Lib.hid hG6
        clear hG6
        go_wp2_with fail
        refine (HB5.out.pgive 0 HG6.out).mono ?_
        rintro e w6 ⟨rfl, hB6, O6⟩
        have HB6 := Lib.hid hB6
        have OX6 := Lib.hid (OX5.out.trans O6)
        clear hB6 O6
        go_wp2_with fail
        refine (HB6.out.pfresh (GensAt.nil w6 _) (by simp)).mono ?_
        rintro e w7 ⟨rfl, hB7, O7⟩
        have OX7 := Lib.hid (OX6.out.trans O7)
        have HB7 := Lib.hid (hB7.swap HM.out HB3.out.kc OX7.out HLT.out)
        have OX8 : Hid (OffX (List.range B) wr w7) := Lib.hid (OX4.out.trans (OX7.out.mono (fun b hb => by rw [List.mem_append]; exact .inr hb)))
        obtain ⟨c0, c1, c2, c3, c4⟩ := CELLS.out w7 OX8.out
        clear hB7 O7
        go_wp2_with fail
        refine (sdoes_any HB7.out (by omega) d xa xb xc xv G ha1 (HGEN.out.offX OX8.out) hgl).mono ?_
        rintro e w8 ⟨rfl, M8, C8, hB8, O8⟩
        have RR : Hid (SPlRel W1 B qb rb n (k + 1) (.pointer (some ⟨pb', 0, none⟩)) w8) := Lib.hid ⟨pb', mb', sb', M8, C8, _, rfl, by omega, hB8, (OX3.out.trans OX8.out).trans O8, HGE.out⟩
        clear hB8 O8
        go_wp2_with fail
        go_roundw
        case rel => exact ⟨k + 1, by omega, by go_num, RR.out⟩
        case measure => simp [intOf]; omega
      · have f4 : (d == 4) = false := beq_eq_false_iff_ne.2 e4
        clear e4
        go_wp2_with fail
        refine (sdoes_any HB3.out (by omega) d xa xb xc xv G ha1 HGEN.out hgl).mono ?_
        rintro e w8 ⟨rfl, M8, C8, hB8, O8⟩
        have RR : Hid (SPlRel W1 B qb rb n (k + 1) (.pointer (some ⟨pb2, 0, none⟩)) w8) := Lib.hid ⟨pb2, mb2, sb2, M8, C8, _, rfl, by omega, hB8, OX3.out.trans O8, HPB.out, HMB.out, HSB2.out⟩
        clear hB8 O8
        go_wp2_with fail
        go_roundw
        case rel => exact ⟨k + 1, by omega, by go_num, RR.out⟩
        case measure => simp [intOf]; omega
    · go_wp2_with fail
      refine (sstands_true HB3.out).mono ?_
      rintro e w4 ⟨rfl, O4⟩
      have OX4 := Lib.hid (OX3.out.trans (BothAt.offX O4))
      clear O4
      go_wp2_with fail
      refine (awake08_true _).mono ?_
      rintro e w5 ⟨rfl, O5⟩
      have FIN : Hid (Off [] w w5) := Lib.hid (by
        obtain ⟨L, O, hL⟩ := OX4.out
        exact (OW.out.trans_new O (fun x hx => .inr (by have := hL x hx; rw [← HBS.out, List.mem_range] at this; omega))).trans O5)
      clear O5
      go_wp2_with fail
      go_ret
      exact ⟨rfl, FIN.out⟩

set_option maxRecDepth 100000 in
/-- A limit that may not be: no space. -/
theorem splays_arg (limit : Int) (a : Option Addr) (len cap : Nat) (w : World) (hx : limit < 8 ∨ 1024 < limit) (hmany : Calls Try.prog 29 #[.slice a len cap] w fun e w' => e = .returned (.bool false) ∧ w = w') :
    Calls Try.prog 8 #[.int .i64 limit, .slice a len cap] w fun e w' => e = .returned (.bool true) ∧ Off [] w w' := by
  have HX := Lib.hid hx
  have HM := Lib.hid hmany
  clear hx hmany
  go_enter Try.func8, Try.ntmps8
  go_wp2_with fail
  refine HM.out.mono ?_
  rintro e w0 ⟨rfl, rfl⟩
  go_wp2_with fail
  refine (snew_arg limit w HX.out).mono ?_
  rintro e w1 ⟨rfl, rfl⟩
  go_wp2_with fail
  refine (rsnew_arg limit w HX.out).mono ?_
  rintro e w1 ⟨rfl, rfl⟩
  go_wp2_with fail
  refine (awake08_true _).mono ?_
  rintro e w' ⟨rfl, O'⟩
  go_wp2_with fail
  go_ret
  exact ⟨rfl, O'⟩
set_option maxRecDepth 100000 in
/-- Too many calls. -/
theorem splays_many (limit : Int) (a : Option Addr) (len cap : Nat) (w : World) (hmany : Calls Try.prog 29 #[.slice a len cap] w fun e w' => e = .returned (.bool true) ∧ w = w') :
    Calls Try.prog 8 #[.int .i64 limit, .slice a len cap] w fun e w' => e = .returned (.bool true) ∧ Off [] w w' := by
  have HM := Lib.hid hmany
  clear hmany
  go_enter Try.func8, Try.ntmps8
  go_wp2_with fail
  refine HM.out.mono ?_
  rintro e w0 ⟨rfl, rfl⟩
  go_wp2_with fail
  refine (awake08_true _).mono ?_
  rintro e w' ⟨rfl, O'⟩
  go_wp2_with fail
  go_ret
  exact ⟨rfl, O'⟩
theorem splays_law (limit : Int) (a : Option Addr) (len cap : Nat) (Y : Nat → ActT) (w : World) (hY : Acts8At w a len Y) :
    Calls Try.prog 8 #[.int .i64 limit, .slice a len cap] w fun e w' => e = .returned (.bool true) ∧ Off [] w w' := by
  by_cases hP : len ≤ 300 ∧ ∀ i, i < len → (Y i).G.length ≤ 300
  · have hm := many_any w a len cap Y hY false ⟨fun _ => hP, fun _ => rfl⟩
    by_cases hb : limit < 8 ∨ 1024 < limit
    · exact splays_arg limit a len cap w hb hm
    · obtain ⟨n, rfl, h1, h2⟩ : ∃ n : Nat, limit = n ∧ 8 ≤ n ∧ n ≤ 1024 := ⟨limit.toNat, by omega, by omega, by omega⟩
      exact splays_true n a len cap Y w hY hP.1 hP.2 h1 h2 hm
  · have hm := many_any w a len cap Y hY true ⟨fun h => (by cases h), fun h => absurd h hP⟩
    exact splays_many limit a len cap w hm
end Go.Proofs.Ytoafoodgomnfeaa
