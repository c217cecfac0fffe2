/-
  YtoafoodgomnfeaaPlays: the walk of SegPlays.
-/
import Derived.Test.YtoafoodgomnfeaaStands
namespace Go.Proofs.Ytoafoodgomnfeaa
open Go.RowKit
set_option linter.unusedVariables false

theorem MemAt.offX {w w' : World} {mb sb n : Nat} {M : MemS} {X : List Nat} (h : MemAt w mb sb n M) (hn : 0 < n) (O : OffX X w w') (h1 : mb ∈ X) (h2 : sb ∈ X) : MemAt w' mb sb n M := by
  obtain ⟨L, O, hL⟩ := O
  exact h.off hn O (fun hm => hL _ hm h1) (fun hm => hL _ hm h2)
theorem RefAt.recap {w : World} {rb N : Nat} {M : MemS} {T : List Nat} {V : Nat → Value} {v : Value} (h : RefAt w rb N M T V v) (cap : Nat) : RefAt w rb N { M with cap := cap } T V v :=
  ⟨h.n0, h.l, h.fz, h.row, h.wrow, h.apv, h.ap1, h.ap2⟩
theorem Wf.recap {n c : Nat} {M : MemS} (h : Wf n M c) (cap : Nat) : Wf n { M with cap := cap } c := ⟨h.cnt0, h.cnt, h.free, h.tk, h.used, h.apart, h.blank, h.gen⟩
theorem TakenIs.recap {n : Nat} {M : MemS} {G : List Int} {T : List Nat} (h : TakenIs M n G T) (cap : Nat) : TakenIs { M with cap := cap } n G T := ⟨h.mem, h.ord⟩
/-- A copy was made: its blocks are of neither. -/
theorem BothAt.copied {w w1 : World} {mb sb rb n c mb' sb' : Nat} {M R M' : MemS} {X : List Nat} (h : BothAt w mb sb rb n M R c X) (O : Off [] w w1) (hm : MemAt w1 mb' sb' n M') (h1 : w.heap.size ≤ mb') (h2 : w.heap.size ≤ sb') : BothAt w1 mb sb rb n M R c (mb' :: sb' :: X) := by
  obtain ⟨T, V, v, r1, r2, r3⟩ := h.ref
  have m1 := h.mem.mb_lt
  have m2 := h.mem.sb_lt h.n0
  refine ⟨h.mem.off h.n0 O (by simp) (by simp), h.wf, h.wfr, ⟨T, V, v, r1.off O (by simp), r2, fun b hb => ⟨(r3 b hb).1, (r3 b hb).2.1, fun hx => ?_⟩⟩, fun b hb => ?_, h.n0, h.n1⟩
  · have := r1.lt hb
    simp only [List.mem_cons] at hx
    rcases hx with e | e | e
    · omega
    · omega
    · exact (r3 b hb).2.2 e
  · simp only [List.mem_cons] at hb
    rcases hb with rfl | rfl | hb
    · exact ⟨by omega, by omega, hm.mb_lt⟩
    · exact ⟨by omega, by omega, hm.sb_lt h.n0⟩
    · exact ⟨(h.x b hb).1, (h.x b hb).2.1, Nat.lt_of_lt_of_le (h.x b hb).2.2 O.size⟩
/-- The copy goes on in its place. -/
theorem BothAt.swap {w w' : World} {mb sb rb n c' mb' sb' cap : Nat} {M M3 : MemS} {X : List Nat} (h : BothAt w' mb sb rb n M3 M c' (mb' :: sb' :: X)) (hm : MemAt w mb' sb' n { M with cap := cap }) (O : OffX (mb' :: sb' :: X) w w')
    (hX : ∀ b, b ∈ X → b < mb' ∧ b < sb') : BothAt w' mb' sb' rb n { M with cap := cap } { M with cap := cap } c' X := by
  obtain ⟨T, V, v, r1, r2, r3⟩ := h.ref
  refine ⟨hm.offX h.n0 O (by simp) (by simp), h.wfr.recap cap, h.wfr.recap cap, ⟨T, V, v, r1.recap cap, r2.recap cap, fun b hb => ?_⟩, fun b hb => ?_, h.n0, h.n1⟩
  · have := (r3 b hb).2.2
    simp only [List.mem_cons, not_or] at this
    exact ⟨this.1, this.2.1, this.2.2⟩
  · have := hX b hb
    exact ⟨by omega, by omega, (h.x b (by simp [hb])).2.2⟩
/-- Both are made. -/
theorem BothAt.made {w w1 w2 : World} {mb sb rb n : Nat} {X : List Nat} (h : MemAt w1 mb sb n (MemS.made n)) (h1 : 8 ≤ n) (h2 : n ≤ 1024) (O : Off [] w1 w2) (hr : RefAt w2 rb n (MemS.made n) [] (fun _ => .slice none 0 0) (.slice none 0 0)) (hrb : w1.heap.size ≤ rb)
    (hX : ∀ b, b ∈ X → b < w.heap.size) (hm : w.heap.size ≤ mb) (hs : w.heap.size ≤ sb) : BothAt w2 mb sb rb n (MemS.made n) (MemS.made n) 0 X := by
  have m1 := h.mb_lt
  have m2 := h.sb_lt (by omega)
  refine ⟨h.off (by omega) O (by simp) (by simp), Wf.made n, Wf.made n, ⟨[], _, _, hr, ⟨fun k => ?_, List.Pairwise.nil⟩, fun b hb => ?_⟩, fun b hb => ?_, by omega, h2⟩
  · simp [selB, MemS.made, SegS.zero]
  · rcases hb with rfl | hb | ⟨k, hk, _⟩
    · exact ⟨by omega, by omega, fun hx => by have := hX _ hx; omega⟩
    · simp [Value.ownBlock] at hb
    · simp at hk
  · have := hX b hb
    have := O.size
    exact ⟨by omega, by omega, by omega⟩
/-- The five cells of a call of the slice. -/
def ActK (w : World) (b o : Nat) (d a bb c : Int) (u : Int) : Prop :=
  w.cell? ⟨b, o, none⟩ = some (.int .i64 d) ∧ w.cell? ⟨b, o + 1, none⟩ = some (.int .i64 a) ∧ w.cell? ⟨b, o + 2, none⟩ = some (.int .i64 bb) ∧ w.cell? ⟨b, o + 3, none⟩ = some (.int .i64 c) ∧ w.cell? ⟨b, o + 4, none⟩ = some (.int .u64 u)
/-- At the head of each round. -/
def PlaysRel (W1 : World) (B rb n k : Nat) (m : Value) (wr : World) : Prop :=
  ∃ mb sb M c, m = .pointer (some ⟨mb, 0, none⟩) ∧ c ≤ 3 * k ∧ BothAt wr mb sb rb n M M c (List.range B) ∧ OffX (List.range B) W1 wr ∧ B ≤ mb ∧ B ≤ sb

set_option maxHeartbeats 2000000 in
set_option maxRecDepth 100000 in
theorem plays_true (n : Nat) (a : Option Addr) (len cap : Nat) (X : Nat → ActS) (w : World) (hX : ActsAt w a len X) (hlen : len ≤ 300) (h1 : 8 ≤ n) (h2 : n ≤ 1024) :
    Calls Try.prog 6 #[.int .i64 n, .slice a len cap] w fun e w' => e = .returned (.bool true) ∧ Off [] w w' := by
  have l1 : ¬ (300 : Int) < (len : Int) := by omega
  obtain ⟨ab, ao, hao, hact⟩ := hX
  have HX := Lib.hid hact
  have HAO := Lib.hid hao
  clear hact hao
  go_enter Try.func6, Try.ntmps6
  go_wp2_with fail
  refine (new_ok _ n w rfl h1 h2).mono ?_
  rintro e w1 ⟨rfl, H, O⟩
  have H1 := Lib.hid H
  have O1 := Lib.hid O
  clear H O
  go_wp2_with fail
  refine (rnew_ok n w1 h1 h2 (MemS.made n) (fun _ => .slice none 0 0)).mono ?_
  rintro e W1 ⟨rfl, hR, O2⟩
  have hB := BothAt.made (w := w) (X := List.range w.heap.size) H1.out h1 h2 O2 hR (Nat.le_refl _) (fun b hb => by simpa using hb) (by omega) (by omega)
  have HB := Lib.hid hB
  have OW := Lib.hid (O1.out.trans O2)
  clear hB O2 hR H1 O1
  have hm1 : w.heap.size ≤ w.heap.size + 1 := by omega
  have hs1 : w.heap.size ≤ w.heap.size := by omega
  have HM1 := Lib.hid hm1
  have HS1 := Lib.hid hs1
  clear hm1 hs1
  generalize w.heap.size + 1 = mb at HB HM1 ⊢
  generalize hs : w.heap.size = B at *
  have HBS := Lib.hid hs
  clear hs
  have HS2 : Hid (∃ sb, B ≤ sb ∧ BothAt W1 mb sb w1.heap.size n (MemS.made n) (MemS.made n) 0 (List.range B)) := Lib.hid ⟨B, HS1.out, HB.out⟩
  clear HB HS1
  obtain ⟨sb, hsb, hB⟩ := HS2.out
  have HB := Lib.hid hB
  have HSB := Lib.hid hsb
  clear hB hsb HS2
  generalize w1.heap.size = rb at *
  go_wp2_with fail
  refine (stands_true HB.out).mono ?_
  rintro e W2 ⟨rfl, O3⟩
  have HB2 := Lib.hid (HB.out.off O3)
  have OX2 : Hid (OffX (List.range B) W1 W2) := Lib.hid (BothAt.offX O3)
  clear O3
  go_wp2_with fail
  go_loopw [5, 8] (fun m i wr => ∃ k : Nat, k ≤ len ∧ i = .int .i64 k ∧ PlaysRel W1 B rb n k m wr) (fun _ i _ => len - (intOf i).toNat)
  case atStart => exact ⟨0, by omega, rfl, mb, sb, _, 0, rfl, by omega, HB2.out, OX2.out, HM1.out, HSB.out⟩
  case round =>
    obtain ⟨k, hk, rfl, mb2, sb2, M, c, rfl, hck, hB, hOX, hmB, hsB⟩ := hrel
    have HB3 := Lib.hid hB
    have OX3 := Lib.hid hOX
    have HMB := Lib.hid hmB
    have HSB2 := Lib.hid hsB
    clear hB hOX hmB hsB
    by_cases hlt : k < len
    · cases HAO.out (by omega)
      obtain ⟨hc, hok⟩ := HX.out k hlt
      have hw1 := World.block_lt_of_cell? _ _ (hc 0 (by omega))
      have HIN : Hid (ab ∈ List.range B) := Lib.hid (by rw [← HBS.out]; simpa using hw1)
      have hc' : ∀ j, j < 5 → wr.cell? ⟨ab, ao + k * 5 + j, none⟩ = some ((X k).cellOf j) := fun j hj => OX3.out.cell (OW.out.cell (hc j hj) (by simp)) HIN.out
      have ha1 := hok.a1
      clear hc hok hw1
      generalize X k = x at *
      obtain ⟨d, xa, xb, xc, xu⟩ := x
      have CELLS : Hid (∀ w', OffX (List.range B) wr w' → ActK w' ab (ao + k * 5) d xa xb xc xu) := Lib.hid (fun w' O => by
        have g0 := O.cell (hc' 0 (by omega)) HIN.out
        have g1 := O.cell (hc' 1 (by omega)) HIN.out
        have g2 := O.cell (hc' 2 (by omega)) HIN.out
        have g3 := O.cell (hc' 3 (by omega)) HIN.out
        have g4 := O.cell (hc' 4 (by omega)) HIN.out
        exact ⟨g0, g1, g2, g3, g4⟩)
      obtain ⟨c0, c1, c2, c3, c4⟩ := CELLS.out wr (OffX.refl _ _)
      clear hc'
      by_cases e6 : d = 6
      · have f6 : (d == 6) = true := beq_iff_eq.2 e6
        clear e6
        go_wp2_with fail
        refine (copy_all HB3.out.mem HB3.out.n0 HB3.out.n1).mono ?_
        rintro e w4 ⟨mb', sb', ccap, rfl, hm, O4, hb1, hb2⟩
        have HB4 := Lib.hid (HB3.out.copied O4 hm hb1 hb2)
        have HM := Lib.hid hm
        have HLT : Hid (∀ b, b ∈ List.range B → b < mb' ∧ b < sb') := Lib.hid (fun b hb => by
          have := (HB3.out.x b hb).2.2
          omega)
        have HGE : Hid (B ≤ mb' ∧ B ≤ sb') := Lib.hid (by
          have z1 := HB3.out.mem.mb_lt
          have z2 := HB3.out.mem.sb_lt HB3.out.n0
          have z3 := HMB.out
          have z4 := HSB2.out
          omega)
        have OX4 : Hid (OffX (List.range B) wr w4) := Lib.hid (BothAt.offX O4)
        clear hm O4 hb1 hb2 c0 c1 c2 c3 c4
        go_wp2_with fail
        refine (HB4.out.ptake (by omega) 0 0).mono ?_
        rintro e w5 ⟨r5, s5, M5, rfl, _, hB5, O5⟩
        have HB5 := Lib.hid hB5
        have OX5 := Lib.hid O5
        clear hB5 O5
        obtain ⟨s6, M6, hG6⟩ := WriteIs.ex n M5 0 77
        have HG6 := Lib.hid hG6
        clear hG6
        go_wp2_with fail
        refine (HB5.out.pwrite 0 77 (by omega) HG6.out).mono ?_
        rintro e w6 ⟨rfl, hB6, O6⟩
        have HB6 := Lib.hid hB6
        have OX6 := Lib.hid (OX5.out.trans O6)
        clear hB6 O6
        obtain ⟨s7, M7, hG7⟩ := GiveIs.ex n M6 0
        have HG7 := Lib.hid hG7
        clear hG7
        go_wp2_with fail
        refine (HB6.out.pgive 0 HG7.out).mono ?_
        rintro e w7 ⟨rfl, hB7, O7⟩
        have OX7 := Lib.hid (OX6.out.trans O7)
        have HB7 := Lib.hid (hB7.swap HM.out OX7.out HLT.out)
        have OX8 : Hid (OffX (List.range B) wr w7) := Lib.hid (OX4.out.trans (OX7.out.mono (fun b hb => by simp [hb])))
        obtain ⟨c0, c1, c2, c3, c4⟩ := CELLS.out w7 OX8.out
        clear hB7 O7
        go_wp2_with fail
        refine (does_any HB7.out (by omega) d xa xb xc xu ha1).mono ?_
        rintro e w8 ⟨rfl, M8, hB8, O8⟩
        have RR : Hid (PlaysRel W1 B rb n (k + 1) (.pointer (some ⟨mb', 0, none⟩)) w8) := Lib.hid ⟨mb', sb', M8, _, rfl, by omega, hB8, (OX3.out.trans OX8.out).trans O8, HGE.out.1, HGE.out.2⟩
        clear hB8 O8
        go_wp2_with fail
        go_roundw
        case rel => exact ⟨k + 1, by omega, by go_num, RR.out⟩
        case measure => simp [intOf]; omega
      · have f6 : (d == 6) = false := beq_eq_false_iff_ne.2 e6
        clear e6
        go_wp2_with fail
        refine (does_any HB3.out (by omega) d xa xb xc xu ha1).mono ?_
        rintro e w8 ⟨rfl, M8, hB8, O8⟩
        have RR : Hid (PlaysRel W1 B rb n (k + 1) (.pointer (some ⟨mb2, 0, none⟩)) w8) := Lib.hid ⟨mb2, sb2, M8, _, rfl, by omega, hB8, OX3.out.trans O8, HMB.out, HSB2.out⟩
        clear hB8 O8
        go_wp2_with fail
        go_roundw
        case rel => exact ⟨k + 1, by omega, by go_num, RR.out⟩
        case measure => simp [intOf]; omega
    · go_wp2_with fail
      refine (stands_true HB3.out).mono ?_
      rintro e w4 ⟨rfl, O4⟩
      have OX4 := Lib.hid (OX3.out.trans (BothAt.offX O4))
      clear O4
      go_wp2_with fail
      refine (awake_true _).mono ?_
      rintro e w5 ⟨rfl, O5⟩
      have FIN : Hid (Off [] w w5) := Lib.hid (by
        obtain ⟨L, O, hL⟩ := OX4.out
        exact (OW.out.trans_new O (fun x hx => .inr (by have := hL x hx; rw [← HBS.out, List.mem_range] at this; omega))).trans O5)
      clear O5
      go_wp2_with fail
      go_ret
      exact ⟨rfl, FIN.out⟩

set_option maxRecDepth 100000 in
/-- A limit that may not be: no memory. -/
theorem plays_arg (limit : Int) (a : Option Addr) (len cap : Nat) (w : World) (hlen : len ≤ 300) (hx : limit < 8 ∨ 1024 < limit) :
    Calls Try.prog 6 #[.int .i64 limit, .slice a len cap] w fun e w' => e = .returned (.bool true) ∧ Off [] w w' := by
  have HX := Lib.hid hx
  have l1 : ¬ (300 : Int) < (len : Int) := by omega
  clear hx
  go_enter Try.func6, Try.ntmps6
  go_wp2_with fail
  refine (new_arg limit w HX.out).mono ?_
  rintro e w1 ⟨rfl, rfl⟩
  go_wp2_with fail
  refine (rnew_arg limit w HX.out).mono ?_
  rintro e w1 ⟨rfl, rfl⟩
  go_wp2_with fail
  refine (awake_true _).mono ?_
  rintro e w' ⟨rfl, O'⟩
  go_wp2_with fail
  go_ret
  exact ⟨rfl, O'⟩
set_option maxRecDepth 100000 in
/-- Too many calls. -/
theorem plays_many (limit : Int) (a : Option Addr) (len cap : Nat) (w : World) (hlen : 300 < len) :
    Calls Try.prog 6 #[.int .i64 limit, .slice a len cap] w fun e w' => e = .returned (.bool true) ∧ Off [] w w' := by
  have l1 : (300 : Int) < (len : Int) := by omega
  go_enter Try.func6, Try.ntmps6
  go_wp2_with fail
  refine (awake_true _).mono ?_
  rintro e w' ⟨rfl, O'⟩
  go_wp2_with fail
  go_ret
  exact ⟨rfl, O'⟩
theorem plays_law (limit : Int) (a : Option Addr) (len cap : Nat) (X : Nat → ActS) (w : World) (hX : ActsAt w a len X) :
    Calls Try.prog 6 #[.int .i64 limit, .slice a len cap] w fun e w' => e = .returned (.bool true) ∧ Off [] w w' := by
  by_cases hlen : len ≤ 300
  · by_cases hb : limit < 8 ∨ 1024 < limit
    · exact plays_arg limit a len cap w hlen hb
    · obtain ⟨n, rfl, h1, h2⟩ : ∃ n : Nat, limit = n ∧ 8 ≤ n ∧ n ≤ 1024 := ⟨limit.toNat, by omega, by omega, by omega⟩
      exact plays_true n a len cap X w hX hlen h1 h2
  · exact plays_many limit a len cap w (by omega)
end Go.Proofs.Ytoafoodgomnfeaa
