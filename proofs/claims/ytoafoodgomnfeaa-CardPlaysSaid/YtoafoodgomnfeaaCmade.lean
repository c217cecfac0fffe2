/-
  YtoafoodgomnfeaaCdirty: Dirty of the document's cards; two lists of cards compared.
  YtoafoodgomnfeaaSame: Same: two lists of the same cards are alike.
  YtoafoodgomnfeaaCmade: both cards are made; the cards' copy, and it in their place.
-/
import Derived.Test.YtoafoodgomnfeaaCagain
namespace Go.Proofs.Ytoafoodgomnfeaa
open Go.RowKit
set_option linter.unusedVariables false

/-- Within a segment's round: the segment lies at B, apart from the row. -/
def DIn9 (W1 wr : World) (l : Value) (L : List (Nat × Nat)) (B : Nat) (s : SegS) (k : Nat) : Prop :=
  DRow W1 wr l L ∧ (wr.cell? ⟨B, 0, none⟩ = some (.int .i64 (k : Int)) ∧ wr.cell? ⟨B, 1, none⟩ = some (.int .i64 s.gen) ∧ ∀ q, q < 4 → wr.cell? ⟨B, 4 + q, none⟩ = some (.int .i64 (s.card q))) ∧ l.ownBlock ≠ some B
theorem DIn9.appended {W1 wr w1 : World} {l : Value} {L : List (Nat × Nat)} {B : Nat} {s : SegS} {k j g cap : Nat} {o : Obj} (h : DIn9 W1 wr l L B s k)
    (hown : w1.ownsRow W1.heap.size 90 2 (.slice (some ⟨g, 0, none⟩) (L.length + 1) cap) (L.length + 1) (cardsV L ++ [.int .i64 (k : Int), .int .i64 (j : Int)]))
    (hgrow : (wr.alloc o).grownBy w1 l.ownBlock) (hat : l.ownBlock = some g ∨ g = wr.heap.size + 1) : DIn9 W1 w1 (.slice (some ⟨g, 0, none⟩) (L.length + 1) cap) (L ++ [(k, j)]) B s k := by
  have hB := World.block_lt_of_cell? wr _ h.2.1.1
  have far : ∀ q v, wr.cell? ⟨B, q, none⟩ = some v → w1.cell? ⟨B, q, none⟩ = some v := fun q v hq => by
    rw [hgrow.cell_far _ (by simp at hB ⊢; omega) (fun e => h.2.2 e.symm)]
    exact ((Off.refl [] wr).alloc o).cell hq (by simp)
  refine ⟨⟨(h.1.1.alloc o).grown hgrow (fun j hj => (h.1.2.lt j hj).1), ?_⟩, ⟨far _ _ h.2.1.1, far _ _ h.2.1.2.1, fun q hq => far _ _ (h.2.1.2.2 q hq)⟩, ?_⟩
  · have e : cardsV (L ++ [(k, j)]) = cardsV L ++ [.int .i64 (k : Int), .int .i64 (j : Int)] := by simp [cardsV]
    rw [e, List.length_append]
    exact hown
  · rcases hat with e | e
    · intro h'
      simp only [Value.ownBlock, Option.some.injEq] at h'
      subst h'
      exact h.2.2 e
    · intro h'
      simp only [Value.ownBlock, Option.some.injEq] at h'
      simp at hB
      omega
/-- At the head of each round. -/
def DdOut (R : MemS) (T : List Nat) (g : Int) (W1 wr : World) (l i : Value) : Prop := ∃ a : Nat, a ≤ T.length ∧ i = .int .i64 a ∧ DRow W1 wr l (dirtyL R (T.take a) g)

section
variable {w : World} {cb pb mb sb db qb rb n c : Nat} {M R : MemS} {C D : Nat → Int} {X : List Nat}
set_option maxRecDepth 100000 in
set_option maxHeartbeats 2000000 in
theorem CBoth.ddirty (h : CBoth w cb pb mb sb db qb rb n M R C D c X) (g : Int) {T : List Nat} (hT : TakenIs R n [] T) :
    Calls Try.prog 83 #[.pointer (some ⟨db, 0, none⟩), .int .i64 g] w fun e w' => ∃ v, e = .returned v ∧ CardsL w.heap.size w' v (dirtyL R T g) ∧ Off [] w w' := by
  obtain ⟨i0, hi, hz0, hz1, hz2⟩ := info_parts info90
  have hi' := Lib.hid hi
  have hz0' := Lib.hid hz0
  have hz1' := Lib.hid hz1
  have hz2' := Lib.hid hz2
  clear hi hz0 hz1 hz2
  obtain ⟨T0, V, v, r1, r2, r3⟩ := h.sp.both.ref
  obtain rfl := hT.unique r2
  obtain ⟨la, lcap, lg, hv, hla, hlc⟩ := r1.form
  have hrl := r1.l
  rw [hv] at hrl
  have hlen := hT.len
  have n1 := h.n1
  have KEEP : Hid (∀ w', Off [] w w' → w'.cell? ⟨db, 0, none⟩ = some (.pointer (some ⟨qb, 0, none⟩)) ∧ w'.cell? ⟨qb, 0, none⟩ = some (.pointer (some ⟨rb, 0, none⟩)) ∧ w'.cell? ⟨rb, 1, none⟩ = some (.slice la T.length lcap)) := Lib.hid (fun w' O => ⟨O.cell h.dp (by simp), O.cell h.sp.qptr (by simp), O.cell hrl (by simp)⟩)
  have HLC := Lib.hid hlc
  have HLA := Lib.hid hla
  have HW : Hid (∀ k, k ∈ T → ∃ va cap, V k = .slice va (R.S k).n.toNat cap) := Lib.hid (fun k hk => by
    obtain ⟨va, cap, vg, hV, _, _⟩ := ownsRow_form (r1.wrow k hk)
    exact ⟨va, cap, hV⟩)
  clear h hT r1 r2 r3 hv hla hlc hrl
  go_enter Try.func83, Try.ntmps83
  go_wp2_with fail
  go_loopw [5, 6] (fun l i wr => DdOut R T g w wr l i) (fun _ i _ => T.length - (intOf i).toNat)
  case atStart => exact ⟨0, by omega, rfl, Off.refl _ _, by simpa [dirtyL, cardsV] using World.ownsRow_nil _ _ _ _⟩
  case round =>
    obtain ⟨a, ha, rfl, hD⟩ := hrel
    have HD := Lib.hid hD
    obtain ⟨k0, k1, k2⟩ := KEEP.out _ hD.1
    by_cases hlt : a < T.length
    · obtain ⟨rfl, _⟩ := HLA.out (by omega)
      have hin := getD_mem hlt
      have cells := fun j hj => hD.1.cell (HLC.out a j hlt hj).1 (by simp)
      have hDn := dirtyL_take R T g a hlt
      have hDl := dirtyL_len R (T.take a) g
      rw [List.length_take] at hDl
      generalize T.getD a 0 = k at *
      obtain ⟨va, vcap, hV⟩ := HW.out k hin
      have b0 := cells 0 (by omega)
      have b1 := cells 1 (by omega)
      have b2 := cells 2 (by omega)
      have b3 := cells 3 (by omega)
      have b4 := cells 4 (by omega)
      have b5 := cells 5 (by omega)
      have b6 := cells 6 (by omega)
      have b7 := cells 7 (by omega)
      have b8 := cells 8 (by omega)
      simp only [cellR, Nat.add_zero] at b0 b1 b2 b3 b4 b5 b6 b7 b8
      rw [hV] at b8
      generalize hs : R.S k = s at *
      have HDN := Lib.hid hDn
      obtain ⟨gen, kind, nn, c0, c1, c2, c3, t, ws⟩ := s
      simp only [] at b1 b2 b3 b4 b5 b6 b7 b8
      generalize hDD : dirtyL R (T.take a) g = DD at *
      have HDL : Hid (DD.length ≤ 4096) := Lib.hid (by omega)
      have a0 : (0 : Int) ≤ (a : Int) := by omega
      have a1 : (a : Int) < (T.length : Int) := by omega
      generalize nn.toNat = nw at *
      clear hDn hin cells hV hs hDD hDl hD
      go_wp2_with fail
      have hA : (wr.alloc (.cells #[.int .i64 (k : Int), .int .i64 gen, .int .i64 kind, .int .i64 nn, .int .i64 c0, .int .i64 c1, .int .i64 c2, .int .i64 c3, .slice va nw vcap] 125)).heap[wr.heap.size]? = some _ := Array.getElem?_push_size
      have HIN : DIn9 w (wr.alloc (.cells #[.int .i64 (k : Int), .int .i64 gen, .int .i64 kind, .int .i64 nn, .int .i64 c0, .int .i64 c1, .int .i64 c2, .int .i64 c3, .slice va nw vcap] 125)) u5 DD wr.heap.size ⟨gen, kind, nn, c0, c1, c2, c3, t, ws⟩ k := by
        refine ⟨⟨HD.out.1.alloc _, HD.out.2.alloc _⟩, ⟨by rw [cell_of_row _ _ 0 _ _ _ hA]; rfl, by rw [cell_of_row _ _ 1 _ _ _ hA]; rfl, fun q hq => ?_⟩, fun e => by have := (HD.out.2.lt _ e).2; omega⟩
        rw [cell_of_row _ _ _ _ _ _ hA]
        match q, hq with
        | 0, _ | 1, _ | 2, _ | 3, _ => rfl
      have HIN' := Lib.hid HIN
      clear HIN hA HD b0 b1 b2 b3 b4 b5 b6 b7 b8 k0 k1 k2
      generalize wr.alloc (.cells #[.int .i64 (k : Int), .int .i64 gen, .int .i64 kind, .int .i64 nn, .int .i64 c0, .int .i64 c1, .int .i64 c2, .int .i64 c3, .slice va nw vcap] 125) = w3 at HIN' ⊢
      generalize wr.heap.size = B at HIN' ⊢
      go_loopw [5, 8] (fun l j wq => ∃ jj : Nat, jj ≤ 4 ∧ j = .int .i64 jj ∧ DIn9 w wq l (DD ++ dirtyS ⟨gen, kind, nn, c0, c1, c2, c3, t, ws⟩ k g jj) B ⟨gen, kind, nn, c0, c1, c2, c3, t, ws⟩ k) (fun _ j _ => 4 - (intOf j).toNat)
      case atStart => exact ⟨0, by omega, rfl, by simpa [dirtyS] using HIN'.out⟩
      case round =>
        obtain ⟨j, hj, rfl, hin⟩ := hrel
        have HI := Lib.hid hin
        have hsl := dirtyS_len ⟨gen, kind, nn, c0, c1, c2, c3, t, ws⟩ k g j
        have hbase := HI.out.1.1.size
        by_cases hj4 : j < 4
        · have d0 := hin.2.1.1
          have d1 := hin.2.1.2.1
          have d2 := hin.2.1.2.2 j hj4
          simp only [] at d1
          obtain ⟨cj, hcj⟩ : ∃ cj, SegS.card ⟨gen, kind, nn, c0, c1, c2, c3, t, ws⟩ j = cj := ⟨_, rfl⟩
          rw [hcj] at d2
          have HCJ := Lib.hid hcj
          have j0 : (0 : Int) ≤ (j : Int) := by omega
          have j1 : (j : Int) < 4 := by omega
          clear hin hcj HIN'
          by_cases hg : g < gen
          · by_cases hc : cj ≤ g
            · have hst := dirty_step_yes (s := ⟨gen, kind, nn, c0, c1, c2, c3, t, ws⟩) (k := k) (g := g) (j := j) DD ⟨hg, by rw [HCJ.out]; exact hc⟩
              have HST := Lib.hid hst
              clear hst
              have hlen2 : (DD ++ dirtyS ⟨gen, kind, nn, c0, c1, c2, c3, t, ws⟩ k g j).length ≤ 5000 := by have := HDL.out; rw [List.length_append]; omega
              generalize DD ++ dirtyS ⟨gen, kind, nn, c0, c1, c2, c3, t, ws⟩ k g j = E at *
              have HLN := Lib.hid hlen2
              clear hlen2 hsl
              go_wp2_with (at_builtin; refine wpList_append_lies _ rfl _ _ 85 rfl w.heap.size 90 i0 (.agg #[.int .i64 0, .int .i64 0]) 2 16 Try.underlying85 hi'.out hz0'.out hz1'.out hz2'.out rfl (by decide) _ _ _ rfl (HI.out.1.2.alloc _) ⟨wr.heap.size, 0, none⟩ 1 1 [.int .i64 k, .int .i64 j] rfl rfl ?c1 ?c2 (by decide) ?c3 ?c4 ?c5 (wr.heap.size + 1) ?c6 ?_)
              case c1 => exact World.news_of_block (heap_alloc_new _ _)
              case c2 => intro u hu; simp at hu; rcases hu with rfl | rfl <;> rfl
              case c3 => have := HLN.out; unfold maxLen; omega
              case c4 => have := HLN.out; omega
              case c5 => simp; omega
              case c6 => simp
              intro g' cap' w4 hown' hgrow hat hlt'
              have HI2 := Lib.hid (HI.out.appended (k := k) (j := j) hown' hgrow hat)
              clear hown' hgrow hat hlt' d0 d1 d2
              go_wp2_with fail
              go_roundw
              case rel => exact ⟨j + 1, by omega, by go_num, by rw [HST.out]; exact HI2.out⟩
              case measure => simp [intOf]; omega
            · have hst := dirty_step_no (s := ⟨gen, kind, nn, c0, c1, c2, c3, t, ws⟩) (k := k) (g := g) (j := j) DD (fun h => hc (by rw [← HCJ.out]; exact h.2))
              have HST := Lib.hid hst
              have hc' : decide (cj ≤ g) = false := decide_eq_false hc
              clear hst hc
              go_wp2_with fail
              go_roundw
              case rel => exact ⟨j + 1, by omega, by go_num, by rw [HST.out]; exact HI.out⟩
              case measure => simp [intOf]; omega
          · have hst := dirty_step_no (s := ⟨gen, kind, nn, c0, c1, c2, c3, t, ws⟩) (k := k) (g := g) (j := j) DD (fun h => hg h.1)
            have HST := Lib.hid hst
            have hg' : decide (g < gen) = false := decide_eq_false hg
            clear hst hg
            go_wp2_with fail
            go_roundw
            case rel => exact ⟨j + 1, by omega, by go_num, by rw [HST.out]; exact HI.out⟩
            case measure => simp [intOf]; omega
        · obtain rfl : j = 4 := by omega
          have FIN : Hid (DRow w wr u5 (dirtyL R (T.take (a + 1)) g)) := Lib.hid (by rw [HDN.out]; exact hin.1)
          clear hin
          go_wp2_with fail
          go_roundw
          case rel => first | exact ⟨a + 1, by omega, by go_num, FIN.out⟩ | ((repeat apply Exists.intro); exact ⟨⟨a + 1, by omega, by go_num, FIN.out⟩, rfl⟩)
          case measure => simp [intOf]; omega
    · obtain rfl : a = T.length := by omega
      rw [List.take_length] at hD
      have HF := Lib.hid hD
      clear hD HD
      go_wp2_with fail
      go_ret
      refine ⟨_, rfl, ?_, HF.out.1⟩
      have hown := HF.out.2
      rcases hown.2 with ⟨hl, hlen⟩ | ⟨gb, gcap, cur, hl, hgb, _⟩
      · exact .inl ⟨hl, List.eq_nil_of_length_eq_zero hlen⟩
      · subst hl
        refine .inr ⟨gb, gcap, by omega, rfl, fun i hi => ?_⟩
        have := cardsV_get (dirtyL R T g) i hi
        exact ⟨by rw [hown.cellAt (i * 2) (by omega)]; exact this.1, by rw [hown.cellAt (i * 2 + 1) (by omega)]; exact this.2⟩
end
end Go.Proofs.Ytoafoodgomnfeaa

namespace Go.Proofs.Ytoafoodgomnfeaa
open Go.RowKit
set_option linter.unusedVariables false
theorem under90 : Try.prog.underlying 90 = some (.struct (Try.prog.fieldsOf 90)) := by kernel_rfl
theorem stood90 : Try.prog.stoodInHeld 90 = false := by kernel_rfl
theorem fields90 : (Try.prog.fieldsOf 90).toList.map (fun f => (f.name, f.type, f.offset)) = [("Seg", 3, 0), ("Card", 3, 1)] := by kernel_rfl
@[go_sem ↓] theorem neq90_same (g k : Int) (w : World) : Sem.run Try.prog (binOp BinOp.neq 90 (.agg #[.int .i64 g, .int .i64 k]) (.agg #[.int .i64 g, .int .i64 k])) w = .ok (.bool false) w := by
  have key : (Op.equalIn 10000 90 (.agg #[.int .i64 g, .int .i64 k]) (.agg #[.int .i64 g, .int .i64 k])).run Try.prog w = .ok true w := by
    rw [run_equalIn_struct w 9999 90 _ _ under90 stood90]
    have hf := fields90
    generalize (Try.prog.fieldsOf 90).toList = fs at hf ⊢
    rcases fs with _ | ⟨f0, _ | ⟨f1, _ | ⟨f2, fs⟩⟩⟩
    case cons.cons.nil =>
      simp only [List.map_cons, List.map_nil, List.cons.injEq, Prod.mk.injEq, and_true] at hf
      obtain ⟨⟨n0, t0, o0⟩, ⟨n1, t1, o1⟩⟩ := hf
      rw [eqFields_cons_alike (v := .int .i64 g) (by rw [n0]; decide) (by rw [t0, o0]; kernel_rfl) (by rw [t0]; exact equalIn_int_alike 9998 g w),
        eqFields_cons_alike (v := .int .i64 k) (by rw [n1]; decide) (by rw [t1, o1]; kernel_rfl) (by rw [t1]; exact equalIn_int_alike 9998 k w)]
      simp [Op.eqFields]
    all_goals (simp at hf)
  rw [run_neq_struct, key]
  rfl

set_option maxRecDepth 100000 in
set_option maxHeartbeats 2000000 in
theorem same_any {w : World} {B B' : Nat} {v v' : Value} {L : List (Nat × Nat)} (h1 : CardsL B w v L) (h2 : CardsL B' w v' L) (hL : L.length ≤ 4096) :
    Calls Try.prog 82 #[v, v'] w fun e w' => e = .returned (.bool true) ∧ Off [] w w' := by
  obtain ⟨va, ca, b, rfl, hva, hc⟩ := h1.form
  obtain ⟨vb, cb, b', rfl, hvb, hc'⟩ := h2.form
  have HVA := Lib.hid hva
  have HVB := Lib.hid hvb
  have HC := Lib.hid hc
  have HC' := Lib.hid hc'
  clear h1 h2 hva hvb hc hc'
  go_enter Try.func82, Try.ntmps82
  go_wp2_with fail
  go_loopw [5] (fun i wr => ∃ a : Nat, a ≤ L.length ∧ i = .int .i64 a ∧ Off [] w wr) (fun i _ => L.length - (intOf i).toNat)
  case atStart => exact ⟨0, by omega, rfl, Off.refl _ _⟩
  case round =>
    obtain ⟨a, ha, rfl, O⟩ := hrel
    have HO := Lib.hid O
    by_cases hlt : a < L.length
    · obtain ⟨rfl, _⟩ := HVA.out (by omega)
      obtain ⟨rfl, _⟩ := HVB.out (by omega)
      have b0 := O.cell (HC.out a hlt).1 (by simp)
      have b1 := O.cell (HC.out a hlt).2 (by simp)
      have b2 := O.cell (HC'.out a hlt).1 (by simp)
      have b3 := O.cell (HC'.out a hlt).2 (by simp)
      have a0 : (0 : Int) ≤ (a : Int) := by omega
      have a1 : (a : Int) < (L.length : Int) := by omega
      generalize L.getD a (0, 0) = p at b0 b1 b2 b3
      obtain ⟨k, j⟩ := p
      clear O
      go_wp2_with (first | go_quiet (fail))
      go_roundw
      case rel => first | exact ⟨a + 1, by omega, by go_num, HO.out⟩ | exact ⟨a + 1, by omega, by go_num, HO.out.drewN _⟩
      case measure => simp [intOf]; omega
    · obtain rfl : a = L.length := by omega
      clear O
      go_wp2_with fail
      go_ret
      first | exact ⟨rfl, HO.out⟩ | exact ⟨rfl, HO.out.drewN _⟩
end Go.Proofs.Ytoafoodgomnfeaa

namespace Go.Proofs.Ytoafoodgomnfeaa
open Go.RowKit
set_option linter.unusedVariables false

theorem rcnew_arg (x : Int) (w : World) (h : x < 8 ∨ 1024 < x) : Calls Try.prog 51 #[.int .i64 x] w fun e w' => e = .returned (.pointer none) ∧ w = w' := by
  have hh := Lib.hid h
  clear h
  go_enter Try.func51, Try.ntmps51
  go_wp2_with fail
  refine (rsnew_arg x w hh.out).mono ?_
  rintro e w1 ⟨rfl, rfl⟩
  go_wp2_with fail
  go_ret
  exact ⟨rfl, rfl⟩
/-- The document's cards, just made. -/
def RMade (w w' : World) (db qb rb n : Nat) : Prop :=
  RefAt w' rb n (MemS.made n) [] (fun _ => .slice none 0 0) (.slice none 0 0) ∧ w'.cell? ⟨qb, 0, none⟩ = some (.pointer (some ⟨rb, 0, none⟩)) ∧ (∀ i, i < 20 → w'.cell? ⟨qb, 1 + i, none⟩ = some (.int .i64 (-1))) ∧ (∀ j, w'.frozen? ⟨qb, j, none⟩ = false) ∧
    w'.cell? ⟨db, 0, none⟩ = some (.pointer (some ⟨qb, 0, none⟩)) ∧ Off [] w w' ∧ w.heap.size ≤ rb ∧ w.heap.size ≤ qb ∧ w.heap.size ≤ db ∧ rb ≠ qb ∧ db ≠ qb ∧ db ≠ rb
theorem rcnew_ok (n : Nat) (w : World) (h1 : 8 ≤ n) (h2 : n ≤ 1024) :
    Calls Try.prog 51 #[.int .i64 n] w fun e w' => ∃ db qb rb, e = .returned (.pointer (some ⟨db, 0, none⟩)) ∧ RMade w w' db qb rb n := by
  go_enter Try.func51, Try.ntmps51
  go_wp2_with fail
  refine (rsnew_ok n w h1 h2 (MemS.made n) (fun _ => .slice none 0 0)).mono ?_
  rintro e w1 ⟨qb, rb, rfl, hR, q0, q1, q2, O, z1, z2, z3, z4⟩
  have O1 := (Off.refl [] w1).alloc (.cells #[.pointer (some ⟨qb, 0, none⟩)] 141)
  have hrb := hR.lt (.inl rfl)
  have hsz := O.size
  have FIN : Hid (RMade w (w1.alloc (.cells #[.pointer (some ⟨qb, 0, none⟩)] 141)) w1.heap.size qb rb n) := Lib.hid
    ⟨hR.off O1 (by simp), O1.cell q0 (by simp), fun i hi => O1.cell (q1 i hi) (by simp), fun j => by rw [O1.frozen z4 (by simp)]; exact q2 j, by rw [cell_of_row _ _ 0 _ _ _ (Array.getElem?_push_size)]; rfl, O.trans O1, z1, z2, by omega, z3, by omega, by omega⟩
  clear hR q0 q1 q2 O O1 hrb
  go_wp2_with fail
  go_ret
  exact ⟨_, _, _, rfl, FIN.out⟩

/-- Both are made. -/
theorem CBoth.made {w1 w2 : World} {cb pb mb sb db qb rb n : Nat} {X : List Nat} (h : CardAt w1 cb pb mb sb n (MemS.made n) (fun _ => 0)) (h1 : 8 ≤ n) (h2 : n ≤ 1024) (hr : RMade w1 w2 db qb rb n)
    (hX : ∀ b, b ∈ X → b < cb ∧ b < pb ∧ b < mb ∧ b < sb) : CBoth w2 cb pb mb sb db qb rb n (MemS.made n) (MemS.made n) (fun _ => 0) (fun _ => 0) 0 X := by
  obtain ⟨r, q0, q1, q2, d0, O, g1, g2, g3, z1, z2, z3⟩ := hr
  have m0 := h.cb_lt
  have m1 := h.sp.mem.mb_lt
  have m2 := h.sp.mem.sb_lt (by omega)
  have m3 := h.sp.pb_lt
  have e1 := h.sp.nm
  have e2 := h.sp.ns
  have e3 := h.np
  have e4 := h.nm
  have e5 := h.ns
  have hqlt := World.block_lt_of_cell? _ _ q0
  have hdlt := World.block_lt_of_cell? _ _ d0
  have hsz2 := O.size
  have S2 := h.sp.off (by omega) O (by simp) (by simp) (by simp)
  refine ⟨⟨⟨S2.mem, Wf.made n, Wf.made n, ⟨[], _, _, r, ⟨fun k => ?_, List.Pairwise.nil⟩, fun b hb => ?_⟩, fun b hb => ?_, by omega, h2⟩, S2.ptr, fun i hi => ?_, S2.fz, q0, q1, q2, by omega, fun hx => ?_, fun hx => ?_, CurOk.none _ _, CurOk.none _ _, Kc.made n⟩, O.cell h.ptr (by simp), d0, fun hx => by have := hX _ hx; omega, fun hx => by have := hX _ hx; omega⟩
  · simp [selB, MemS.made, SegS.zero]
  · rcases hb with rfl | hb | ⟨k, hk, _⟩
    · refine ⟨by omega, by omega, fun hx => ?_⟩
      simp only [List.mem_cons] at hx
      rcases hx with e | e | e | e | e
      · omega
      · exact z1 e
      · omega
      · exact z3 e.symm
      · have := hX _ e; omega
    · simp [Value.ownBlock] at hb
    · simp at hk
  · simp only [List.mem_cons] at hb
    rcases hb with rfl | rfl | rfl | rfl | hb
    · exact ⟨by omega, by omega, by omega⟩
    · exact ⟨by omega, by omega, by omega⟩
    · exact ⟨by omega, by omega, by omega⟩
    · exact ⟨by omega, by omega, by omega⟩
    · have := hX b hb; exact ⟨by omega, by omega, by omega⟩
  · have := S2.cur (i / 4) (i % 4) (by omega) (by omega)
    rw [show 1 + i / 4 * 4 + i % 4 = 1 + i by omega] at this
    exact this
  · simp only [List.mem_cons] at hx
    rcases hx with e | e | e
    · omega
    · omega
    · have := hX _ e; omega
  · simp only [List.mem_cons] at hx
    rcases hx with e | e | e
    · omega
    · omega
    · have := hX _ e; omega

set_option maxHeartbeats 1000000 in
theorem ccopy_all {w : World} {cb pb mb sb n : Nat} {M : MemS} {C : Nat → Int} (h : CardAt w cb pb mb sb n M C) (hn0 : 0 < n) (hn : n ≤ 1024) :
    Calls Try.prog 49 #[.pointer (some ⟨cb, 0, none⟩)] w fun e w' => ∃ cb' pb' mb' sb' cap, e = .returned (.pointer (some ⟨cb', 0, none⟩)) ∧ CardAt w' cb' pb' mb' sb' n { M with cap := cap } C ∧ Off [] w w' ∧ w.heap.size ≤ cb' ∧ w.heap.size ≤ pb' ∧ w.heap.size ≤ mb' ∧ w.heap.size ≤ sb' := by
  have p1 := h.ptr
  have HH := Lib.hid h
  clear h
  go_enter Try.func49, Try.ntmps49
  go_wp2_with fail
  refine (scopy_all HH.out.sp hn0 hn).mono ?_
  rintro e w1 ⟨pb', mb', sb', cap, rfl, hS, O, z1, z2, z3⟩
  have a1 := hS.pb_lt
  have a2 := hS.mem.mb_lt
  have a3 := hS.mem.sb_lt hn0
  have hsz := O.size
  have O1 := (Off.refl [] w1).alloc (.cells #[.pointer (some ⟨pb', 0, none⟩)] 80)
  have FIN := Lib.hid (show CardAt (w1.alloc (.cells #[.pointer (some ⟨pb', 0, none⟩)] 80)) w1.heap.size pb' mb' sb' n { M with cap := cap } C ∧ Off [] w (w1.alloc (.cells #[.pointer (some ⟨pb', 0, none⟩)] 80)) ∧ w.heap.size ≤ w1.heap.size ∧ w.heap.size ≤ pb' ∧ w.heap.size ≤ mb' ∧ w.heap.size ≤ sb' from
    ⟨⟨hS.off hn0 O1 (by simp) (by simp) (by simp), by rw [cell_of_row _ _ 0 _ _ _ (Array.getElem?_push_size)]; rfl, by omega, by omega, by omega⟩, O.trans O1, hsz, z1, z2, z3⟩)
  clear hS O O1 a1 a2 a3 p1
  go_wp2_with fail
  go_ret
  exact ⟨_, _, _, _, _, rfl, FIN.out⟩

/-- New blocks are of neither. -/
theorem CBoth.pushAll {w w' : World} {cb pb mb sb db qb rb n c : Nat} {M R : MemS} {C D : Nat → Int} {X : List Nat} (h : CBoth w cb pb mb sb db qb rb n M R C D c X) (O : Off [] w w') {N : List Nat} (hN : ∀ g, g ∈ N → w.heap.size ≤ g ∧ g < w'.heap.size) : CBoth w' cb pb mb sb db qb rb n M R C D c (N ++ X) := by
  have h1 := h.off O
  have a := h.cb_lt
  have b := h.db_lt
  refine ⟨(h.sp.pushAll O hN).less (fun q hq => ?_), h1.cp, h1.dp, ?_, ?_⟩
  · simp only [List.mem_cons, List.mem_append] at hq ⊢
    rcases hq with e | e | e | e
    · exact .inr (.inl e)
    · exact .inr (.inr (.inl e))
    · exact .inl e
    · exact .inr (.inr (.inr e))
  · rw [List.mem_append]; exact fun hh => hh.elim (fun e => by have := hN _ e; omega) h.cx
  · rw [List.mem_append]; exact fun hh => hh.elim (fun e => by have := hN _ e; omega) h.dx
/-- The copy goes on in its place. -/
theorem CBoth.swap {w w' : World} {cb pb mb sb db qb rb n c' cb' pb' mb' sb' cap : Nat} {M M3 : MemS} {C C3 : Nat → Int} {X : List Nat} (h : CBoth w' cb pb mb sb db qb rb n M3 M C3 C c' ([cb', pb', mb', sb'] ++ X)) (hS : CardAt w cb' pb' mb' sb' n { M with cap := cap } C) (hK : Kc n M) (O : OffX ([cb', pb', mb', sb'] ++ X) w w')
    (hX : ∀ b, b ∈ X → b < cb' ∧ b < pb' ∧ b < mb' ∧ b < sb') : CBoth w' cb' pb' mb' sb' db qb rb n { M with cap := cap } { M with cap := cap } C C c' X := by
  have S := hS.sp.offX h.n0 O (by simp) (by simp) (by simp)
  obtain ⟨T, V, v, r1, r2, r3⟩ := h.sp.both.ref
  have hq := h.sp.qx
  have hq2 := h.sp.qb_ne
  have hd := h.dx
  have xx := h.sp.both.x
  have n3 := hS.np
  have n4 := hS.nm
  have n5 := hS.ns
  simp only [List.mem_append, List.mem_cons, List.not_mem_nil, or_false, not_or] at hq hd
  have hc' : w'.cell? ⟨cb', 0, none⟩ = some (.pointer (some ⟨pb', 0, none⟩)) := by
    obtain ⟨L, O', hL⟩ := O
    exact O'.cell hS.ptr (fun hm => hL _ hm (by simp))
  have clt := World.block_lt_of_cell? _ _ hc'
  refine ⟨⟨⟨S.mem, h.sp.both.wfr.recap cap, h.sp.both.wfr.recap cap, ⟨T, V, v, r1.recap cap, r2.recap cap, fun b hb => ?_⟩, fun b hb => ?_, h.n0, h.n1⟩, S.ptr, fun i hi => ?_, S.fz, h.sp.qptr, h.sp.qcur, h.sp.qfz, fun e => hq.2.2.1.2.1 e.symm, fun hm => ?_, fun hm => ?_, h.sp.okD.recap cap, h.sp.okD.recap cap, hK⟩, hc', h.dp, fun hm => by have := hX _ hm; omega, hd.2⟩
  · have := (r3 b hb).2.2
    simp only [List.mem_cons, List.mem_append, not_or, List.not_mem_nil, or_false] at this
    refine ⟨this.2.2.2.2.1.2.2.1, this.2.2.2.2.1.2.2.2, ?_⟩
    simp only [List.mem_cons, not_or]
    exact ⟨this.2.2.2.2.1.2.1, this.2.1, this.2.2.2.2.1.1, this.2.2.2.1, this.2.2.2.2.2⟩
  · simp only [List.mem_cons] at hb
    rcases hb with rfl | rfl | rfl | rfl | hb
    · exact ⟨S.nm, S.ns, S.pb_lt⟩
    · exact ⟨hq.2.2.1.2.2.1, hq.2.2.1.2.2.2, hq2.2.2⟩
    · exact ⟨n4, n5, clt⟩
    · exact ⟨hd.1.2.2.1, hd.1.2.2.2, h.db_lt⟩
    · have := hX b hb
      exact ⟨by omega, by omega, (xx b (by simp [hb])).2.2⟩
  · have := S.cur (i / 4) (i % 4) (by omega) (by omega)
    rw [show 1 + i / 4 * 4 + i % 4 = 1 + i by omega, show i / 4 * 4 + i % 4 = i by omega] at this
    exact this
  · simp only [List.mem_cons] at hm
    rcases hm with e | e | e
    · exact n3 e.symm
    · exact hd.1.2.1 e.symm
    · have := hX _ e; omega
  · simp only [List.mem_cons] at hm
    rcases hm with e | e | e
    · exact hq.2.2.1.1 e
    · exact hq.2.1 e
    · exact hq.2.2.2 e
end Go.Proofs.Ytoafoodgomnfeaa
