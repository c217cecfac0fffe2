/-
  YtoafoodgomnfeaaReff: Taken of the document's memory; two lists of numbers compared.
-/
import Derived.Test.YtoafoodgomnfeaaRefe
namespace Go.Proofs.Ytoafoodgomnfeaa
open Go.RowKit
set_option linter.unusedVariables false
/-- Does the segment's generation stand among those asked for? -/
def genB (M : MemS) (G : List Int) (k : Nat) : Bool := G.isEmpty || decide ((M.S k).gen ∈ G)
def genP (G : List Int) (g : Int) (q : Nat) : Bool := G.isEmpty || decide (g ∈ G.take q)
def gfT (M : MemS) (G : List Int) (T : List Nat) (k : Nat) : List Nat := (T.take k).filter (genB M G)
theorem gfT_succ (M : MemS) (G : List Int) (T : List Nat) (k : Nat) (hk : k < T.length) : gfT M G T (k + 1) = if genB M G (T.getD k 0) then gfT M G T k ++ [T.getD k 0] else gfT M G T k := by
  unfold gfT
  rw [List.take_add_one, List.filter_append, List.getElem?_eq_getElem hk]
  have e : T.getD k 0 = T[k] := by rw [List.getD, List.getElem?_eq_getElem hk]; rfl
  rw [e]
  by_cases h : genB M G T[k]
  · simp [h]
  · simp [h]
theorem gfT_len (M : MemS) (G : List Int) (T : List Nat) (k : Nat) : (gfT M G T k).length ≤ k := by
  have := List.length_filter_le (genB M G) (T.take k)
  unfold gfT
  simp at this
  omega
theorem genP_succ (G : List Int) (g : Int) (q : Nat) (hq : q < G.length) : genP G g (q + 1) = (genP G g q || decide (G.getD q 0 = g)) := by
  have e : G.getD q 0 = G[q] := by rw [List.getD, List.getElem?_eq_getElem hq]; rfl
  unfold genP
  rw [List.take_add_one, List.getElem?_eq_getElem hq, e, Bool.or_assoc]
  congr 1
  rw [← Bool.decide_or, decide_eq_decide]
  simp only [List.mem_append, Option.toList_some, List.mem_singleton]
  exact ⟨fun h => h.elim .inl (fun e => .inr e.symm), fun h => h.elim .inl (fun e => .inr e.symm)⟩
theorem genP_all (M : MemS) (G : List Int) (k : Nat) : genP G (M.S k).gen G.length = genB M G k := by unfold genP genB; rw [List.take_length]
theorem genP_zero (G : List Int) (g : Int) : genP G g 0 = ((G.length : Int) == 0) := by
  unfold genP
  cases G with
  | nil => rfl
  | cons a l => simp; omega

/-- At the head of each round. -/
def RTRel (M : MemS) (G : List Int) (T : List Nat) (W1 : World) (l i : Value) (wr : World) : Prop :=
  ∃ k : Nat, k ≤ T.length ∧ i = .int .i64 k ∧ Off [] W1 wr ∧ wr.ownsRow W1.heap.size 3 1 l (gfT M G T k).length (natsV (gfT M G T k))
theorem RTRel.skip {M : MemS} {G : List Int} {T : List Nat} {W1 : World} {k : Nat} {l : Value} {wr : World} (hk : k < T.length) (hs : genB M G (T.getD k 0) = false) (O : Off [] W1 wr) (hown : wr.ownsRow W1.heap.size 3 1 l (gfT M G T k).length (natsV (gfT M G T k))) :
    RTRel M G T W1 l (.int .i64 ((k : Int) + 1)) wr :=
  ⟨k + 1, by omega, by go_num, O, by rw [gfT_succ _ _ _ _ hk, hs]; exact hown⟩
theorem RTRel.take {M : MemS} {G : List Int} {T : List Nat} {W1 : World} {k : Nat} {l : Value} {wr : World} (hk : k < T.length) (hs : genB M G (T.getD k 0) = true) (O : Off [] W1 wr) (hown : wr.ownsRow W1.heap.size 3 1 l ((gfT M G T k).length + 1) (natsV (gfT M G T k) ++ [Value.int .i64 ((T.getD k 0 : Nat) : Int)])) :
    RTRel M G T W1 l (.int .i64 ((k : Int) + 1)) wr :=
  ⟨k + 1, by omega, by go_num, O, by rw [gfT_succ _ _ _ _ hk, hs]; simpa [natsV] using hown⟩

set_option maxRecDepth 100000 in
set_option maxHeartbeats 1000000 in
theorem rtaken_any {w : World} {rb N : Nat} {M : MemS} {T : List Nat} {V : Nat → Value} {v : Value} (h : RefAt w rb N M T V v) (hlen : T.length ≤ 1024) (g : Option Addr) (gc : Nat) (G : List Int) (hG : G.length ≤ 4096) (hg : IntsAt 0 w (.slice g G.length gc) G) :
    Calls Try.prog 61 #[.pointer (some ⟨rb, 0, none⟩), .slice g G.length gc] w fun e w' => ∃ v', e = .returned v' ∧ IntsAt w.heap.size w' v' (intsOf (T.filter (genB M G))) ∧ Off [] w w' := by
  obtain ⟨i0, hi, hz0, hz1, hz2⟩ := info_parts info3t
  have hi' := Lib.hid hi
  have hz0' := Lib.hid hz0
  have hz1' := Lib.hid hz1
  have hz2' := Lib.hid hz2
  clear hi hz0 hz1 hz2
  obtain ⟨la, lcap, lg, hv0, hla, hlc⟩ := h.form
  have hl := h.l
  rw [hv0] at hl
  have HLC := Lib.hid hlc
  have HG := Lib.hid hg
  have HL := Lib.hid hl
  have HLA := Lib.hid hla
  clear h hg hlc hl hla
  go_enter Try.func61, Try.ntmps61
  go_wp2_with fail
  go_loopw [5, 6] (fun l i wr => RTRel M G T w l i wr) (fun _ i _ => T.length - (intOf i).toNat)
  case atStart => exact ⟨0, by omega, rfl, Off.refl _ _, World.ownsRow_nil _ _ _ _⟩
  case round =>
    obtain ⟨k, hk, rfl, O, hown⟩ := hrel
    have OO := Lib.hid O
    have HOWN := Lib.hid hown
    have hl := O.cell HL.out (by simp)
    clear O hown
    by_cases hlt : k < T.length
    · obtain ⟨rfl, _⟩ := HLA.out (by omega)
      have hno := OO.out.cell (HLC.out k 0 hlt (by omega)).1 (by simp)
      have hge := OO.out.cell (HLC.out k 1 hlt (by omega)).1 (by simp)
      simp only [cellR] at hno hge
      generalize hkk : T.getD k 0 = kk at hno hge
      generalize hgg : (M.S kk).gen = gn at hge
      have KK := Lib.hid hkk
      have GG := Lib.hid hgg
      clear hkk hgg
      have hz := genP_zero G gn
      have HZ := Lib.hid hz
      clear hz
      go_wp2_with fail
      go_loopw [7, 8] (fun b j wq => ∃ q : Nat, q ≤ G.length ∧ j = .int .i64 q ∧ b = .bool (genP G gn q) ∧ Off [] w wq ∧ wq.ownsRow w.heap.size 3 1 u5 (gfT M G T k).length (natsV (gfT M G T k))) (fun _ j _ => G.length - (intOf j).toNat)
      case atStart => exact ⟨0, by omega, rfl, by rw [HZ.out], OO.out, HOWN.out⟩
      case round =>
        obtain ⟨q, hq, rfl, rfl, O2, hown2⟩ := hrel
        have OO2 := Lib.hid O2
        have HOWN2 := Lib.hid hown2
        have hl2 := O2.cell HL.out (by simp)
        have hge2 := O2.cell (HLC.out k 1 hlt (by omega)).1 (by simp)
        have hno2 := O2.cell (HLC.out k 0 hlt (by omega)).1 (by simp)
        simp only [cellR, KK.out, GG.out, Nat.add_zero] at hge2 hno2
        by_cases hql : q < G.length
        · rcases HG.out with ⟨hv, hnil⟩ | ⟨gb, go, gcap, _, hv, hgc⟩
          · rw [hnil] at hql; simp at hql
          cases hv
          have hgq := O2.cell (hgc q hql) (by simp)
          have hps := genP_succ G gn q hql
          generalize G.getD q 0 = gq at hgq hps
          have HPS := Lib.hid hps
          clear O2 hown2 hgc hps
          have q1 : (0 : Int) ≤ (k : Int) := by omega
          have q2 : (k : Int) < (T.length : Int) := by omega
          have q3 : (0 : Int) ≤ (q : Int) := by omega
          have q4 : (q : Int) < (G.length : Int) := by omega
          cases hb : genP G gn q with
          | true =>
            have HB := Lib.hid hb
            clear hb
            go_wp2_with fail
            go_quiet (fail)
            go_wp2_with fail
            go_roundw
            case rel => exact ⟨q + 1, by omega, by go_num, by rw [HPS.out, HB.out]; rfl, OO2.out.drewN _, HOWN2.out⟩
            case measure => simp [intOf]; omega
          | false =>
            have HB := Lib.hid hb
            clear hb
            go_wp2_with fail
            go_quiet (fail)
            go_wp2_with fail
            go_roundw
            case rel => exact ⟨q + 1, by omega, by go_num, by rw [HPS.out, HB.out]; simp [Bool.beq_eq_decide_eq, eq_comm], OO2.out.drewN _, HOWN2.out⟩
            case measure => simp [intOf]; omega
        · obtain rfl : q = G.length := by omega
          have hall := genP_all M G kk
          rw [GG.out] at hall
          rw [hall]
          have hfl := gfT_len M G T k
          have hsz := OO2.out.size
          have q1 : (0 : Int) ≤ (k : Int) := by omega
          have q2 : (k : Int) < (T.length : Int) := by omega
          clear hall O2 hown2
          cases hb : genB M G kk with
          | true =>
            have HB := Lib.hid hb
            clear hb
            go_wp2_with (at_builtin; refine wpList_append_own _ rfl _ _ 47 rfl w.heap.size 3 i0 (.int .i64 0) 1 8 Try.underlying47 hi'.out hz0'.out hz1'.out hz2'.out rfl (by decide) _ _ _ rfl (HOWN2.out.alloc _) ⟨wr.heap.size, 0, none⟩ 1 1 [.int .i64 kk] rfl rfl ?c1 ?c2 ?c3 ?c4 ?c5 ?_)
            case c1 => exact (cell_one_new _ _ _)
            case c2 => intro u hu; simp at hu; subst hu; rfl
            case c3 => unfold maxLen; omega
            case c4 => omega
            case c5 => simp; omega
            intro v' w1 hown' hgrow _
            have hr : ∀ j, _ = some j → w.heap.size ≤ j := fun j hj => (HOWN2.out.lt j hj).1
            have OO3 := Lib.hid ((OO2.out.alloc _).grown hgrow hr)
            have HO3 := Lib.hid hown'
            clear hgrow hown' hr
            go_wp2_with fail
            go_roundw
            case rel => first | exact RTRel.take hlt (by rw [KK.out]; exact HB.out) OO3.out (by rw [KK.out]; exact HO3.out) | ((repeat apply Exists.intro); exact ⟨RTRel.take hlt (by rw [KK.out]; exact HB.out) OO3.out (by rw [KK.out]; exact HO3.out), rfl⟩)
            case measure => simp [intOf]; omega
          | false =>
            have HB := Lib.hid hb
            clear hb
            go_wp2_with fail
            go_roundw
            case rel => first | exact RTRel.skip hlt (by rw [KK.out]; exact HB.out) OO2.out HOWN2.out | ((repeat apply Exists.intro); exact ⟨RTRel.skip hlt (by rw [KK.out]; exact HB.out) OO2.out HOWN2.out, rfl⟩)
            case measure => simp [intOf]; omega
    · obtain rfl : k = T.length := by omega
      have hfin : IntsAt w.heap.size wr u5 (intsOf (T.filter (genB M G))) := by
        have h := HOWN.out
        have e : gfT M G T T.length = T.filter (genB M G) := by unfold gfT; rw [List.take_length]
        rw [e] at h
        rcases h.2 with ⟨hl, hlen⟩ | ⟨gb, gcap, cur, hl, hgb, hheap, hlc, hmx, hcur, hxs⟩
        · exact .inl ⟨hl, by rw [List.eq_nil_of_length_eq_zero hlen]; rfl⟩
        · refine .inr ⟨gb, 0, gcap, hgb, by rw [hl]; simp [intsOf], fun i hi => ?_⟩
          subst hl
          simp only [intsOf, List.length_map] at hi
          rw [Nat.zero_add, h.cellAt i (by omega)]
          simp [natsV, intsOf, List.getD, List.getElem?_eq_getElem hi]
      have HF := Lib.hid hfin
      clear hfin
      go_wp2_with fail
      go_ret
      exact ⟨_, rfl, HF.out, OO.out⟩

theorem TakenIs.gen {M : MemS} {n : Nat} {T : List Nat} (hT : TakenIs M n [] T) (G : List Int) : TakenIs M n G (T.filter (genB M G)) := by
  refine ⟨fun k => ?_, hT.ord.sublist (List.filter_sublist)⟩
  rw [List.mem_filter, hT.mem]
  unfold selB genB
  simp only [List.isEmpty_nil, Bool.true_or, Bool.and_true, Bool.and_eq_true]
  exact ⟨fun h => ⟨h.1.1, h.1.2, h.2⟩, fun h => ⟨⟨h.1, h.2.1⟩, h.2.2⟩⟩

/-- Taken of the document's memory tells what the program's tells. -/
theorem rtaken_all {w : World} {rb N n : Nat} {M : MemS} {T : List Nat} {V : Nat → Value} {v : Value} (h : RefAt w rb N M T V v) (hT : TakenIs M n [] T) (hn : n ≤ 1024) (g : Option Addr) (gc : Nat) (G : List Int) (hG : G.length ≤ 4096) (hg : IntsAt 0 w (.slice g G.length gc) G) {T' : List Nat} (hT' : TakenIs M n G T') :
    Calls Try.prog 61 #[.pointer (some ⟨rb, 0, none⟩), .slice g G.length gc] w fun e w' => ∃ v', e = .returned v' ∧ IntsAt w.heap.size w' v' (intsOf T') ∧ Off [] w w' := by
  rw [hT'.unique (hT.gen G)]
  exact rtaken_any h (by have := hT.len; omega) g gc G hG hg

/-- Two lists of numbers are alike or not: func 60. -/
theorem ints_any {B B' : Nat} {w : World} {a b : Option Addr} {ca cb : Nat} {A C : List Int} (ha : IntsAt B w (.slice a A.length ca) A) (hc : IntsAt B' w (.slice b C.length cb) C) (hA : A.length ≤ 4096) (hC : C.length ≤ 4096) :
    Calls Try.prog 60 #[.slice a A.length ca, .slice b C.length cb] w fun e w' => e = .returned (.bool (decide (A = C))) ∧ ∃ q, w' = w.drewN q := by
  by_cases hl : A.length = C.length
  · have HA := Lib.hid ha
    have HC := Lib.hid hc
    have HL := Lib.hid hl
    clear ha hc
    have hle : ((A.length : Int) == (C.length : Int)) = true := beq_iff_eq.2 (by omega)
    go_enter Try.func60, Try.ntmps60
    go_wp2_with fail
    go_loopw [5] (fun j wq => ∃ i : Nat, i ≤ A.length ∧ j = .int .i64 i ∧ (∃ q, wq = w.drewN q) ∧ Hid (∀ x, x < i → A.getD x 0 = C.getD x 0)) (fun j _ => A.length - (intOf j).toNat)
    case atStart => exact ⟨0, by omega, rfl, ⟨0, rfl⟩, fun x hx => by omega⟩
    case round =>
      obtain ⟨i, hi, rfl, ⟨q, rfl⟩, hall⟩ := hrel
      by_cases hlt : i < A.length
      · rcases HA.out with ⟨hv, hnil⟩ | ⟨gb, go, gcap, _, hv, hgc⟩
        · rw [hnil] at hlt; simp at hlt
        cases hv
        rcases HC.out with ⟨hv, hnil⟩ | ⟨gb', go', gcap', _, hv, hgc'⟩
        · have h2 := HL.out; rw [hnil, List.length_nil] at h2; omega
        cases hv
        have c1 := hgc i hlt
        have hll := HL.out
        have c2 := hgc' i (by omega)
        generalize hx : A.getD i 0 = x at c1
        generalize hy : C.getD i 0 = y at c2
        have HX := Lib.hid hx
        have HY := Lib.hid hy
        clear hgc hgc' hx hy
        have q1 : (0 : Int) ≤ (i : Int) := by omega
        have q2 : (i : Int) < (A.length : Int) := by omega
        have q3 : (i : Int) < (C.length : Int) := by omega
        clear hll
        by_cases e : x = y
        · have HE := Lib.hid e
          have e1 : (x == y) = true := beq_iff_eq.2 e
          clear e
          go_wp2_with fail
          go_quiet (fail)
          go_wp2_with fail
          go_roundw
          case rel =>
            refine ⟨i + 1, by omega, by go_num, ⟨_, rfl⟩, fun z hz => ?_⟩
            by_cases ez : z = i
            · subst ez; rw [HX.out, HY.out, HE.out]
            · exact hall.out z (by omega)
          case measure => simp [intOf]; omega
        · have HE := Lib.hid e
          have e1 : (x == y) = false := beq_eq_false_iff_ne.2 e
          clear e
          go_wp2_with fail
          go_quiet (fail)
          go_wp2_with fail
          go_ret
          refine ⟨?_, _, World.drewN_drewN _ _ _⟩
          have : ¬ A = C := fun h => HE.out (by rw [← HX.out, ← HY.out, h])
          simp [this]
      · obtain rfl : i = A.length := by omega
        go_wp2_with fail
        go_ret
        refine ⟨?_, _, rfl⟩
        have : A = C := by
          apply List.ext_getElem HL.out
          intro z hz hz'
          have := hall.out z hz
          rw [List.getD, List.getD, List.getElem?_eq_getElem hz, List.getElem?_eq_getElem hz'] at this
          exact this
        simp [this]
  · have hne : ¬ A = C := fun h => hl (by rw [h])
    have hle : ((A.length : Int) == (C.length : Int)) = false := beq_eq_false_iff_ne.2 (by omega)
    rw [decide_eq_false hne]
    clear hne hl ha hc
    go_enter Try.func60, Try.ntmps60
    go_wp2_with fail
    go_ret
    exact ⟨rfl, 0, rfl⟩
end Go.Proofs.Ytoafoodgomnfeaa
