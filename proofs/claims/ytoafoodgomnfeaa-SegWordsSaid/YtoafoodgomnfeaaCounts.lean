/-
  YtoafoodgomnfeaaCounts: the walk of SegCounts.
-/
import Derived.Test.YtoafoodgomnfeaaCountsP
namespace Go.Proofs.Ytoafoodgomnfeaa
open Go.RowKit
set_option linter.unusedVariables false

theorem IntsAt.notNil {B : Nat} {w : World} {v : Value} {T : List Nat} (h : IntsAt B w v (intsOf T)) (hT : T ≠ []) : ∃ b o cap, B ≤ b ∧ v = .slice (some ⟨b, o, none⟩) T.length cap ∧ ∀ i, (hi : i < T.length) → w.cell? ⟨b, o + i, none⟩ = some (.int .i64 (T[i] : Int)) := by
  rcases h with ⟨_, h⟩ | ⟨b, o, cap, hb, hv, hc⟩
  · exact absurd (List.map_eq_nil_iff.1 h) hT
  · rw [intsOf_len] at hv hc
    exact ⟨b, o, cap, hb, hv, fun i hi => by rw [hc i hi, intsOf_get T hi]⟩

/-- A slice of numbers, whatever its length: its form. -/
theorem IntsAt.form {B : Nat} {w : World} {v : Value} {T : List Nat} (h : IntsAt B w v (intsOf T)) : ∃ a cap b o, v = .slice a T.length cap ∧ (0 < T.length → a = some ⟨b, o, none⟩) ∧ (0 < T.length → B ≤ b) ∧ ∀ i, (hi : i < T.length) → w.cell? ⟨b, o + i, none⟩ = some (.int .i64 (T[i] : Int)) := by
  by_cases hT : T = []
  · subst hT
    rcases h with ⟨h, _⟩ | ⟨b, o, cap, hb, hv, hc⟩
    · exact ⟨none, 0, 0, 0, h, fun h => absurd h (by simp), fun h => absurd h (by simp), fun i hi => absurd hi (by simp)⟩
    · exact ⟨_, cap, 0, 0, hv, fun h => absurd h (by simp), fun h => absurd h (by simp), fun i hi => absurd hi (by simp)⟩
  · obtain ⟨b, o, cap, hb, hv, hc⟩ := h.notNil hT
    exact ⟨_, cap, b, o, hv, fun _ => rfl, fun _ => hb, hc⟩

theorem IntsAt.one (w : World) (t : TypeId) (x : Int) : IntsAt 0 (w.alloc (.cells #[.int .i64 x] t)) (.slice (some ⟨w.heap.size, 0, none⟩) 1 1) [x] :=
  .inr ⟨_, 0, 1, Nat.zero_le _, rfl, fun i hi => by
    have h0 : i = 0 := by simpa using hi
    subst h0
    simp⟩
theorem imap_run {w : World} {E : TypeId} {q : IntKind} {B n sz : Nat} {f : Int → Option Int} (hI : IMap w E q B n f sz) (T : TypeId) (hT : Try.prog.underlying T = some (.map 3 E)) (hE : Try.prog.underlying E = some (.int q)) (hz : ∀ w, (zeroValue E).run Try.prog w = .ok (.int q 0) w)
    (z : Int) (hwf : (kI z).wf = true) : (Instr.lookup T (.map (some B)) (.int .i64 z) false).run Try.prog w = .ok (.int q ((f z).getD 0)) w := by
  obtain ⟨D, hown, R⟩ := hI
  obtain ⟨c, hrun, hat, _⟩ := hown.lookup_int law3 hT hE (hz w) (Go.Maps.keyOf_int_mk Try.underlying3 hwf)
  rw [R.at_] at hat
  simp only [DataW.lit.injEq, Lit.int.injEq, true_and] at hat
  rw [hrun, hat]

/-- The loop over those that Taken tells. -/
def SeenRel (w : World) (mb sb n : Nat) (M : MemS) (B : Nat) (T : List Nat) (tb to : Nat) (i : Value) (wr : World) : Prop :=
  ∃ j : Nat, j ≤ T.length ∧ i = .int .i64 j ∧ MemAt wr mb sb n M ∧ Off [] w wr ∧ IMap wr 3 .i64 B j (seenF T j) j ∧ ∀ i, (hi : i < T.length) → wr.cell? ⟨tb, to + i, none⟩ = some (.int .i64 (T[i] : Int))
/-- The loop over the generations. -/
def ByRel (w : World) (mb sb n : Nat) (M : MemS) (by_ g : Value) (wr : World) : Prop :=
  ∃ k : Nat, k ≤ 5 ∧ g = .int .i64 k ∧ by_ = .int .i64 (byG M n k) ∧ MemAt wr mb sb n M ∧ Off [] w wr
/-- The loop over all segments. -/
def AllRel (w : World) (mb sb n : Nat) (M : MemS) (t k : Value) (wr : World) : Prop :=
  ∃ j : Nat, j ≤ n ∧ k = .int .i64 j ∧ t = .int .i64 ((flT M [] j).length : Nat) ∧ MemAt wr mb sb n M ∧ Off [] w wr

theorem AllRel.yes {w wr : World} {mb sb n i : Nat} {M : MemS} (hi : i < n) (ht : (M.S i).taken ≠ 0) (H : MemAt wr mb sb n M) (O : Off [] w wr) : AllRel w mb sb n M (.int .i64 (((flT M [] i).length : Int) + 1)) (.int .i64 ((i : Int) + 1)) wr :=
  ⟨i + 1, by omega, by go_num, by rw [flT_step, if_pos ht]; go_num, H, O⟩
theorem AllRel.no {w wr : World} {mb sb n i : Nat} {M : MemS} (hi : i < n) (ht : (M.S i).taken = 0) (H : MemAt wr mb sb n M) (O : Off [] w wr) : AllRel w mb sb n M (.int .i64 (((flT M [] i).length : Int))) (.int .i64 ((i : Int) + 1)) wr :=
  ⟨i + 1, by omega, by go_num, by rw [flT_step, if_neg (by rw [ht]; simp)]; rfl, H, O⟩

set_option maxHeartbeats 2000000 in
set_option maxRecDepth 100000 in
theorem counts_true (limit : Int) (a : Option Addr) (len cap : Nat) (X : Nat → ActS) (w : World) (hX : ActsAt w a len X) (hlen : len ≤ 300) (n : Nat) (hx : limit = n) (h1 : 8 ≤ n) (h2 : n ≤ 1024) :
    Calls Try.prog 5 #[.int .i64 limit, .slice a len cap] w fun e w' => e = .returned (.bool true) ∧ Off [] w w' := by
  subst hx
  have hnn : 0 < n := by omega
  have l1 : ¬ (300 : Int) < (len : Int) := by omega
  have hmm := @run_makeMap Try.prog
  go_enter Try.func5, Try.ntmps5
  go_wp2_with fail
  refine (new_ok _ n w rfl (by omega) (by omega)).mono ?_
  rintro e w1 ⟨rfl, H, O⟩
  have hmb : w.heap.size ≤ w.heap.size + 1 := by omega
  have hsb : w.heap.size ≤ w.heap.size := by omega
  generalize w.heap.size + 1 = mb at H hmb ⊢
  generalize hs : w.heap.size = sb at H ⊢
  have Hs := Lib.hid hs
  have H1 := Lib.hid H
  have O1 := Lib.hid O
  clear hs H O
  go_wp2_with fail
  have hL := Lib.hid (show ∀ x, x ∈ [mb, sb] → x ∈ ([] : List Nat) ∨ w.heap.size ≤ x from fun x hx => .inr (by have := Hs.out; simp at hx; rcases hx with rfl | rfl <;> omega))
  go_loopw [7] (fun i wr => LeastRel w mb sb n len i wr) (fun i _ => len - (intOf i).toNat)
  case atStart => exact ⟨0, _, by omega, rfl, H1.out, Wf.made n, O1.out⟩
  case round =>
    obtain ⟨k, M, hk, rfl, H, W, O⟩ := hrel
    have hq := Lib.hid (show wr.heap.size ∉ [mb, sb] by
      have q1 := H.mb_lt
      have q2 := H.sb_lt (by omega)
      simp only [List.mem_cons, List.not_mem_nil, or_false, not_or]; omega)
    have HH := Lib.hid H
    have WW := Lib.hid W
    have OO := Lib.hid O
    clear H W O
    by_cases hlt : k < len
    · obtain ⟨b, o, ha, hXX⟩ := hX
      cases (ha (by omega))
      obtain ⟨hc, hok⟩ := hXX k hlt
      have HXX := Lib.hid hXX
      clear hXX ha
      generalize X k = x at hc hok
      obtain ⟨d, xa, xb, xc, xw⟩ := x
      obtain ⟨ba0, ba1, bb0, bb1, bc0, bc1, bw0, bw1⟩ := hok
      simp only [] at ba0 ba1 bb0 bb1
      have c0 := OO.out.cell (hc 0 (by omega)) (by simp)
      have c1 := OO.out.cell (hc 1 (by omega)) (by simp)
      have c2 := OO.out.cell (hc 2 (by omega)) (by simp)
      have c3 := OO.out.cell (hc 3 (by omega)) (by simp)
      have c4 := OO.out.cell (hc 4 (by omega)) (by simp)
      simp only [ActS.cellOf, Nat.add_zero] at c0 c1 c2 c3 c4
      clear hc
      by_cases e0 : d = 0
      · have f0 : (d == 0) = true := beq_iff_eq.2 e0
        have He0 := Lib.hid e0
        clear e0
        go_wp2_with fail
        refine (take_all (HH.out.alloc hnn _) WW.out hnn h2 (by omega) xa xb).mono ?_
        rintro e w2 ⟨r, s, M', rfl, hT', H2', W2', O2'⟩
        have TT := Lib.hid hT'
        have H2 := Lib.hid H2'
        have W2 := Lib.hid W2'
        have OO2 := Lib.hid ((OO.out.alloc _).trans_new O2' hL.out)
        clear hT' H2' W2' O2'
        go_wp2_with fail
        refine (taken_all H2.out W2.out hnn h2).mono ?_
        rintro e w3 ⟨v, T, rfl, hTk, hI, H3', O3'⟩
        have TK := Lib.hid hTk
        have II := Lib.hid hI
        have H3 := Lib.hid H3'
        have OO3 := Lib.hid (OO2.out.trans O3')
        clear hTk hI H3' O3'
        rcases TT.out with ⟨hs, k0, hr, hk0, hkf, hkl, ga0, ga1, gb0, gb1, hM⟩ | ⟨hs, hr, hM, hbad⟩ | ⟨hs, hr, hM, hfr, _⟩
        · subst hs hr hM
          obtain ⟨hne, hlast⟩ := last_taken WW.out hk0 TK.out
          obtain ⟨tb, to, tcap, htb, hv, hcell⟩ := II.out.notNil hne
          have hpos := List.length_pos_iff.2 hne
          have hcl := hcell (T.length - 1) (by omega)
          rw [hlast (by omega)] at hcl
          subst hv
          have hlen1 := TK.out.len
          obtain ⟨m, hm⟩ : ∃ m, T.length = m + 1 := ⟨T.length - 1, by omega⟩
          rw [hm] at hcl hlen1 ⊢
          simp only [Nat.add_sub_cancel] at hcl
          have hz : (((m + 1 : Nat) : Int) == 0) = false := beq_eq_false_iff_ne.2 (by omega)
          clear hcell hlast hne hpos hm hkf hkl
          go_wp2_with fail
          go_roundw
          case rel => exact LeastRel.next hlt H3.out W2.out OO3.out
          case measure => simp [intOf]; omega
        · subst hs hr hM
          clear hbad
          go_wp2_with fail
          go_roundw
          case rel => exact LeastRel.next hlt H3.out W2.out OO3.out
          case measure => simp [intOf]; omega
        · subst hs hr hM
          have HF := Lib.hid hfr
          clear hfr
          go_wp2_with fail
          refine (free_any mb 0 _ (by rw [← HF.out]; exact H3.out.free)).mono ?_
          rintro e w' ⟨rfl, rfl⟩
          go_wp2_with fail
          go_roundw
          case rel => exact LeastRel.next hlt H3.out W2.out OO3.out
          case measure => simp [intOf]; omega
      by_cases e1 : d = 1
      · have f1 : (d == 1) = true := beq_iff_eq.2 e1
        have f0 : (d == 0) = false := beq_eq_false_iff_ne.2 e0
        have He1 := Lib.hid e1
        clear e1 e0
        go_wp2_with fail
        refine (give_all (HH.out.alloc hnn _) WW.out hnn h2 xa).mono ?_
        rintro e w2 ⟨s, M', rfl, _, H2', W2', O2'⟩
        have H2 := Lib.hid H2'
        have W2 := Lib.hid W2'
        have OO2 := Lib.hid ((OO.out.alloc _).trans_new O2' hL.out)
        clear H2' W2' O2'
        go_wp2_with fail
        go_roundw
        case rel => exact LeastRel.next hlt H2.out (W2.out.mono (by omega)) OO2.out
        case measure => simp [intOf]; omega
      by_cases e2 : d = 2
      · have f0 : (d == 0) = false := beq_eq_false_iff_ne.2 e0
        have f1 : (d == 1) = false := beq_eq_false_iff_ne.2 e1
        have f2 : (d == 2) = true := beq_iff_eq.2 e2
        have He2 := Lib.hid e2
        clear e0 e1 e2
        go_wp2_with fail
        refine (bump_all (HH.out.alloc hnn _) WW.out h2 xa xb).mono ?_
        rintro e w2 ⟨r, s, M', rfl, _, H2', W2', O2'⟩
        have H2 := Lib.hid H2'
        have W2 := Lib.hid W2'
        have OO2 := Lib.hid ((OO.out.alloc _).trans_new O2' hL.out)
        clear H2' W2' O2'
        go_wp2_with fail
        go_roundw
        case rel => exact LeastRel.next hlt H2.out (W2.out.mono (by omega)) OO2.out
        case measure => simp [intOf]; omega
      · have f0 : (d == 0) = false := beq_eq_false_iff_ne.2 e0
        have f1 : (d == 1) = false := beq_eq_false_iff_ne.2 e1
        have f2 : (d == 2) = false := beq_eq_false_iff_ne.2 e2
        go_wp2_with fail
        go_roundw
        case rel => exact LeastRel.next hlt (HH.out.alloc hnn _) (WW.out.mono (by omega)) (OO.out.alloc _)
        case measure => simp [intOf]; omega
    · clear hX
      go_wp2_with fail
      refine (taken_all HH.out WW.out hnn h2).mono ?_
      rintro e w3 ⟨v, T, rfl, hTk, hI, H3', O3'⟩
      have TK := Lib.hid hTk
      have H3 := Lib.hid H3'
      have OO3 := Lib.hid (OO.out.trans O3')
      have hTl := TK.out.len
      have hmb3 := H3'.mb_lt
      have hsb3 := H3'.sb_lt hnn
      obtain ⟨ta, tcap, tb, to, hv, hta, htb, hcell⟩ := hI.form
      have htb3 : 0 < T.length → tb < w3.heap.size := fun h => World.block_lt_of_cell? _ _ (hcell 0 h)
      have HTA := Lib.hid hta
      have HCELL := Lib.hid hcell
      have HTB := Lib.hid htb3
      subst hv
      have O3s := O3'.size
      clear hTk hI H3' O3' hta htb hcell htb3
      go_wp2_with fail
      go_loopw [14] (fun i wr2 => SeenRel w mb sb n M w3.heap.size T tb to i wr2) (fun i _ => T.length - (intOf i).toNat)
      case atStart => exact ⟨0, by omega, rfl, H3.out.alloc hnn _, OO3.out.alloc _, (IMap.made w3 3 .i64).congr (fun x => (seenF_zero T x).symm) rfl, fun i hi => by rw [World.cell?_alloc_lt _ _ _ (HTB.out (by omega))]; exact HCELL.out i hi⟩
      case round =>
        obtain ⟨j, hj, rfl, H4', O4', IM', hcell⟩ := hrel
        have H4 := Lib.hid H4'
        have OO4 := Lib.hid O4'
        have IM := Lib.hid IM'
        have hBlt := IM'.lt
        clear H4' O4' IM'
        by_cases hlt : j < T.length
        · have hp : 0 < T.length := by omega
          cases (HTA.out hp)
          have hcj := hcell j hlt
          have hnd := seenF_new TK.out.nodup hlt
          have hup := seenF_succ T hlt
          obtain ⟨hit, hin⟩ := isTaken_mem TK.out hlt
          generalize T[j] = tj at hcj hnd hup hit hin
          have HCELL4 := Lib.hid hcell
          have HND := Lib.hid hnd
          have HUP := Lib.hid hup
          have HIT := Lib.hid hit
          have htb' := HTB.out hp
          have hwf : (kI (tj : Int)).wf = true := WalkArith.wf_i64 (by omega)
          have hwf' := Lib.hid hwf
          clear hcell hnd hup hit hwf hp
          go_wp2_with fail
          refine (seg_all H4.out hnn h2 tj).mono ?_
          rintro e w5 ⟨s, ok, rfl, hs, H5', O5'⟩
          rcases hs with ⟨hok, _, _⟩ | ⟨_, hno, _⟩
          · subst hok
            have H5 := Lib.hid H5'
            have OO5 := Lib.hid (OO4.out.trans O5')
            have IM5 := Lib.hid (IM.out.off O5' (by simp))
            have hcj5 := O5'.cell hcj (by simp)
            have HC5 := Lib.hid (show ∀ i, (hi : i < T.length) → w5.cell? ⟨tb, to + i, none⟩ = some (.int .i64 (T[i] : Int)) from fun i hi => O5'.cell (HCELL4.out i hi) (by simp))
            have z5 : tb < w5.heap.size := World.block_lt_of_cell? _ _ hcj5
            have zB : w3.heap.size < w5.heap.size := by have := O5'.size; omega
            have hz0 : (seenF T j (tj : Int)).getD 0 = 0 := by rw [HND.out]; rfl
            clear H5' O5'
            have htn : tb ∉ [w3.heap.size] := by simp; omega
            go_wp2_with (first
              | (at_lookup; refine imap_look (IM5.out.off ((Off.refl [] _).alloc _) (by simp)) 49 Try.underlying49 Try.underlying3 zero3 rfl _ _ rfl (by rfl) _ (by rfl) hwf'.out ?_)
              | (at_mapUpdate; refine imap_put (IM5.out.off ((Off.refl [] _).alloc _) (by simp)) (by omega) 49 Try.underlying49 Try.underlying3 rfl _ _ _ rfl (by rfl) _ (by rfl) hwf'.out 1 (by rfl) (by decide) ?_; intro w6 IM6 O6; have hcj6 := O6.cell (p := ⟨tb, to + j, none⟩) (by rw [World.cell?_alloc_lt _ _ _ z5]; exact hcj5) htn; have hlk := imap_run IM6 49 Try.underlying49 Try.underlying3 zero3 tj hwf'.out; rw [upd_same] at hlk; simp only [Option.getD_some] at hlk; have IM6' := Lib.hid IM6; have O6' := Lib.hid O6; clear IM6 O6))
            have OO6 := Lib.hid ((OO5.out.alloc _).trans_new O6'.out (fun x hx => .inr (by have := OO3.out.size; simp at hx; omega)))
            have H6 := Lib.hid ((H5.out.alloc hnn _).off hnn O6'.out (by simp; omega) (by simp; omega))
            have HC6 := Lib.hid (show ∀ i, (hi : i < T.length) → _ = some (Value.int .i64 (T[i] : Int)) from fun i hi => O6'.out.cell (p := ⟨tb, to + i, none⟩) (by rw [World.cell?_alloc_lt _ _ _ z5]; exact HC5.out i hi) htn)
            go_roundw
            case rel => exact ⟨j + 1, by omega, by go_num, H6.out, OO6.out, IM6'.out.congr HUP.out (by rw [HND.out]; rfl), HC6.out⟩
            case measure => simp [intOf]; omega
          · exact absurd HIT.out hno
        · have IMx := IM
          have hjT : j = T.length := by omega
          clear hlt hcell
          go_wp2_with fail
          have hflT : (flT M [] n).length = T.length := TK.out.perm.length_eq.symm
          have HFL := Lib.hid hflT
          have hfree := WW.out.free
          have hff := flT_free M n
          have hMf : M.free + (T.length : Int) = n := by omega
          have HMF := Lib.hid hMf
          clear hflT hfree hff hMf hjT
          go_loopw [17, 18] (fun b g wr2 => ByRel w mb sb n M b g wr2) (fun _ g _ => 5 - (intOf g).toNat)
          case atStart => exact ⟨0, by omega, rfl, rfl, H4.out, OO4.out⟩
          case round =>
            obtain ⟨g, hg, rfl, rfl, H7', O7'⟩ := hrel
            have H7 := Lib.hid H7'
            have OO7 := Lib.hid O7'
            clear H7' O7'
            by_cases hlt : g < 5
            · have hby := byG_mono M n g hg
              have hb5 := byG_all WW.out n (Nat.le_refl _)
              have hfl5 := flT_len M [] n
              have hby1 : byG M n g ≤ 1024 := by omega
              clear hby hb5 hfl5
              go_wp2_with fail
              refine (taken_any (H7.out.alloc hnn _) WW.out hnn h2 _ 1 [(g : Int)] (by simp) (IntsAt.one _ _ _)).mono ?_
              rintro e w8 ⟨v, T8, rfl, hT8, hI8, O8'⟩
              have hl8 : T8.length = (flT M [(g : Int)] n).length := hT8.perm.length_eq
              have hl8' := hT8.len
              have HL8 := Lib.hid hl8
              obtain ⟨a8, cap8, b8, o8, hv8, _, _, _⟩ := hI8.form
              subst hv8
              have H8 := Lib.hid ((H7.out.alloc hnn _).off hnn O8' (by simp) (by simp))
              have OO8 := Lib.hid ((OO7.out.alloc _).trans O8')
              clear hT8 hI8 O8' hl8
              go_wp2_with fail
              go_roundw
              case rel => exact ⟨g + 1, by omega, by go_num, by rw [byG, ← HL8.out]; go_num, H8.out, OO8.out⟩
              case measure => simp [intOf]; omega
            · obtain rfl : g = 5 := by omega
              clear hlt
              go_wp2_with fail
              go_loopw [19, 20] (fun t k wr2 => AllRel w mb sb n M t k wr2) (fun _ k _ => n - (intOf k).toNat)
              case atStart => exact ⟨0, by omega, rfl, rfl, H7.out, OO7.out⟩
              case round =>
                obtain ⟨i, hi, rfl, rfl, H9', O9'⟩ := hrel
                have H9 := Lib.hid H9'
                have OO9 := Lib.hid O9'
                have hfi := flT_len M [] i
                clear H9' O9'
                by_cases hlt : i < n
                · by_cases ht : (M.S i).taken = 0
                  · have hno : ¬ M.isTaken n i := fun h => h.2.2 (by rw [Int.toNat_natCast]; exact ht)
                    have HT := Lib.hid ht
                    have HNO := Lib.hid hno
                    clear ht hno
                    go_wp2_with fail
                    refine (seg_no' H9.out hnn h2 i HNO.out).mono ?_
                    rintro e w10 ⟨rfl, H10', O10'⟩
                    have H10 := Lib.hid H10'
                    have OO10 := Lib.hid (OO9.out.trans O10')
                    clear H10' O10'
                    go_wp2_with fail
                    go_roundw
                    case rel => first | exact AllRel.no hlt HT.out (H10.out.alloc hnn _) (OO10.out.alloc _) | ((repeat apply Exists.intro); exact ⟨AllRel.no hlt HT.out (H10.out.alloc hnn _) (OO10.out.alloc _), rfl⟩)
                    case measure => simp [intOf]; omega
                  · have HT := Lib.hid ht
                    clear ht
                    go_wp2_with fail
                    refine (seg_yes' H9.out h2 i hlt _ rfl HT.out i rfl).mono ?_
                    rintro e w10 ⟨rfl, H10', O10'⟩
                    have H10 := Lib.hid H10'
                    have OO10 := Lib.hid (OO9.out.trans O10')
                    clear H10' O10'
                    go_wp2_with fail
                    go_roundw
                    case rel => first | exact AllRel.yes hlt HT.out (H10.out.alloc hnn _) (OO10.out.alloc _) | ((repeat apply Exists.intro); exact ⟨AllRel.yes hlt HT.out (H10.out.alloc hnn _) (OO10.out.alloc _), rfl⟩)
                    case measure => simp [intOf]; omega
                · obtain rfl : i = n := by omega
                  have t1 : (((byG M i 5 : Nat) : Int) == (T.length : Int)) = true := beq_iff_eq.2 (by rw [byG_all WW.out i (Nat.le_refl _), HFL.out])
                  have t2 : ((((flT M [] i).length : Nat) : Int) == (T.length : Int)) = true := beq_iff_eq.2 (by rw [HFL.out])
                  have t3 : (M.free + (T.length : Int) == (i : Int)) = true := beq_iff_eq.2 HMF.out
                  have f0 := WW.out.free0
                  have f1 := WW.out.free_le
                  clear hlt
                  go_wp2_with fail
                  refine (free_any mb M.free _ H9.out.free).mono ?_
                  rintro e w11 ⟨rfl, rfl⟩
                  go_wp2_with fail
                  refine (limit_any mb i _ _ _ H9.out.segs).mono ?_
                  rintro e w12 ⟨rfl, rfl⟩
                  go_wp2_with fail
                  refine (awake_true _).mono ?_
                  rintro e w13 ⟨rfl, O13⟩
                  go_wp2_with fail
                  go_ret
                  exact ⟨rfl, OO9.out.trans O13⟩

set_option maxRecDepth 100000 in
/-- A limit that may not be: no memory. -/
theorem counts_arg (limit : Int) (a : Option Addr) (len cap : Nat) (w : World) (hlen : len ≤ 300) (hx : limit < 8 ∨ 1024 < limit) :
    Calls Try.prog 5 #[.int .i64 limit, .slice a len cap] w fun e w' => e = .returned (.bool true) ∧ Off [] w w' := by
  have HX := Lib.hid hx
  clear hx
  go_enter Try.func5, Try.ntmps5
  go_wp2_with fail
  refine (new_arg limit w HX.out).mono ?_
  rintro e w1 ⟨rfl, rfl⟩
  go_wp2_with fail
  refine (awake_true _).mono ?_
  rintro e w' ⟨rfl, O'⟩
  go_wp2_with fail
  go_ret
  exact ⟨rfl, O'⟩
set_option maxRecDepth 100000 in
/-- Too many calls. -/
theorem counts_many (limit : Int) (a : Option Addr) (len cap : Nat) (w : World) (hlen : 300 < len) :
    Calls Try.prog 5 #[.int .i64 limit, .slice a len cap] w fun e w' => e = .returned (.bool true) ∧ Off [] w w' := by
  have l1 : (300 : Int) < (len : Int) := by omega
  by_cases hb : limit < 8 ∨ 1024 < limit
  · have HX := Lib.hid hb
    clear hb
    go_enter Try.func5, Try.ntmps5
    go_wp2_with fail
    refine (new_arg limit w HX.out).mono ?_
    rintro e w1 ⟨rfl, rfl⟩
    go_wp2_with fail
    refine (awake_true _).mono ?_
    rintro e w' ⟨rfl, O'⟩
    go_wp2_with fail
    go_ret
    exact ⟨rfl, O'⟩
  · obtain ⟨n, rfl, h1, h2⟩ : ∃ n : Nat, limit = n ∧ 8 ≤ n ∧ n ≤ 1024 := ⟨limit.toNat, by omega, by omega, by omega⟩
    clear hb
    go_enter Try.func5, Try.ntmps5
    go_wp2_with fail
    refine (new_ok _ n w rfl h1 h2).mono ?_
    rintro e w1 ⟨rfl, H, O⟩
    have O1 := Lib.hid O
    clear H O
    go_wp2_with fail
    refine (awake_true _).mono ?_
    rintro e w' ⟨rfl, O'⟩
    go_wp2_with fail
    go_ret
    exact ⟨rfl, O1.out.trans O'⟩

theorem counts_law (limit : Int) (a : Option Addr) (len cap : Nat) (X : Nat → ActS) (w : World) (hX : ActsAt w a len X) :
    Calls Try.prog 5 #[.int .i64 limit, .slice a len cap] w fun e w' => e = .returned (.bool true) ∧ Off [] w w' := by
  by_cases hlen : len ≤ 300
  · by_cases hb : limit < 8 ∨ 1024 < limit
    · exact counts_arg limit a len cap w hlen hb
    · exact counts_true limit a len cap X w hX hlen limit.toNat (by omega) (by omega) (by omega)
  · exact counts_many limit a len cap w (by omega)
end Go.Proofs.Ytoafoodgomnfeaa
