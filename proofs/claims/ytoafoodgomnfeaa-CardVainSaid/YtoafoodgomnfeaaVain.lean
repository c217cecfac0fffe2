/-
  YtoafoodgomnfeaaVain: the walk of CardVain.
-/
import Derived.Test.YtoafoodgomnfeaaVainP
import Derived.Test.YtoafoodgomnfeaaBox
namespace Go.Proofs.Ytoafoodgomnfeaa
open Go.RowKit
set_option linter.unusedVariables false

theorem vain_none (limit : Int) (a : Option Addr) (len cap : Nat) (w : World)
    (h : Calls Try.prog 39 #[.int .i64 limit, .slice a len cap] w fun e w' => e = .returned (.pointer none) ∧ Off [] w w') :
    Calls Try.prog 9 #[.int .i64 limit, .slice a len cap] w fun e w' => e = .returned (.bool true) ∧ Off [] w w' := by
  have hh := Lib.hid h
  clear h
  go_enter Try.func9, Try.ntmps9
  go_wp2_with fail
  refine hh.out.mono ?_
  rintro e w1 ⟨rfl, O⟩
  have O1 := Lib.hid O
  clear O
  go_wp2_with fail
  refine (awake09_true _).mono ?_
  rintro e w' ⟨rfl, O'⟩
  go_wp2_with fail
  go_ret
  exact ⟨rfl, O1.out.trans O'⟩

/-- In the loop of the Agains. -/
def VRel (W1 wr : World) (cb pb mb sb n : Nat) (C : Nat → Int) (T : List Nat) (a j : Nat) : Prop :=
  ∃ M, CardAt wr cb pb mb sb n M C ∧ Wf n M 300 ∧ Kc n M ∧ TakenIs M n [] T ∧ DoneV n M T a j ∧ Off [sb] W1 wr

set_option maxHeartbeats 4000000 in
set_option maxRecDepth 100000 in
theorem vain_true (n : Nat) (h1 : 8 ≤ n) (h2 : n ≤ 1024) (a : Option Addr) (len cap : Nat) (X : Nat → ActS) (w : World) (hX : ActsAt w a len X) (hlen : len ≤ 300) :
    Calls Try.prog 9 #[.int .i64 n, .slice a len cap] w fun e w' => e = .returned (.bool true) ∧ Off [] w w' := by
  have hp := Lib.hid (played_some n h1 h2 a len cap X w hX hlen)
  have hnn : 0 < n := by omega
  clear hX
  go_enter Try.func9, Try.ntmps9
  go_wp2_with fail
  refine hp.out.mono ?_
  rintro e w1 ⟨cb, pb, mb, sb, M0, C, rfl, H, W, K, O, z1, z2, z3, z4⟩
  have H1 := Lib.hid H
  have W1 := Lib.hid W
  have K1 := Lib.hid K
  have O1 := Lib.hid O
  have p1 := H.ptr
  have p2 := H.sp.ptr
  have hsb1 := H.sp.mem.sb_lt hnn
  clear H W K O
  go_wp2_with fail
  refine (taken_all H1.out.sp.mem W1.out hnn h2).mono ?_
  rintro e w2 ⟨v, T, rfl, hT, hI, _, O2⟩
  have hTl := hT.len
  have hnd := hT.nodup
  obtain ⟨ta, tcap, tb, to, rfl, hta, hcell⟩ := hI.form'
  have H2 := H1.out.off hnn O2 (by simp) (by simp) (by simp) (by simp)
  have V0 : Hid (VRel w2 w2 cb pb mb sb n C T 0 0) := Lib.hid ⟨M0, H2, W1.out, K1.out, hT, DoneV.start _ _ _, Off.refl _ _⟩
  have O2' := Lib.hid (O1.out.trans O2)
  have HTA := Lib.hid hta
  have HC := Lib.hid hcell
  have HND := Lib.hid hnd
  have htl1 : (T.length : Int) ≤ 1024 := by omega
  have hts : 0 < T.length → tb ≠ sb := fun h => by have := (hta h).2; omega
  have HTS := Lib.hid hts
  clear hT hI O2 hta hcell H2 hnd p1 p2 H1 hts hp
  go_wp2_with fail
  go_loopw [7] (fun v wr => ∃ i : Nat, i ≤ T.length ∧ v = .int .i64 i ∧ VRel w2 wr cb pb mb sb n C T i 0) (fun v _ => T.length - (intOf v).toNat)
  case atStart => exact ⟨0, by omega, rfl, V0.out⟩
  case round =>
    obtain ⟨i, hi, rfl, V⟩ := hrel
    have VV := Lib.hid V
    clear V
    by_cases hlt : i < T.length
    · obtain ⟨rfl, htb⟩ := HTA.out (by omega)
      have q0 : (0 : Int) ≤ (i : Int) := by omega
      have q1 : (i : Int) < (T.length : Int) := by omega
      go_wp2_with fail
      go_loopw [8] (fun v wr2 => ∃ j : Nat, j ≤ 4 ∧ v = .int .i64 j ∧ VRel w2 wr2 cb pb mb sb n C T i j) (fun v _ => 4 - (intOf v).toNat)
      case atStart => exact ⟨0, by omega, rfl, VV.out⟩
      case round =>
        obtain ⟨j, hj, rfl, M, H', W', K', T', D', O'⟩ := hrel
        by_cases hj4 : j < 4
        · have hc := O'.cell (HC.out i hlt) (by simpa using HTS.out (by omega))
          have htk : M.isTaken n (T.getD i 0 : Nat) := by
            have hm : T.getD i 0 ∈ T := by rw [List.getD, List.getElem?_eq_getElem hlt]; exact List.getElem_mem hlt
            have := (T'.mem _).1 hm
            refine ⟨by omega, by omega, fun e => ?_⟩
            rw [Int.toNat_natCast] at e
            rw [selB_free e] at this
            exact absurd this.2 (by simp)
          obtain ⟨kk, hkk⟩ : ∃ kk, T.getD i 0 = kk := ⟨_, rfl⟩
          rw [hkk] at hc htk
          have HKK := Lib.hid hkk
          clear hkk
          have HTK := Lib.hid htk
          have HT' := Lib.hid T'
          have HD' := Lib.hid D'
          have HO' := Lib.hid O'
          have HH := Lib.hid H'
          have HW := Lib.hid W'
          have HK := Lib.hid K'
          clear htk T' D' O' H' W' K'
          go_wp2_with fail
          refine (again_all HH.out HW.out HK.out hnn h2 _ _).mono ?_
          rintro e w3 ⟨s, M', rfl, hA, H3, W3, K3, O3⟩
          obtain ⟨rfl, rfl⟩ : s = 0 ∧ M' = M.again n (kk : Nat) j := by
            rcases hA with ⟨a1, _, _, _, a2⟩ | ⟨_, a1, _⟩ | ⟨_, _, a1, _⟩
            · exact ⟨a1, a2⟩
            · exact absurd HTK.out a1
            · omega
          have VN : Hid (VRel w2 w3 cb pb mb sb n C T i (j + 1)) := Lib.hid ⟨_, H3, W3, K3, (Like.mark _ _ _ _).taken' HT'.out, (by have := HD'.out.again HND.out hlt hj4; rw [HKK.out] at this; exact this), HO'.out.trans O3⟩
          clear hA H3 W3 K3 O3 hc
          go_wp2_with fail
          go_roundw
          case rel => exact ⟨j + 1, by omega, by go_num, VN.out⟩
          case measure => simp [intOf]; omega
        · obtain rfl : j = 4 := by omega
          have VN : Hid (VRel w2 wr cb pb mb sb n C T (i + 1) 0) := Lib.hid ⟨M, H', W', K', T', D'.next, O'⟩
          clear H' W' K' T' D' O'
          go_wp2_with fail
          go_roundw
          case rel => exact ⟨i + 1, by omega, by go_num, VN.out⟩
          case measure => simp [intOf]; omega
    · obtain rfl : i = T.length := by omega
      obtain ⟨M, H', W', K', T', D', O'⟩ := VV.out
      have HT := Lib.hid T'
      have HD := Lib.hid D'
      have HH := Lib.hid H'
      have HW := Lib.hid W'
      have HK := Lib.hid K'
      have OB : Hid (Off [] w wr) := Lib.hid (O2'.out.trans_new O' (fun x hx => .inr (by simp at hx; omega)))
      have HCr := Lib.hid (show ∀ i, i < T.length → wr.cell? ⟨tb, to + i, none⟩ = some (.int .i64 ((T.getD i 0 : Nat) : Int)) from fun i hi => O'.cell (HC.out i hi) (by simpa using HTS.out (by omega)))
      clear T' D' O' H' W' K' VV V0
      go_wp2_with fail
      go_loopw [9] (fun v wg => ∃ g : Nat, g ≤ 4 ∧ v = .int .i64 g ∧ Off [] wr wg) (fun v _ => 4 - (intOf v).toNat)
      case atStart => exact ⟨0, by omega, rfl, Off.refl _ _⟩
      case round =>
        obtain ⟨g, hg, rfl, Og⟩ := hrel
        have OG := Lib.hid Og
        clear Og
        by_cases hg4 : g < 4
        · go_wp2_with fail
          refine (dirty_any (HH.out.off hnn OG.out (by simp) (by simp) (by simp) (by simp)) HW.out hnn h2 g).mono ?_
          rintro e w4 ⟨v4, T4, rfl, hT4, hc4, O4⟩
          obtain rfl := hT4.unique HT.out
          have hdl := dirtyL_len M T4 g
          obtain ⟨da, dcap, db, rfl, hda, hdc⟩ := hc4.form
          have HL := Lib.hid hc4
          have hdl1 : ((dirtyL M T4 g).length : Int) ≤ 4096 := by omega
          have OG4 := Lib.hid (OG.out.trans O4)
          clear hT4 hc4 hda hdc O4
          go_wp2_with fail
          go_loopw [11, 12] (fun c v wi => ∃ i : Nat, i ≤ T4.length ∧ v = .int .i64 i ∧ c = .int .i64 (nOf M T4 g i 0 : Nat) ∧ Off [] w4 wi) (fun _ v _ => T4.length - (intOf v).toNat)
          case atStart => exact ⟨0, by omega, rfl, by simp [nOf, dirtyL, dirtyS], Off.refl _ _⟩
          case round =>
            obtain ⟨i, hi, rfl, rfl, Oi⟩ := hrel
            have OI := Lib.hid Oi
            clear Oi
            by_cases hlt : i < T4.length
            · obtain ⟨rfl, htb⟩ := HTA.out (by omega)
              have q0 : (0 : Int) ≤ (i : Int) := by omega
              have q1 : (i : Int) < (T4.length : Int) := by omega
              have hm : T4.getD i 0 ∈ T4 := by rw [List.getD, List.getElem?_eq_getElem hlt]; exact List.getElem_mem hlt
              have hin := (HT.out.mem _).1 hm
              have ht0 : (M.S (T4.getD i 0)).taken ≠ 0 := fun e => by rw [selB_free e] at hin; exact absurd hin.2 (by simp)
              have hkn := hin.1
              have hc := OI.out.cell (OG4.out.cell (HCr.out i hlt) (by simp)) (by simp)
              have hD : ∀ j, j < 4 → DoneC n M (T4.getD i 0) j := fun j hj => HD.out i j hlt hj (.inl hlt)
              have hsucc : ∀ j, nOf M T4 g i (j + 1) = if (g : Int) < (M.S (T4.getD i 0)).gen ∧ (M.S (T4.getD i 0)).card j ≤ g then nOf M T4 g i j + 1 else nOf M T4 g i j := fun j => nOf_succ M T4 g i j
              have hmem : ∀ j, j < 4 → ((T4.getD i 0, j) ∈ dirtyL M T4 g ↔ (g : Int) < (M.S (T4.getD i 0)).gen ∧ (M.S (T4.getD i 0)).card j ≤ g) := fun j hj => by rw [mem_dirtyL]; exact ⟨fun h => h.2.2, fun h => ⟨hm, hj, h⟩⟩
              have hle : ∀ j, j ≤ 4 → nOf M T4 g i j ≤ 5000 := fun j hj => by have := nOf_le M T4 g i j (by omega); omega
              have hnx := nOf_four M T4 g i hlt
              rw [← nOf_zero] at hnx
              have HI := Lib.hid (HH.out.off hnn (OG4.out.trans OI.out) (by simp) (by simp) (by simp) (by simp))
              have hK : SegKc (M.S (T4.getD i 0)) := HK.out _ hkn
              have hu := HW.out.used _ hkn
              have hpt : ∀ W, CardAt W cb pb mb sb n M C → ∀ j, j < 4 → _ := fun W H j hj => points_any H hnn h2 (T4.getD i 0) j hkn hj ht0 hu.1 hu.2 hK g
              have hseg : ∀ W, MemAt W mb sb n M → _ := fun W H => seg_yes H h2 (T4.getD i 0) hkn ht0 ((T4.getD i 0 : Nat) : Int) rfl
              have hiff : ∀ j, j < 4 → _ := fun j hj => (hD j hj).iff (g := (g : Int)) (by omega)
              have hkn1 : ((T4.getD i 0 : Nat) : Int) ≤ 1024 := by omega
              have hkn0 : (0 : Int) ≤ ((T4.getD i 0 : Nat) : Int) := by omega
              have HM : Hid (∀ j, j < 4 → ((T4.getD i 0, j) ∈ dirtyL M T4 g ↔ _)) := Lib.hid hmem
              clear hm hin hD hmem
              generalize T4.getD i 0 = kk at *
              obtain ⟨s, hs⟩ : ∃ s, M.S kk = s := ⟨_, rfl⟩
              rw [hs] at hpt hseg hiff hsucc
              have HM2 : Hid (∀ j, j < 4 → ((kk, j) ∈ dirtyL M T4 g ↔ (g : Int) < s.gen ∧ s.card j ≤ g)) := Lib.hid (by rw [← hs]; exact HM.out)
              have HPT := Lib.hid hpt
              have HSG := Lib.hid hseg
              have HIF := Lib.hid hiff
              have HSC := Lib.hid hsucc
              have HLE := Lib.hid hle
              have HNX := Lib.hid hnx
              have p1 := HI.out.ptr
              have p2 := HI.out.sp.ptr
              obtain ⟨gen, kind, nn, c0, c1, c2, c3, t, ws⟩ := s
              clear hs HM hpt hseg hiff hsucc hle hnx hK hu ht0 hkn
              go_wp2_with fail
              have keep : ∀ w', Off [] wr w' → Off [] wr w' ∧ w'.cell? ⟨cb, 0, none⟩ = some (.pointer (some ⟨pb, 0, none⟩)) ∧ w'.cell? ⟨pb, 0, none⟩ = some (.pointer (some ⟨mb, 0, none⟩)) ∧ w'.cell? ⟨tb, to + i, none⟩ = some (.int .i64 (kk : Int)) :=
                fun w' O => ⟨O, O.cell p1 (by simp), O.cell p2 (by simp), O.cell hc (by simp)⟩
              have hsg : ∀ W, Off [] wr W → Calls Try.prog 17 #[.pointer (some ⟨mb, 0, none⟩), .int .i64 (kk : Int)] W fun e w' => e = .returned (.tuple #[.agg #[.int .i64 gen, .int .i64 kind, .int .i64 nn, .int .i64 c0, .int .i64 c1, .int .i64 c2, .int .i64 c3], .bool true]) ∧ Off [] wr w' ∧ Off [] W w' :=
                fun W O => (HSG.out W (HI.out.off hnn O (by simp) (by simp) (by simp) (by simp)).sp.mem).mono fun _ _ ⟨h, o⟩ => ⟨h, O.trans o, o⟩
              have hsga : Off [] wr (wr.alloc (.cells #[.int .i64 0, .int .i64 0, .int .i64 0, .int .i64 0, .int .i64 0, .int .i64 0, .int .i64 0] 37)).drew → Calls Try.prog 17 #[.pointer (some ⟨mb, 0, none⟩), .int .i64 (kk : Int)] (wr.alloc (.cells #[.int .i64 0, .int .i64 0, .int .i64 0, .int .i64 0, .int .i64 0, .int .i64 0, .int .i64 0] 37)).drew fun e w' =>
                  e = .returned (.tuple #[.agg #[.int .i64 gen, .int .i64 kind, .int .i64 nn, .int .i64 c0, .int .i64 c1, .int .i64 c2, .int .i64 c3], .bool true]) ∧ Off [] wr w' ∧ Fresh7 w' wr.heap.size :=
                fun O => (hsg _ O).mono fun _ _ ⟨h, o1, o2⟩ => ⟨h, o1, (Fresh7.new wr 37).off (((Off.refl [] _).drew).trans o2)⟩
              have HSG' := Lib.hid hsg
              have HSGA := Lib.hid hsga
              have hO0 : Off [] wr wr := Off.refl _ _
              obtain ⟨Bz, hBz⟩ : ∃ Bz, wr.heap.size = Bz := ⟨_, rfl⟩
              rw [hBz] at HSGA
              have hcell5 := Lib.hid hc
              clear hc p1 p2 hsg hsga
              go_region_held3 (fun w' => Off [] wr w' ∧ w'.cell? ⟨cb, 0, none⟩ = some (.pointer (some ⟨pb, 0, none⟩)) ∧ w'.cell? ⟨pb, 0, none⟩ = some (.pointer (some ⟨mb, 0, none⟩)) ∧ w'.cell? ⟨tb, to + i, none⟩ = some (.int .i64 (kk : Int)))
                (first | with_reducible assumption | with_reducible exact keep _ hr | with_reducible exact keep _ (Off.set7 hr (Nat.le_of_eq hBz) _ _ _ _ _ _ _) | with_reducible exact keep _ (Off.alloc hr _) | exact keep _ (Off.alloc hr _) | exact keep _ (Off.drew hO0) | exact keep _ (Off.drew (Off.alloc hO0 _)) | exact keep _ (Off.set7 hr (Nat.le_of_eq hBz) _ _ _ _ _ _ _))
                (first
                  | (go_at_call 17; have hS : Off [] wr (wr.alloc (.cells #[.int .i64 0, .int .i64 0, .int .i64 0, .int .i64 0, .int .i64 0, .int .i64 0, .int .i64 0] 37)).drew := (by with_reducible exact (‹Off [] wr (wr.alloc (.cells #[.int .i64 0, .int .i64 0, .int .i64 0, .int .i64 0, .int .i64 0, .int .i64 0, .int .i64 0] 37)).drew ∧ _›).1); refine (HSGA.out hS).mono ?_; rintro e w' ⟨rfl, hr, hf⟩; obtain ⟨⟨b0, b1, b2, b3, b4, b5, b6⟩, f0, f1, f2, f3, f4, f5, f6⟩ := hf.facts; clear hS)
                  | (go_at_call 17; refine (HSG'.out wr.drew (‹Off [] wr wr.drew ∧ _›).1).mono ?_; rintro e w' ⟨rfl, hr, hp⟩)
                  | fail)
              · have TD6 := Lib.hid (Told.new w' 37 gen kind nn c0 c1 c2 c3)
                have O6 := hr.alloc (.cells #[.int .i64 gen, .int .i64 kind, .int .i64 nn, .int .i64 c0, .int .i64 c1, .int .i64 c2, .int .i64 c3] 37)
                rename_i hh1
                clear hh1
                generalize w'.alloc _ = w6 at TD6 O6 ⊢
                generalize w'.heap.size = B6 at TD6 ⊢
                have hcell6 := hcell5.out
                have OO6 := Lib.hid O6
                clear O6 hr hp
                go_wp2_with fail
                go_loopw [11, 15] (fun c v wk => ∃ j : Nat, j ≤ 4 ∧ v = .int .i64 j ∧ c = .int .i64 (nOf M T4 g i j : Nat) ∧ Off [] w6 wk) (fun _ v _ => 4 - (intOf v).toNat)
                case atStart => exact ⟨0, by omega, rfl, rfl, Off.refl _ _⟩
                case round =>
                  obtain ⟨j, hj, rfl, rfl, Oj⟩ := hrel
                  have OJ := Lib.hid (OO6.out.trans Oj)
                  have OJ6 := Lib.hid Oj
                  have TJ := TD6.out.off Oj (by simp)
                  have t0 := TJ.t0
                  have TJ := Lib.hid TJ
                  clear Oj
                  by_cases hj4 : j < 4
                  · have hcj := OJ.out.cell hcell6 (by simp)
                    have hl5 := HLE.out j (by omega)
                    have hmm := HM2.out j hj4
                    by_cases hgg : (g : Int) < gen
                    · have t1 := TJ.out.t1
                      have t2 := TJ.out.t2
                      have t3 := TJ.out.t3
                      have t4 := TJ.out.t4
                      have t5 := TJ.out.t5
                      have t6 := TJ.out.t6
                      have HJ := Lib.hid (HI.out.off hnn OJ.out (by simp) (by simp) (by simp) (by simp))
                      have hff := HIF.out j hj4
                      have hpc := Lib.hid (fun W H => HPT.out W H j hj4)
                      obtain ⟨bb, hbb⟩ : ∃ bb, pointsB n M ⟨gen, kind, nn, c0, c1, c2, c3, t, ws⟩ j g = bb := ⟨_, rfl⟩
                      rw [hbb] at hpc hff
                      have hdec : decide ((kk, j) ∈ dirtyL M T4 g) = bb := by
                        cases bb with
                        | true => exact decide_eq_true (hmm.2 (hff.2 ⟨hgg, rfl⟩))
                        | false => exact decide_eq_false (fun h => absurd (hff.1 (hmm.1 h)).2 (by simp))
                      have hnn' : nOf M T4 g i (j + 1) = if bb = true then nOf M T4 g i j + 1 else nOf M T4 g i j := by
                        rw [HSC.out j]
                        cases bb with
                        | true => rw [if_pos (hff.2 ⟨hgg, rfl⟩)]; rfl
                        | false => rw [if_neg (fun h => absurd (hff.1 h).2 (by simp))]; rfl
                      have HDEC := Lib.hid hdec
                      have HNN := Lib.hid hnn'
                      clear hdec hnn' hff hmm hbb
                      go_wp2_with fail
                      refine region_tail 13 (by kernel_rfl) (by kernel_rfl) ?_
                      intro w7 hw7
                      simp only [List.take_succ_cons, List.take_zero, List.drop_succ_cons, List.drop_zero]
                      have H7 : CardAt w7 cb pb mb sb n M C := by rw [← hw7]; exact HJ.out.drew
                      have hw7h := Lib.hid hw7
                      have O7 := OJ.out.drew
                      rw [hw7] at O7
                      have u0 : w7.cell? ⟨B6, 0, none⟩ = some (.int .i64 gen) := by rw [← hw7]; exact t0
                      have u1 : w7.cell? ⟨B6, 1, none⟩ = some (.int .i64 kind) := by rw [← hw7]; exact t1
                      have u2 : w7.cell? ⟨B6, 2, none⟩ = some (.int .i64 nn) := by rw [← hw7]; exact t2
                      have u3 : w7.cell? ⟨B6, 3, none⟩ = some (.int .i64 c0) := by rw [← hw7]; exact t3
                      have u4 : w7.cell? ⟨B6, 4, none⟩ = some (.int .i64 c1) := by rw [← hw7]; exact t4
                      have u5 : w7.cell? ⟨B6, 5, none⟩ = some (.int .i64 c2) := by rw [← hw7]; exact t5
                      have u6 : w7.cell? ⟨B6, 6, none⟩ = some (.int .i64 c3) := by rw [← hw7]; exact t6
                      have u7 : w7.cell? ⟨tb, to + i, none⟩ = some (.int .i64 (kk : Int)) := by rw [← hw7]; exact hcj
                      have HH7 := Lib.hid H7
                      have OO7 := Lib.hid O7
                      clear hw7 H7 O7 t0 t1 t2 t3 t4 t5 t6 hcj HJ OJ
                      repeat still_step
                      refine wpStill_nil ?_
                      go_wp2_with fail
                      refine (hpc.out w7 HH7.out).mono ?_
                      rintro e w8 ⟨rfl, O8⟩
                      have OO8 := Lib.hid (OO7.out.trans O8)
                      have O68 := Lib.hid ((hw7h.out ▸ OJ6.out.drew).trans O8)
                      have u8 := O8.cell u7 (by simp)
                      clear O8 u0 u1 u2 u3 u4 u5 u6 u7
                      go_wp2_with fail
                      refine (has_any (HL.out.off (OI.out.trans OO8.out) (by simp)) (by omega) kk j).mono ?_
                      rintro e w9 ⟨rfl, O9⟩
                      rw [HDEC.out]
                      have O69 := Lib.hid (O68.out.trans O9)
                      clear O9 u8
                      cases bb with
                      | true =>
                        go_wp2_with fail
                        go_roundw
                        case rel => exact ⟨j + 1, by omega, by go_num, by rw [HNN.out, if_pos (by trivial)]; rfl, O69.out⟩
                        case measure => simp [intOf]; omega
                      | false =>
                        go_wp2_with fail
                        go_roundw
                        case rel => exact ⟨j + 1, by omega, by go_num, by rw [HNN.out, if_neg (by simp)], O69.out⟩
                        case measure => simp [intOf]; omega
                    · have hg' : decide ((g : Int) < gen) = false := decide_eq_false hgg
                      have hdec : decide ((kk, j) ∈ dirtyL M T4 g) = false := decide_eq_false (fun h => hgg (hmm.1 h).1)
                      have hnn' : nOf M T4 g i (j + 1) = nOf M T4 g i j := by rw [HSC.out j, if_neg (fun h => hgg h.1)]
                      have HDEC := Lib.hid hdec
                      have HNN := Lib.hid hnn'
                      clear hdec hnn' hmm hgg
                      go_wp2_with fail
                      go_quiet (fail)
                      go_wp2_with fail
                      refine (has_any (HL.out.off (OI.out.trans (OJ.out.drewN nq)) (by simp)) (by omega) kk j).mono ?_
                      rintro e w9 ⟨rfl, O9⟩
                      rw [HDEC.out]
                      have O69 := Lib.hid ((OJ6.out.drewN nq).trans O9)
                      clear O9 hcj t0
                      go_wp2_with fail
                      go_roundw
                      case rel => exact ⟨j + 1, by omega, by go_num, by rw [HNN.out], O69.out⟩
                      case measure => simp [intOf]; omega
                  · obtain rfl : j = 4 := by omega
                    have O10 := Lib.hid (OI.out.trans OJ.out)
                    clear t0
                    go_wp2_with fail
                    go_roundw
                    case rel => exact ⟨i + 1, by omega, by go_num, by rw [HNX.out], O10.out⟩
                    case measure => simp [intOf]; omega
              · have TD6 := Lib.hid (hf.told.set gen kind nn c0 c1 c2 c3)
                have O6 := Off.set7 hr (Nat.le_of_eq hBz) (.int .i64 gen) (.int .i64 kind) (.int .i64 nn) (.int .i64 c0) (.int .i64 c1) (.int .i64 c2) (.int .i64 c3)
                rename_i hh1
                clear hh1 b0 b1 b2 b3 b4 b5 b6 f0 f1 f2 f3 f4 f5 f6 hf
                generalize ((((((w'.setCell _ _).setCell _ _).setCell _ _).setCell _ _).setCell _ _).setCell _ _).setCell _ _ = w6 at TD6 O6 ⊢
                have hcell6 := hcell5.out
                have OO6 := Lib.hid O6
                clear O6 hr hBz HSGA
                generalize Bz = B6 at TD6 ⊢
                go_wp2_with fail
                go_loopw [11, 15] (fun c v wk => ∃ j : Nat, j ≤ 4 ∧ v = .int .i64 j ∧ c = .int .i64 (nOf M T4 g i j : Nat) ∧ Off [] w6 wk) (fun _ v _ => 4 - (intOf v).toNat)
                case atStart => exact ⟨0, by omega, rfl, rfl, Off.refl _ _⟩
                case round =>
                  obtain ⟨j, hj, rfl, rfl, Oj⟩ := hrel
                  have OJ := Lib.hid (OO6.out.trans Oj)
                  have OJ6 := Lib.hid Oj
                  have TJ := TD6.out.off Oj (by simp)
                  have t0 := TJ.t0
                  have TJ := Lib.hid TJ
                  clear Oj
                  by_cases hj4 : j < 4
                  · have hcj := OJ.out.cell hcell6 (by simp)
                    have hl5 := HLE.out j (by omega)
                    have hmm := HM2.out j hj4
                    by_cases hgg : (g : Int) < gen
                    · have t1 := TJ.out.t1
                      have t2 := TJ.out.t2
                      have t3 := TJ.out.t3
                      have t4 := TJ.out.t4
                      have t5 := TJ.out.t5
                      have t6 := TJ.out.t6
                      have HJ := Lib.hid (HI.out.off hnn OJ.out (by simp) (by simp) (by simp) (by simp))
                      have hff := HIF.out j hj4
                      have hpc := Lib.hid (fun W H => HPT.out W H j hj4)
                      obtain ⟨bb, hbb⟩ : ∃ bb, pointsB n M ⟨gen, kind, nn, c0, c1, c2, c3, t, ws⟩ j g = bb := ⟨_, rfl⟩
                      rw [hbb] at hpc hff
                      have hdec : decide ((kk, j) ∈ dirtyL M T4 g) = bb := by
                        cases bb with
                        | true => exact decide_eq_true (hmm.2 (hff.2 ⟨hgg, rfl⟩))
                        | false => exact decide_eq_false (fun h => absurd (hff.1 (hmm.1 h)).2 (by simp))
                      have hnn' : nOf M T4 g i (j + 1) = if bb = true then nOf M T4 g i j + 1 else nOf M T4 g i j := by
                        rw [HSC.out j]
                        cases bb with
                        | true => rw [if_pos (hff.2 ⟨hgg, rfl⟩)]; rfl
                        | false => rw [if_neg (fun h => absurd (hff.1 h).2 (by simp))]; rfl
                      have HDEC := Lib.hid hdec
                      have HNN := Lib.hid hnn'
                      clear hdec hnn' hff hmm hbb
                      go_wp2_with fail
                      refine region_tail 13 (by kernel_rfl) (by kernel_rfl) ?_
                      intro w7 hw7
                      simp only [List.take_succ_cons, List.take_zero, List.drop_succ_cons, List.drop_zero]
                      have H7 : CardAt w7 cb pb mb sb n M C := by rw [← hw7]; exact HJ.out.drew
                      have hw7h := Lib.hid hw7
                      have O7 := OJ.out.drew
                      rw [hw7] at O7
                      have u0 : w7.cell? ⟨B6, 0, none⟩ = some (.int .i64 gen) := by rw [← hw7]; exact t0
                      have u1 : w7.cell? ⟨B6, 1, none⟩ = some (.int .i64 kind) := by rw [← hw7]; exact t1
                      have u2 : w7.cell? ⟨B6, 2, none⟩ = some (.int .i64 nn) := by rw [← hw7]; exact t2
                      have u3 : w7.cell? ⟨B6, 3, none⟩ = some (.int .i64 c0) := by rw [← hw7]; exact t3
                      have u4 : w7.cell? ⟨B6, 4, none⟩ = some (.int .i64 c1) := by rw [← hw7]; exact t4
                      have u5 : w7.cell? ⟨B6, 5, none⟩ = some (.int .i64 c2) := by rw [← hw7]; exact t5
                      have u6 : w7.cell? ⟨B6, 6, none⟩ = some (.int .i64 c3) := by rw [← hw7]; exact t6
                      have u7 : w7.cell? ⟨tb, to + i, none⟩ = some (.int .i64 (kk : Int)) := by rw [← hw7]; exact hcj
                      have HH7 := Lib.hid H7
                      have OO7 := Lib.hid O7
                      clear hw7 H7 O7 t0 t1 t2 t3 t4 t5 t6 hcj HJ OJ
                      repeat still_step
                      refine wpStill_nil ?_
                      go_wp2_with fail
                      refine (hpc.out w7 HH7.out).mono ?_
                      rintro e w8 ⟨rfl, O8⟩
                      have OO8 := Lib.hid (OO7.out.trans O8)
                      have O68 := Lib.hid ((hw7h.out ▸ OJ6.out.drew).trans O8)
                      have u8 := O8.cell u7 (by simp)
                      clear O8 u0 u1 u2 u3 u4 u5 u6 u7
                      go_wp2_with fail
                      refine (has_any (HL.out.off (OI.out.trans OO8.out) (by simp)) (by omega) kk j).mono ?_
                      rintro e w9 ⟨rfl, O9⟩
                      rw [HDEC.out]
                      have O69 := Lib.hid (O68.out.trans O9)
                      clear O9 u8
                      cases bb with
                      | true =>
                        go_wp2_with fail
                        go_roundw
                        case rel => exact ⟨j + 1, by omega, by go_num, by rw [HNN.out, if_pos (by trivial)]; rfl, O69.out⟩
                        case measure => simp [intOf]; omega
                      | false =>
                        go_wp2_with fail
                        go_roundw
                        case rel => exact ⟨j + 1, by omega, by go_num, by rw [HNN.out, if_neg (by simp)], O69.out⟩
                        case measure => simp [intOf]; omega
                    · have hg' : decide ((g : Int) < gen) = false := decide_eq_false hgg
                      have hdec : decide ((kk, j) ∈ dirtyL M T4 g) = false := decide_eq_false (fun h => hgg (hmm.1 h).1)
                      have hnn' : nOf M T4 g i (j + 1) = nOf M T4 g i j := by rw [HSC.out j, if_neg (fun h => hgg h.1)]
                      have HDEC := Lib.hid hdec
                      have HNN := Lib.hid hnn'
                      clear hdec hnn' hmm hgg
                      go_wp2_with fail
                      go_quiet (fail)
                      go_wp2_with fail
                      refine (has_any (HL.out.off (OI.out.trans (OJ.out.drewN nq)) (by simp)) (by omega) kk j).mono ?_
                      rintro e w9 ⟨rfl, O9⟩
                      rw [HDEC.out]
                      have O69 := Lib.hid ((OJ6.out.drewN nq).trans O9)
                      clear O9 hcj t0
                      go_wp2_with fail
                      go_roundw
                      case rel => exact ⟨j + 1, by omega, by go_num, by rw [HNN.out], O69.out⟩
                      case measure => simp [intOf]; omega
                  · obtain rfl : j = 4 := by omega
                    have O10 := Lib.hid (OI.out.trans OJ.out)
                    clear t0
                    go_wp2_with fail
                    go_roundw
                    case rel => exact ⟨i + 1, by omega, by go_num, by rw [HNX.out], O10.out⟩
                    case measure => simp [intOf]; omega
            · obtain rfl : i = T4.length := by omega
              have e1 : nOf M T4 g T4.length 0 = (dirtyL M T4 g).length := by rw [nOf_zero, List.take_length]
              rw [e1]
              have ON := Lib.hid (OG4.out.trans OI.out)
              have eq1 : (((dirtyL M T4 g).length : Int) != ((dirtyL M T4 g).length : Int)) = false := by simp
              clear e1
              go_wp2_with fail
              go_roundw
              case rel => exact ⟨g + 1, by omega, by go_num, ON.out⟩
              case measure => simp [intOf]; omega
        · go_wp2_with fail
          refine (awake09_true _).mono ?_
          rintro e w9 ⟨rfl, O9⟩
          go_wp2_with fail
          go_ret
          exact ⟨rfl, (OB.out.trans OG.out).trans O9⟩

theorem vain_law (limit : Int) (a : Option Addr) (len cap : Nat) (X : Nat → ActS) (w : World) (hX : ActsAt w a len X) :
    Calls Try.prog 9 #[.int .i64 limit, .slice a len cap] w fun e w' => e = .returned (.bool true) ∧ Off [] w w' := by
  by_cases hb : limit < 8 ∨ 1024 < limit
  · refine vain_none limit a len cap w ((played_arg limit a len cap w hb).mono ?_)
    rintro e w' ⟨rfl, rfl⟩
    exact ⟨rfl, Off.refl _ _⟩
  · obtain ⟨n, rfl, h1, h2⟩ : ∃ n : Nat, limit = n ∧ 8 ≤ n ∧ n ≤ 1024 := ⟨limit.toNat, by omega, by omega, by omega⟩
    by_cases hlen : len ≤ 300
    · exact vain_true n h1 h2 a len cap X w hX hlen
    · exact vain_none n a len cap w (played_many n h1 h2 a len cap w (by omega))
end Go.Proofs.Ytoafoodgomnfeaa
