/-
  YtoafoodgomnfeaaCountsP: how many segments Taken tells, in plain Lean.
-/
import Derived.Test.YtoafoodgomnfeaaMaps
namespace Go.Proofs.Ytoafoodgomnfeaa
set_option linter.unusedVariables false

theorem flT_free (M : MemS) (n : Nat) : (flT M [] n).length + freeN M.S n = n := by
  induction n with
  | zero => rfl
  | succ n ih =>
    rw [flT_succ]
    simp only [freeN]
    by_cases h : (M.S n).taken = 0
    · rw [selB_free h, if_pos h]; simp only [Bool.false_eq_true, if_false]; omega
    · rw [selB_all h, if_neg h]; simp; omega

/-- Those of the generations below g. -/
def byG (M : MemS) (n : Nat) : Nat → Nat
  | 0 => 0
  | g + 1 => byG M n g + (flT M [(g : Int)] n).length

theorem byG_succ (M : MemS) (n g : Nat) : byG M (n + 1) g = byG M n g + if (M.S n).taken ≠ 0 ∧ 0 ≤ (M.S n).gen ∧ (M.S n).gen < g then 1 else 0 := by
  induction g with
  | zero =>
    have hn : ¬ ((M.S n).taken ≠ 0 ∧ 0 ≤ (M.S n).gen ∧ (M.S n).gen < ((0 : Nat) : Int)) := by omega
    rw [if_neg hn]; rfl
  | succ g ih =>
    simp only [byG]
    rw [ih]
    rw [show (flT M [(g : Int)] (n + 1)).length = if selB M [(g : Int)] n then (flT M [(g : Int)] n).length + 1 else (flT M [(g : Int)] n).length by rw [flT_succ]; split <;> simp]
    generalize hA : (flT M [(g : Int)] n).length = A
    by_cases ht : (M.S n).taken = 0
    · have c1 : ¬ ((M.S n).taken ≠ 0 ∧ 0 ≤ (M.S n).gen ∧ (M.S n).gen < (g : Int)) := fun h => h.1 ht
      have c2 : ¬ ((M.S n).taken ≠ 0 ∧ 0 ≤ (M.S n).gen ∧ (M.S n).gen < ((g + 1 : Nat) : Int)) := fun h => h.1 ht
      rw [selB_free ht, if_neg c1, if_neg c2]
      simp only [Bool.false_eq_true, if_false]
      omega
    · rw [selB_gen ht (by simp)]
      by_cases hg : (M.S n).gen = (g : Int)
      · have c1 : ¬ ((M.S n).taken ≠ 0 ∧ 0 ≤ (M.S n).gen ∧ (M.S n).gen < (g : Int)) := fun h => by omega
        have c2 : (M.S n).taken ≠ 0 ∧ 0 ≤ (M.S n).gen ∧ (M.S n).gen < ((g + 1 : Nat) : Int) := ⟨ht, by omega, by omega⟩
        have c3 : decide ((M.S n).gen ∈ [(g : Int)]) = true := by simp [hg]
        rw [c3, if_neg c1, if_pos c2]
        simp only [if_true]
        omega
      · have c3 : decide ((M.S n).gen ∈ [(g : Int)]) = false := by simp [hg]
        rw [c3]
        simp only [Bool.false_eq_true, if_false]
        by_cases hl : 0 ≤ (M.S n).gen ∧ (M.S n).gen < (g : Int)
        · have c2 : (M.S n).taken ≠ 0 ∧ 0 ≤ (M.S n).gen ∧ (M.S n).gen < ((g + 1 : Nat) : Int) := ⟨ht, by omega, by omega⟩
          rw [if_pos ⟨ht, hl⟩, if_pos c2]; omega
        · have c2 : ¬ ((M.S n).taken ≠ 0 ∧ 0 ≤ (M.S n).gen ∧ (M.S n).gen < ((g + 1 : Nat) : Int)) := fun h => hl ⟨h.2.1, by omega⟩
          rw [if_neg (fun h => hl h.2), if_neg c2]; omega

theorem byG_all {M : MemS} {n c : Nat} (W : Wf n M c) : ∀ m, m ≤ n → byG M m 5 = (flT M [] m).length := by
  intro m
  induction m with
  | zero => intro _; rfl
  | succ m ih =>
    intro hm
    rw [byG_succ, ih (by omega), flT_succ]
    have hg := W.gen m (by omega)
    by_cases ht : (M.S m).taken = 0
    · rw [if_neg (fun h => h.1 ht), selB_free ht]; simp
    · have c2 : (M.S m).taken ≠ 0 ∧ 0 ≤ (M.S m).gen ∧ (M.S m).gen < ((5 : Nat) : Int) := ⟨ht, hg.1, by omega⟩
      rw [if_pos c2, selB_all ht]; simp

theorem byG_mono (M : MemS) (n g : Nat) (hg : g ≤ 5) : byG M n g ≤ byG M n 5 := by
  have step : ∀ k, byG M n k ≤ byG M n (k + 1) := fun k => by simp only [byG]; omega
  have : ∀ k, g ≤ k → byG M n g ≤ byG M n k := fun k hk => by
    induction hk with
    | refl => exact Nat.le_refl _
    | step _ ih => exact Nat.le_trans ih (step _)
  exact this 5 hg

/-- How many of the first k are taken, one by one. -/
theorem flT_step (M : MemS) (k : Nat) : (flT M [] (k + 1)).length = (flT M [] k).length + if (M.S k).taken ≠ 0 then 1 else 0 := by
  rw [flT_succ]
  by_cases h : (M.S k).taken = 0
  · rw [selB_free h]; simp [h]
  · rw [selB_all h]; simp [h]

/-- The one that was taken last is the last one. -/
theorem last_taken {M : MemS} {n c k : Nat} {a b : Int} {T : List Nat} (W : Wf n M c) (hk : k < n) (hT : TakenIs (M.take k a b) n [] T) : T ≠ [] ∧ ∀ h : T.length - 1 < T.length, T[T.length - 1] = k := by
  have hts : ((M.take k a b).S k).taken = M.count + 1 := by rw [show (M.take k a b).S k = _ from MemS.put_same _ _ _]; rfl
  have hmem : k ∈ T := (hT.mem k).2 ⟨hk, selB_all (by rw [hts]; have := W.cnt0; omega)⟩
  have hne : T ≠ [] := fun e => by rw [e] at hmem; cases hmem
  refine ⟨hne, fun h => ?_⟩
  obtain ⟨i, hi, e⟩ := List.getElem_of_mem hmem
  by_cases hlast : i = T.length - 1
  · subst hlast; exact e
  · exfalso
    have hlt := List.pairwise_iff_getElem.1 hT.ord i (T.length - 1) hi h (by omega)
    rw [e, hts] at hlt
    have hx : T[T.length - 1] ≠ k := fun e2 => by
      have := hT.nodup
      rw [List.Nodup, List.pairwise_iff_getElem] at this
      exact this i (T.length - 1) hi h (by omega) (e.trans e2.symm)
    have hm2 := (hT.mem _).1 (List.getElem_mem h)
    rw [show (M.take k a b).S T[T.length - 1] = M.S T[T.length - 1] from MemS.put_other _ _ _ hx] at hlt
    have := (W.tk _ hm2.1).2
    omega

theorem intsOf_len (T : List Nat) : (intsOf T).length = T.length := by simp [intsOf]
theorem intsOf_get (T : List Nat) {i : Nat} (h : i < T.length) : (intsOf T).getD i 0 = (T[i] : Int) := by simp [intsOf, List.getD, h]
theorem isTaken_mem {M : MemS} {n : Nat} {T : List Nat} (hT : TakenIs M n [] T) {i : Nat} (h : i < T.length) : M.isTaken n (T[i] : Int) ∧ T[i] < n := by
  obtain ⟨h1, h2⟩ := (hT.mem _).1 (List.getElem_mem h)
  refine ⟨⟨by omega, by omega, fun e => ?_⟩, h1⟩
  rw [Int.toNat_natCast] at e
  rw [selB_free e] at h2; cases h2

/-- What the map of those that were seen holds behind j of them. -/
def seenF (T : List Nat) (j : Nat) : Int → Option Int := fun x => if ∃ i, i < j ∧ ∃ h : i < T.length, x = (T[i] : Int) then some 1 else none
theorem seenF_zero (T : List Nat) (x : Int) : seenF T 0 x = none := by simp [seenF]
theorem seenF_new {T : List Nat} (hn : T.Nodup) {j : Nat} (hj : j < T.length) : seenF T j (T[j] : Int) = none := by
  unfold seenF
  rw [if_neg]
  rintro ⟨i, hi, hl, e⟩
  have e' : T[j] = T[i] := by exact_mod_cast e
  rw [List.Nodup, List.pairwise_iff_getElem] at hn
  exact hn i j hl hj hi e'.symm
theorem seenF_succ (T : List Nat) {j : Nat} (hj : j < T.length) (x : Int) : upd (seenF T j) (T[j] : Int) (some 1) x = seenF T (j + 1) x := by
  unfold upd seenF
  by_cases e : x = (T[j] : Int)
  · rw [if_pos e, if_pos ⟨j, by omega, hj, e⟩]
  · rw [if_neg e]
    by_cases h : ∃ i, i < j ∧ ∃ h : i < T.length, x = (T[i] : Int)
    · obtain ⟨i, hi, hl, e2⟩ := h
      rw [if_pos ⟨i, hi, hl, e2⟩, if_pos ⟨i, by omega, hl, e2⟩]
    · rw [if_neg h, if_neg]
      rintro ⟨i, hi, hl, e2⟩
      by_cases ei : i = j
      · subst ei; exact e e2
      · exact h ⟨i, by omega, hl, e2⟩
end Go.Proofs.Ytoafoodgomnfeaa
