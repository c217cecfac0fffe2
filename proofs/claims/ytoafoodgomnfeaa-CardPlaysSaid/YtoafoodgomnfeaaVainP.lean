/-
  YtoafoodgomnfeaaVainP: what Again of all cards leaves, in plain Lean.
-/
import Derived.Test.YtoafoodgomnfeaaHas
namespace Go.Proofs.Ytoafoodgomnfeaa
set_option linter.unusedVariables false

/-- All but the marks is the same. -/
structure Like (M M' : MemS) : Prop where
  gen : ∀ x, (M'.S x).gen = (M.S x).gen
  kind : ∀ x, (M'.S x).kind = (M.S x).kind
  n : ∀ x, (M'.S x).n = (M.S x).n
  taken : ∀ x, (M'.S x).taken = (M.S x).taken
  words : ∀ x, (M'.S x).words = (M.S x).words
theorem Like.mark (M : MemS) (a c m : Int) : Like M (M.mark a c m) := by
  have h : ∀ j, j ≠ a.toNat → (M.mark a c m).S j = M.S j := fun j e => by unfold MemS.mark; rw [MemS.put_other _ _ _ e]
  have h2 : (M.mark a c m).S a.toNat = (M.S a.toNat).putCard c m := by unfold MemS.mark; rw [MemS.put_same]
  refine ⟨fun x => ?_, fun x => ?_, fun x => ?_, fun x => ?_, fun x => ?_⟩ <;>
    (by_cases e : x = a.toNat
     · subst e; rw [h2]; rfl
     · rw [h x e])
theorem Like.genOf {n : Nat} {M M' : MemS} (h : Like M M') (v : Int) : genOf n M' v = genOf n M v := by
  have h2 : ∀ x, M'.isTaken n x ↔ M.isTaken n x := fun x => by unfold MemS.isTaken; rw [h.taken]
  unfold Ytoafoodgomnfeaa.genOf
  simp only [h2, h.gen]
theorem Like.younger {n : Nat} {M M' : MemS} (h : Like M M') {s s' : SegS} (hg : s'.gen = s.gen) (hk : s'.kind = s.kind) (v k : Int) : younger n M' s' v k = younger n M s v k := by
  unfold Ytoafoodgomnfeaa.younger; rw [h.genOf, hg, hk]
theorem Like.againR {n : Nat} {M M' : MemS} (h : Like M M') {s s' : SegS} (hg : s'.gen = s.gen) (hk : s'.kind = s.kind) (hw : s'.words = s.words) (c : Nat) : ∀ i, againR n M' s' c i = againR n M s c i
  | 0 => rfl
  | i + 1 => by
    show Ytoafoodgomnfeaa.younger n M' s' (s'.words (16 * c + i)) (Ytoafoodgomnfeaa.againR n M' s' c i) = Ytoafoodgomnfeaa.younger n M s (s.words (16 * c + i)) (Ytoafoodgomnfeaa.againR n M s c i)
    rw [h.younger hg hk, Like.againR h hg hk hw c i, hw]
theorem Like.taken' {n : Nat} {M M' : MemS} (h : Like M M') {T : List Nat} (ht : TakenIs M n [] T) : TakenIs M' n [] T := by
  refine ⟨fun k => ?_, ?_⟩
  · rw [ht.mem]; simp [selB, h.taken]
  · simpa [h.taken] using ht.ord

theorem mark_card (M : MemS) (x c : Nat) (hc : c < 4) (m : Int) (y i : Nat) (hi : i < 4) : ((M.mark x c m).S y).card i = if y = x ∧ i = c then m else (M.S y).card i := by
  by_cases e : y = x
  · subst e
    unfold MemS.mark
    rw [Int.toNat_natCast, MemS.put_same, SegS.card_put _ c hc m i hi]
    simp
  · unfold MemS.mark
    rw [Int.toNat_natCast, MemS.put_other _ _ _ e]
    simp [e]

/-- The mark that Again leaves knows of just those words. -/
theorem againR_le (n : Nat) (M : MemS) (s : SegS) (c : Nat) (g : Int) (hg : g < 5) : ∀ i, againR n M s c i ≤ g ↔ ∃ j, j < i ∧ ∃ h, genOf n M (s.words (16 * c + j)) = some h ∧ s.kind ≠ 3 ∧ h < s.gen ∧ h ≤ g
  | 0 => ⟨fun h => by simp only [againR] at h; omega, fun ⟨j, hj, _⟩ => by omega⟩
  | i + 1 => by
    have ih := againR_le n M s c g hg i
    show younger n M s (s.words (16 * c + i)) (againR n M s c i) ≤ g ↔ _
    unfold younger
    constructor
    · intro h
      split at h
      · rename_i g' hg'
        split at h
        · rename_i hc
          by_cases hle : againR n M s c i ≤ g
          · obtain ⟨j, hj, r⟩ := ih.1 hle; exact ⟨j, by omega, r⟩
          · exact ⟨i, by omega, g', hg', hc.1, hc.2, by omega⟩
        · obtain ⟨j, hj, r⟩ := ih.1 h; exact ⟨j, by omega, r⟩
      · obtain ⟨j, hj, r⟩ := ih.1 h; exact ⟨j, by omega, r⟩
    · rintro ⟨j, hj, h, h1, h2, h3, h4⟩
      by_cases e : j = i
      · subst e
        rw [h1]
        simp only
        rw [if_pos ⟨h2, h3⟩]
        omega
      · have := ih.2 ⟨j, by omega, h, h1, h2, h3, h4⟩
        split
        · split
          · omega
          · exact this
        · exact this

theorem points_iff (n : Nat) (M : MemS) (s : SegS) (c : Nat) (g : Int) : pointsB n M s c g = true ↔ ∃ j, j < cntW s.n c ∧ ∃ h, genOf n M (s.words (16 * c + j)) = some h ∧ s.kind ≠ 3 ∧ h ≤ g := by
  unfold pointsB
  rw [Bool.and_eq_true, List.any_eq_true]
  constructor
  · rintro ⟨h1, j, hj, h2⟩
    unfold ptW at h2
    split at h2
    · rename_i h hh
      exact ⟨j, List.mem_range.1 hj, h, hh, of_decide_eq_true h1, of_decide_eq_true h2⟩
    · cases h2
  · rintro ⟨j, hj, h, h1, h2, h3⟩
    refine ⟨decide_eq_true h2, j, List.mem_range.2 hj, ?_⟩
    unfold ptW
    rw [h1]
    exact decide_eq_true h3

/-- A card's mark is what Again leaves. -/
def DoneC (n : Nat) (M : MemS) (k i : Nat) : Prop := (M.S k).card i = againR n M (M.S k) i (cntW (M.S k).n i)
theorem DoneC.iff {n : Nat} {M : MemS} {k i : Nat} (h : DoneC n M k i) {g : Int} (hg : g < 4) : (g < (M.S k).gen ∧ (M.S k).card i ≤ g) ↔ (g < (M.S k).gen ∧ pointsB n M (M.S k) i g = true) := by
  rw [h, againR_le n M _ i g (by omega), points_iff]
  constructor
  · rintro ⟨h1, j, hj, h, a, b, c, d⟩; exact ⟨h1, j, hj, h, a, b, d⟩
  · rintro ⟨h1, j, hj, h, a, b, d⟩; exact ⟨h1, j, hj, h, a, b, by omega, d⟩
/-- All cards of the first a segments, and the first j of the next, are as Again leaves them. -/
def DoneV (n : Nat) (M : MemS) (T : List Nat) (a j : Nat) : Prop := ∀ b i, b < T.length → i < 4 → (b < a ∨ b = a ∧ i < j) → DoneC n M (T.getD b 0) i
theorem DoneV.again {n : Nat} {M : MemS} {T : List Nat} {a j : Nat} (h : DoneV n M T a j) (hnd : T.Nodup) (ha : a < T.length) (hj : j < 4) : DoneV n (M.again n (T.getD a 0 : Nat) j) T a (j + 1) := by
  intro b i hb hi hor
  have hL : Like M (M.again n (T.getD a 0 : Nat) j) := Like.mark _ _ _ _
  unfold DoneC
  rw [hL.againR (hL.gen _) (hL.kind _) (hL.words _), hL.n]
  have hc : ((M.again n (T.getD a 0 : Nat) j).S (T.getD b 0)).card i = if T.getD b 0 = T.getD a 0 ∧ i = j then _ else _ := mark_card M (T.getD a 0) j hj _ (T.getD b 0) i hi
  rw [hc]
  by_cases e : T.getD b 0 = T.getD a 0 ∧ i = j
  · rw [if_pos e, e.1, e.2]; simp
  · rw [if_neg e]
    refine h b i hb hi ?_
    rcases hor with h | ⟨h1, h2⟩
    · exact .inl h
    · refine .inr ⟨h1, ?_⟩
      have : i ≠ j := fun e' => e ⟨by rw [h1], e'⟩
      omega
theorem DoneV.next {n : Nat} {M : MemS} {T : List Nat} {a : Nat} (h : DoneV n M T a 4) : DoneV n M T (a + 1) 0 := fun b i hb hi hor => h b i hb hi (by
  rcases hor with h | ⟨_, h⟩
  · by_cases e : b = a
    · exact .inr ⟨e, by omega⟩
    · exact .inl (by omega)
  · omega)
theorem DoneV.start (n : Nat) (M : MemS) (T : List Nat) : DoneV n M T 0 0 := fun b i _ _ hor => by omega

theorem mem_dirtyS {s : SegS} {k : Nat} {g : Int} {j : Nat} {p : Nat × Nat} : p ∈ dirtyS s k g j ↔ p.1 = k ∧ p.2 < j ∧ g < s.gen ∧ s.card p.2 ≤ g := by
  unfold dirtyS
  rw [List.mem_map]
  constructor
  · rintro ⟨i, hi, rfl⟩
    rw [List.mem_filter, List.mem_range] at hi
    exact ⟨rfl, hi.1, of_decide_eq_true hi.2⟩
  · rintro ⟨h1, h2, h3⟩
    exact ⟨p.2, List.mem_filter.2 ⟨List.mem_range.2 h2, decide_eq_true h3⟩, by rw [← h1]⟩
theorem mem_dirtyL {M : MemS} {T : List Nat} {g : Int} {k i : Nat} : (k, i) ∈ dirtyL M T g ↔ k ∈ T ∧ i < 4 ∧ g < (M.S k).gen ∧ (M.S k).card i ≤ g := by
  unfold dirtyL
  rw [List.mem_flatMap]
  constructor
  · rintro ⟨x, hx, h⟩
    obtain ⟨h1, h2, h3⟩ := mem_dirtyS.1 h
    cases h1
    exact ⟨hx, h2, h3⟩
  · rintro ⟨hx, h2, h3⟩
    exact ⟨k, hx, mem_dirtyS.2 ⟨rfl, h2, h3⟩⟩

/-- How many are dirty of the first a segments and the first j cards of the next. -/
def nOf (M : MemS) (T : List Nat) (g : Int) (a j : Nat) : Nat := (dirtyL M (T.take a) g).length + (dirtyS (M.S (T.getD a 0)) (T.getD a 0) g j).length
theorem nOf_zero (M : MemS) (T : List Nat) (g : Int) (a : Nat) : nOf M T g a 0 = (dirtyL M (T.take a) g).length := by simp [nOf, dirtyS]
theorem nOf_four (M : MemS) (T : List Nat) (g : Int) (a : Nat) (ha : a < T.length) : nOf M T g a 4 = (dirtyL M (T.take (a + 1)) g).length := by rw [dirtyL_take M T g a ha, List.length_append]; rfl
theorem nOf_succ (M : MemS) (T : List Nat) (g : Int) (a j : Nat) : nOf M T g a (j + 1) = if g < (M.S (T.getD a 0)).gen ∧ (M.S (T.getD a 0)).card j ≤ g then nOf M T g a j + 1 else nOf M T g a j := by
  unfold nOf
  rw [dirtyS_succ]
  split
  · rw [List.length_append]; rfl
  · rfl
theorem nOf_le (M : MemS) (T : List Nat) (g : Int) (a j : Nat) (ha : a ≤ T.length) : nOf M T g a j ≤ T.length * 4 + j := by
  unfold nOf
  have h1 := dirtyL_len M (T.take a) g
  have h2 := dirtyS_len (M.S (T.getD a 0)) (T.getD a 0) g j
  rw [List.length_take] at h1
  have : min a T.length ≤ T.length := Nat.min_le_right _ _
  omega
end Go.Proofs.Ytoafoodgomnfeaa
