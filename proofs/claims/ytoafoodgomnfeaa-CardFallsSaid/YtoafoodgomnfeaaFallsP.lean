/-
  YtoafoodgomnfeaaFallsP: what a store does to the marks, in plain Lean.
-/
import Derived.Test.YtoafoodgomnfeaaMarks
namespace Go.Proofs.Ytoafoodgomnfeaa
set_option linter.unusedVariables false

/-- No mark is raised, one at most is another. -/
structure FallsTo (M M' : MemS) : Prop where
  gen : ∀ x, (M'.S x).gen = (M.S x).gen
  taken : ∀ x, (M'.S x).taken = (M.S x).taken
  card : ∀ x i, i < 4 → (M'.S x).card i ≤ (M.S x).card i
  one : ∃ x0 i0, ∀ x i, i < 4 → (x ≠ x0 ∨ i ≠ i0) → (M'.S x).card i = (M.S x).card i
theorem FallsTo.refl (M : MemS) : FallsTo M M := ⟨fun _ => rfl, fun _ => rfl, fun _ _ _ => Int.le_refl _, 0, 0, fun _ _ _ _ => rfl⟩
theorem younger_le (n : Nat) (M : MemS) (s : SegS) (v m : Int) : younger n M s v m ≤ m := by
  unfold younger
  split
  · split <;> omega
  · exact Int.le_refl _
theorem write_S (M : MemS) (a v : Int) (x : Nat) : ((M.write a v).S x).gen = (M.S x).gen ∧ ((M.write a v).S x).taken = (M.S x).taken ∧ ∀ i, ((M.write a v).S x).card i = (M.S x).card i := by
  unfold MemS.write
  by_cases e : x = (a / 64).toNat
  · subst e
    rw [MemS.put_same]
    exact ⟨rfl, rfl, fun i => by match i with | 0 | 1 | 2 | _ + 3 => rfl⟩
  · rw [MemS.put_other _ _ _ e]
    exact ⟨rfl, rfl, fun _ => rfl⟩
theorem FallsTo.store {n : Nat} {M : MemS} {a v : Int} (ha : M.hasWord n a) : FallsTo M (M.store n a v) := by
  obtain ⟨k, hk⟩ : ∃ k : Nat, a / 64 = k := ⟨(a / 64).toNat, by have := ha.1; omega⟩
  obtain ⟨i, hi⟩ : ∃ i : Nat, a % 64 / 16 = i := ⟨(a % 64 / 16).toNat, by have := ha.1; omega⟩
  have hi4 : i < 4 := by omega
  have hw := write_S M a v
  have hL := Like.mark (M.write a v) k i (younger n (M.write a v) ((M.write a v).S k) v (((M.write a v).S k).card i))
  have hc := fun y j (hj : j < 4) => mark_card (M.write a v) k i hi4 (younger n (M.write a v) ((M.write a v).S k) v (((M.write a v).S k).card i)) y j hj
  have hs : M.store n a v = (M.write a v).mark k i (younger n (M.write a v) ((M.write a v).S k) v (((M.write a v).S k).card i)) := by unfold MemS.store; rw [hk, hi]; rfl
  rw [hs]
  refine ⟨fun x => (hL.gen x).trans (hw x).1, fun x => (hL.taken x).trans (hw x).2.1, fun x j hj => ?_, k, i, fun x j hj hne => ?_⟩
  · rw [hc x j hj]
    split
    · rename_i h
      rw [h.1, h.2, ← (hw k).2.2 i]
      exact younger_le _ _ _ _ _
    · rw [(hw x).2.2 j]; exact Int.le_refl _
  · rw [hc x j hj, if_neg (fun h => by rcases hne with e | e; exact e h.1; exact e h.2), (hw x).2.2 j]
theorem FallsTo.of {n : Nat} {M M' : MemS} {a v s : Int} (h : StoreIs n M a v s M') : FallsTo M M' := by
  rcases h with ⟨_, ha, rfl⟩ | ⟨_, _, rfl⟩
  · exact FallsTo.store ha
  · exact FallsTo.refl _

theorem FallsTo.takenIs {n : Nat} {M M' : MemS} (h : FallsTo M M') {T : List Nat} (ht : TakenIs M n [] T) : TakenIs M' n [] T := by
  refine ⟨fun k => ?_, ?_⟩
  · rw [ht.mem]; simp [selB, h.taken]
  · simpa [h.taken] using ht.ord
theorem FallsTo.dirty {M M' : MemS} (h : FallsTo M M') {T : List Nat} {g : Int} {p : Nat × Nat} (hp : p ∈ dirtyL M T g) : p ∈ dirtyL M' T g := by
  obtain ⟨k, i⟩ := p
  rw [mem_dirtyL] at hp ⊢
  have := h.card k i hp.2.1
  rw [h.gen]
  exact ⟨hp.1, hp.2.1, hp.2.2.1, by omega⟩
/-- Which of the marks may be another. -/
theorem FallsTo.chg {M M' : MemS} (h : FallsTo M M') {T : List Nat} (hnd : T.Nodup) : ∃ chg, ∀ j, j < 4 * T.length → (j ≠ chg → mkV M' T j = mkV M T j) ∧ mkV M' T j ≤ mkV M T j := by
  obtain ⟨x0, i0, hone⟩ := h.one
  have hle : ∀ j, mkV M' T j ≤ mkV M T j := fun j => h.card _ _ (by omega)
  by_cases hx : x0 ∈ T
  · obtain ⟨p, hp, e⟩ := List.getElem_of_mem hx
    refine ⟨4 * p + i0, fun j hj => ⟨fun hne => hone _ _ (by omega) ?_, hle j⟩⟩
    by_cases e1 : T.getD (j / 4) 0 = x0
    · refine .inr fun e2 => hne ?_
      have hj4 : j / 4 < T.length := by omega
      rw [List.getD, List.getElem?_eq_getElem hj4] at e1
      have : j / 4 = p := (List.getElem_inj hnd).1 (e1.trans e.symm)
      omega
    · exact .inl e1
  · refine ⟨0, fun j hj => ⟨fun _ => hone _ _ (by omega) (.inl fun e => hx ?_), hle j⟩⟩
    have hj4 : j / 4 < T.length := by omega
    rw [← e, List.getD, List.getElem?_eq_getElem hj4]
    exact List.getElem_mem hj4
/-- How many of the first j marks have fallen. -/
def cntF (M M' : MemS) (T : List Nat) (chg j : Nat) : Int := if chg < j ∧ mkV M' T chg < mkV M T chg then 1 else 0
theorem cntF_ran (M M' : MemS) (T : List Nat) (chg j : Nat) : 0 ≤ cntF M M' T chg j ∧ cntF M M' T chg j ≤ 1 := by unfold cntF; split <;> omega
theorem cntF_zero (M M' : MemS) (T : List Nat) (chg : Nat) : cntF M M' T chg 0 = 0 := by simp [cntF]
theorem cntF_same {M M' : MemS} {T : List Nat} {chg j : Nat} (h : mkV M' T j = mkV M T j) : cntF M M' T chg (j + 1) = cntF M M' T chg j := by
  unfold cntF
  by_cases e : j = chg
  · subst e; rw [if_neg (by omega), if_neg (by omega)]
  · by_cases h1 : chg < j
    · simp only [h1, show chg < j + 1 by omega]
    · rw [if_neg (by omega), if_neg (by omega)]
theorem cntF_less {M M' : MemS} {T : List Nat} {chg j : Nat} (hc : j ≠ chg → mkV M' T j = mkV M T j) (h : mkV M' T j < mkV M T j) : cntF M M' T chg (j + 1) = 1 ∧ cntF M M' T chg j = 0 := by
  have e : j = chg := Classical.byContradiction fun e => by have := hc e; omega
  subst e
  unfold cntF
  exact ⟨if_pos ⟨by omega, h⟩, if_neg (by omega)⟩
theorem CardsL.mono {B B' : Nat} {w : World} {v : Value} {L : List (Nat × Nat)} (h : CardsL B w v L) (hB : B' ≤ B) : CardsL B' w v L := by
  rcases h with h | ⟨b, cap, hb, r⟩
  · exact .inl h
  · exact .inr ⟨b, cap, by omega, r⟩
end Go.Proofs.Ytoafoodgomnfeaa
