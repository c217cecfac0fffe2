/-
  YtoafoodgomnfeaaWordsP: which words are used, and how many, through all calls, in plain Lean.
-/
import Derived.Test.YtoafoodgomnfeaaCounts
namespace Go.Proofs.Ytoafoodgomnfeaa
set_option linter.unusedVariables false

/-- What a used word holds. -/
def wordF (M : MemS) (n : Nat) (a : Int) : Option Int :=
  if 0 ≤ a ∧ a / 64 < n ∧ (M.S (a / 64).toNat).taken ≠ 0 ∧ a % 64 < (M.S (a / 64).toNat).n then some ((M.S (a / 64).toNat).words (a % 64).toNat) else none
theorem wordF_has (M : MemS) (n : Nat) (a : Int) : (wordF M n a).isSome = true ↔ M.hasWord n a := by
  unfold wordF MemS.hasWord MemS.isTaken
  constructor
  · intro h
    split at h
    · rename_i h'; exact ⟨h'.1, ⟨by omega, h'.2.1, h'.2.2.1⟩, h'.2.2.2⟩
    · cases h
  · intro h
    rw [if_pos ⟨h.1, h.2.1.2.1, h.2.1.2.2, h.2.2⟩]; rfl
theorem wordF_some {M : MemS} {n : Nat} {a : Int} (h : M.hasWord n a) : wordF M n a = some ((M.S (a / 64).toNat).words (a % 64).toNat) := by
  unfold wordF
  obtain ⟨h0, ⟨h1, h2, h3⟩, h4⟩ := h
  rw [if_pos ⟨h0, h2, h3, h4⟩]
theorem wordF_none {M : MemS} {n : Nat} {a : Int} (h : ¬ M.hasWord n a) : wordF M n a = none := by
  cases e : wordF M n a with
  | none => rfl
  | some v => exact absurd ((wordF_has M n a).1 (by rw [e]; rfl)) h

/-- How many of a segment's words are used. -/
def usedN (s : SegS) : Nat := if s.taken = 0 then 0 else s.n.toNat
def wordN (S : Nat → SegS) : Nat → Nat
  | 0 => 0
  | n + 1 => wordN S n + usedN (S n)
theorem wordN_congr {S T : Nat → SegS} {n : Nat} (h : ∀ j, j < n → usedN (S j) = usedN (T j)) : wordN S n = wordN T n := by
  induction n with
  | zero => rfl
  | succ n ih => simp only [wordN]; rw [ih fun j hj => h j (by omega), h n (by omega)]
theorem wordN_put {S : Nat → SegS} {n k : Nat} (hk : k < n) (s : SegS) : wordN (fun i => if i = k then s else S i) n + usedN (S k) = wordN S n + usedN s := by
  induction n with
  | zero => omega
  | succ n ih =>
    simp only [wordN]
    by_cases e : n = k
    · subst e
      simp only [if_true]
      rw [wordN_congr (T := S) (fun j hj => by rw [if_neg (by omega)])]
      omega
    · have := ih (by omega)
      simp only [if_neg e]
      omega
theorem wordN_le {M : MemS} {n c : Nat} (W : Wf n M c) : ∀ m, m ≤ n → wordN M.S m ≤ 64 * m := by
  intro m
  induction m with
  | zero => intro _; exact Nat.le_refl _
  | succ m ih =>
    intro hm
    have := ih (by omega)
    have hu := W.used m (by omega)
    simp only [wordN, usedN]
    split <;> omega

/-! ### Take -/
theorem wordF_take {M : MemS} {n k : Nat} (hk : k < n) (h0 : (M.S k).taken = 0) (g kd : Int) (x : Int) : wordF (M.take k g kd) n x = wordF M n x := by
  unfold wordF
  by_cases e : (x / 64).toNat = k
  · rw [e, show (M.take k g kd).S k = fresh g kd (M.count + 1) from MemS.put_same _ _ _, h0]
    rw [if_neg (fun h => by have := h.2.2.2; simp only [fresh] at this; omega), if_neg (fun h => h.2.2.1 rfl)]
  · rw [show (M.take k g kd).S (x / 64).toNat = M.S (x / 64).toNat from MemS.put_other _ _ _ e]
theorem wordN_take {M : MemS} {n k : Nat} (hk : k < n) (h0 : (M.S k).taken = 0) (g kd : Int) : wordN (M.take k g kd).S n = wordN M.S n := by
  have := wordN_put (S := M.S) hk (fresh g kd (M.count + 1))
  have e1 : usedN (M.S k) = 0 := by simp [usedN, h0]
  have e2 : usedN (fresh g kd (M.count + 1)) = 0 := by unfold usedN; split <;> rfl
  rw [e1, e2] at this
  exact this

/-! ### Give, word by word -/
def giveF (M : MemS) (n k j : Nat) (x : Int) : Option Int := if x / 64 = k ∧ x % 64 < j then none else wordF M n x
theorem giveF_zero (M : MemS) (n k : Nat) (x : Int) : wordF M n x = giveF M n k 0 x := by
  unfold giveF; rw [if_neg (by omega)]
theorem giveF_step (M : MemS) (n k j : Nat) (hj : j < 64) (x : Int) : upd (giveF M n k j) ((k : Int) * 64 + j) none x = giveF M n k (j + 1) x := by
  unfold upd giveF
  by_cases e : x = (k : Int) * 64 + j
  · rw [if_pos e, if_pos (by omega)]
  · rw [if_neg e]
    by_cases h : x / 64 = k ∧ x % 64 < j
    · rw [if_pos h, if_pos (by omega)]
    · rw [if_neg h, if_neg (by omega)]
theorem giveF_at {M : MemS} {n k : Nat} (hk : k < n) (ht : (M.S k).taken ≠ 0) (j : Nat) (hj : j < 64) : (giveF M n k j ((k : Int) * 64 + j)).isSome = decide ((j : Int) < (M.S k).n) := by
  unfold giveF wordF
  have e1 : ((k : Int) * 64 + j) / 64 = k := by omega
  have e2 : ((k : Int) * 64 + j) % 64 = j := by omega
  rw [if_neg (by omega), e1, e2]
  simp only [Int.toNat_natCast]
  by_cases h : (j : Int) < (M.S k).n
  · rw [if_pos ⟨by omega, by omega, ht, h⟩]; simp [h]
  · rw [if_neg (fun h' => h h'.2.2.2)]; simp [h]
def giveN (M : MemS) (n k j : Nat) : Nat := wordN M.S n - min j (M.S k).n.toNat
theorem wordN_ge {S : Nat → SegS} {n k : Nat} (hk : k < n) : usedN (S k) ≤ wordN S n := by
  induction n with
  | zero => omega
  | succ n ih =>
    simp only [wordN]
    by_cases e : n = k
    · subst e; omega
    · have := ih (by omega); omega
theorem giveN_step {M : MemS} {n c k : Nat} (W : Wf n M c) (hk : k < n) (ht : (M.S k).taken ≠ 0) (j : Nat) (hj : j < 64) :
    (if (giveF M n k j ((k : Int) * 64 + j)).isSome then giveN M n k j - 1 else giveN M n k j) = giveN M n k (j + 1) := by
  rw [giveF_at hk ht j hj]
  have hu := W.used k hk
  have hge := wordN_ge (S := M.S) hk
  have e1 : usedN (M.S k) = (M.S k).n.toNat := by simp [usedN, ht]
  unfold giveN
  by_cases h : (j : Int) < (M.S k).n
  · simp only [h, decide_true, if_true]; omega
  · simp only [h, decide_false, Bool.false_eq_true, if_false]; omega
theorem giveF_end {M : MemS} {n k : Nat} (hk : k < n) (x : Int) : giveF M n k 64 x = wordF (M.give k) n x := by
  unfold giveF wordF
  by_cases e : x / 64 = k
  · rw [if_pos (by omega), e]
    simp only [Int.toNat_natCast]
    rw [show (M.give k).S k = SegS.zero from MemS.put_same _ _ _, if_neg (fun h => h.2.2.1 rfl)]
  · rw [if_neg (fun h => e h.1)]
    by_cases h0 : 0 ≤ x
    · rw [show (M.give k).S (x / 64).toNat = M.S (x / 64).toNat from MemS.put_other _ _ _ (by omega)]
    · rw [if_neg (fun h => h0 h.1), if_neg (fun h => h0 h.1)]
theorem giveN_end {M : MemS} {n c k : Nat} (W : Wf n M c) (hk : k < n) (ht : (M.S k).taken ≠ 0) : giveN M n k 64 = wordN (M.give k).S n := by
  have := wordN_put (S := M.S) hk SegS.zero
  have hu := W.used k hk
  have e1 : usedN (M.S k) = (M.S k).n.toNat := by simp [usedN, ht]
  have e2 : usedN SegS.zero = 0 := rfl
  have e3 : wordN (M.give k).S n = wordN (fun i => if i = k then SegS.zero else M.S i) n := rfl
  rw [e3]
  unfold giveN
  omega

/-! ### Bump, word by word -/
def bumpF (M : MemS) (n k j : Nat) (x : Int) : Option Int := if x / 64 = k ∧ (M.S k).n ≤ x % 64 ∧ x % 64 < (M.S k).n + j then some 0 else wordF M n x
theorem bumpF_zero (M : MemS) (n k : Nat) (x : Int) : wordF M n x = bumpF M n k 0 x := by
  unfold bumpF; rw [if_neg (by omega)]
theorem bumpF_new {M : MemS} {n c k : Nat} (W : Wf n M c) (hk : k < n) (j : Nat) (hj : (M.S k).n + j < 64) : bumpF M n k j ((k : Int) * 64 + (M.S k).n + j) = none := by
  have hu := W.used k hk
  unfold bumpF wordF
  have e1 : ((k : Int) * 64 + (M.S k).n + j) / 64 = k := by omega
  have e2 : ((k : Int) * 64 + (M.S k).n + j) % 64 = (M.S k).n + j := by omega
  rw [e1, e2, if_neg (by omega)]
  simp only [Int.toNat_natCast]
  rw [if_neg (fun h => by have := h.2.2.2; omega)]
theorem bumpF_step {M : MemS} {n c k : Nat} (W : Wf n M c) (hk : k < n) (j : Nat) (hj : (M.S k).n + j < 64) (x : Int) : upd (bumpF M n k j) ((k : Int) * 64 + (M.S k).n + j) (some 0) x = bumpF M n k (j + 1) x := by
  have hu := W.used k hk
  unfold upd bumpF
  by_cases e : x = (k : Int) * 64 + (M.S k).n + j
  · rw [if_pos e, if_pos (by omega)]
  · rw [if_neg e]
    by_cases h : x / 64 = k ∧ (M.S k).n ≤ x % 64 ∧ x % 64 < (M.S k).n + j
    · rw [if_pos h, if_pos (by omega)]
    · rw [if_neg h, if_neg (by omega)]
theorem bumpF_end {M : MemS} {n c k : Nat} (W : Wf n M c) (hk : k < n) (ht : (M.S k).taken ≠ 0) (b : Nat) (hb : (b : Int) ≤ 64 - (M.S k).n) (x : Int) : bumpF M n k b x = wordF (M.bump k b) n x := by
  have hu := W.used k hk
  unfold bumpF wordF
  by_cases e : x / 64 = k
  · rw [e]
    simp only [Int.toNat_natCast]
    rw [show (M.bump k b).S k = { M.S k with n := (M.S k).n + b } from MemS.put_same _ _ _]
    simp only []
    by_cases h : (M.S k).n ≤ x % 64 ∧ x % 64 < (M.S k).n + b
    · rw [if_pos (by exact ⟨trivial, h⟩), if_pos (by exact ⟨by omega, by omega, ht, h.2⟩), W.blank k hk _ (by omega)]
    · rw [if_neg (fun h' => h h'.2)]
      by_cases h2 : x % 64 < (M.S k).n
      · rw [if_pos ⟨by omega, by omega, ht, h2⟩, if_pos ⟨by omega, by omega, ht, by omega⟩]
      · rw [if_neg (fun h' => h2 h'.2.2.2), if_neg (fun h' => by have := h'.2.2.2; omega)]
  · rw [if_neg (fun h => e h.1)]
    by_cases h0 : 0 ≤ x
    · rw [show (M.bump k b).S (x / 64).toNat = M.S (x / 64).toNat from MemS.put_other _ _ _ (by omega)]
    · rw [if_neg (fun h => h0 h.1), if_neg (fun h => h0 h.1)]
theorem wordN_bump {M : MemS} {n c k : Nat} (W : Wf n M c) (hk : k < n) (ht : (M.S k).taken ≠ 0) (b : Nat) : wordN (M.bump k b).S n = wordN M.S n + b := by
  have := wordN_put (S := M.S) hk { M.S k with n := (M.S k).n + b }
  have hu := W.used k hk
  have e1 : usedN (M.S k) = (M.S k).n.toNat := by simp [usedN, ht]
  have e2 : usedN { M.S k with n := (M.S k).n + b } = ((M.S k).n + b).toNat := by simp [usedN, ht]
  have e3 : wordN (M.bump k b).S n = wordN (fun i => if i = k then { M.S k with n := (M.S k).n + b } else M.S i) n := rfl
  rw [e3]
  omega

/-! ### Write -/
theorem wordF_write {M : MemS} {n : Nat} {a : Int} (v : Int) (h : M.hasWord n a) (x : Int) : upd (wordF M n) a (some v) x = wordF (M.write a v) n x := by
  obtain ⟨h0, ⟨t1, t2, t3⟩, h3⟩ := h
  unfold upd wordF
  have hs : (M.write a v).S (a / 64).toNat = (M.S (a / 64).toNat).putWord (a % 64).toNat v := MemS.put_same _ _ _
  by_cases e : x = a
  · subst e
    rw [if_pos rfl, hs, if_pos ⟨h0, t2, t3, h3⟩]
    simp [SegS.putWord]
  · rw [if_neg e]
    by_cases e2 : (x / 64).toNat = (a / 64).toNat
    · rw [e2, hs]
      by_cases hx : 0 ≤ x ∧ x / 64 < n ∧ (M.S (a / 64).toNat).taken ≠ 0 ∧ x % 64 < (M.S (a / 64).toNat).n
      · rw [if_pos hx, if_pos (show 0 ≤ x ∧ x / 64 < n ∧ ((M.S (a / 64).toNat).putWord (a % 64).toNat v).taken ≠ 0 ∧ x % 64 < ((M.S (a / 64).toNat).putWord (a % 64).toNat v).n from hx)]
        simp only [SegS.putWord]
        rw [if_neg (by omega)]
      · rw [if_neg hx, if_neg (show ¬ (0 ≤ x ∧ x / 64 < n ∧ ((M.S (a / 64).toNat).putWord (a % 64).toNat v).taken ≠ 0 ∧ x % 64 < ((M.S (a / 64).toNat).putWord (a % 64).toNat v).n) from hx)]
    · rw [show (M.write a v).S (x / 64).toNat = M.S (x / 64).toNat from MemS.put_other _ _ _ e2]
theorem wordN_write {M : MemS} {n : Nat} {a : Int} (v : Int) (h : M.hasWord n a) : wordN (M.write a v).S n = wordN M.S n := by
  obtain ⟨h0, ⟨t1, t2, t3⟩, h3⟩ := h
  have := wordN_put (S := M.S) (n := n) (k := (a / 64).toNat) (by omega) ((M.S (a / 64).toNat).putWord (a % 64).toNat v)
  have e1 : usedN ((M.S (a / 64).toNat).putWord (a % 64).toNat v) = usedN (M.S (a / 64).toNat) := rfl
  have e3 : wordN (M.write a v).S n = wordN (fun i => if i = (a / 64).toNat then (M.S (a / 64).toNat).putWord (a % 64).toNat v else M.S i) n := rfl
  rw [e3]
  omega

/-! ### the sum over those that Taken tells -/
def sumN (M : MemS) (T : List Nat) : Nat := (T.map fun k => usedN (M.S k)).sum
theorem sumN_take {M : MemS} {T : List Nat} {j : Nat} (hj : j < T.length) : sumN M (T.take (j + 1)) = sumN M (T.take j) + usedN (M.S T[j]) := by
  unfold sumN
  rw [List.take_succ_eq_append_getElem hj, List.map_append, List.sum_append]
  rfl
theorem sumN_flT (M : MemS) (n : Nat) : sumN M (flT M [] n) = wordN M.S n := by
  induction n with
  | zero => rfl
  | succ n ih =>
    rw [flT_succ]
    simp only [wordN]
    rw [← ih]
    by_cases h : (M.S n).taken = 0
    · rw [selB_free h]; simp [usedN, h]
    · rw [selB_all h]; simp [sumN]
theorem sumN_taken {M : MemS} {n : Nat} {T : List Nat} (h : TakenIs M n [] T) : sumN M T = wordN M.S n := by
  rw [← sumN_flT]
  exact (h.perm.map _).sum_nat
theorem sumN_le {M : MemS} {n c : Nat} (W : Wf n M c) : ∀ (T : List Nat), (∀ k, k ∈ T → k < n) → sumN M T ≤ 64 * T.length
  | [], _ => Nat.le_refl _
  | k :: T, h => by
    have := sumN_le W T (fun x hx => h x (by simp [hx]))
    have hu := W.used k (h k (by simp))
    have e : usedN (M.S k) ≤ 64 := by unfold usedN; split <;> omega
    simp only [sumN, List.map_cons, List.sum_cons, List.length_cons] at this ⊢
    omega
end Go.Proofs.Ytoafoodgomnfeaa
