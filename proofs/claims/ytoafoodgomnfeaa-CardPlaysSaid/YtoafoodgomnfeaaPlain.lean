/-
  YtoafoodgomnfeaaPlain: what holds of a memory through all calls, in plain Lean.
-/
import Derived.Test.YtoafoodgomnfeaaAwake
namespace Go.Proofs.Ytoafoodgomnfeaa
set_option linter.unusedVariables false

/-- How many of the first n segments are free. -/
def freeN (S : Nat → SegS) : Nat → Nat
  | 0 => 0
  | n + 1 => freeN S n + if (S n).taken = 0 then 1 else 0

theorem freeN_le (S : Nat → SegS) (n : Nat) : freeN S n ≤ n := by
  induction n with
  | zero => exact Nat.le_refl _
  | succ n ih => simp only [freeN]; split <;> omega

theorem freeN_congr {S T : Nat → SegS} {n : Nat} (h : ∀ j, j < n → ((S j).taken = 0 ↔ (T j).taken = 0)) : freeN S n = freeN T n := by
  induction n with
  | zero => rfl
  | succ n ih =>
    simp only [freeN]
    rw [ih fun j hj => h j (by omega)]
    have := h n (by omega)
    by_cases e : (S n).taken = 0
    · rw [if_pos e, if_pos (this.1 e)]
    · rw [if_neg e, if_neg (fun x => e (this.2 x))]

theorem freeN_pos {S : Nat → SegS} {n : Nat} (h : 0 < freeN S n) : ∃ k, k < n ∧ (S k).taken = 0 ∧ ∀ i, i < k → (S i).taken ≠ 0 := by
  induction n with
  | zero => simp [freeN] at h
  | succ n ih =>
    by_cases h0 : 0 < freeN S n
    · obtain ⟨k, hk, h1, h2⟩ := ih h0
      exact ⟨k, by omega, h1, h2⟩
    · have hz : freeN S n = 0 := by omega
      have hn : (S n).taken = 0 := by
        refine Classical.byContradiction fun e => ?_
        simp only [freeN, hz, if_neg e] at h
        omega
      refine ⟨n, by omega, hn, fun i hi => ?_⟩
      clear ih h h0 hn
      induction n with
      | zero => omega
      | succ n ih2 =>
        simp only [freeN] at hz
        by_cases e : i = n
        · subst e
          intro e'
          rw [if_pos e'] at hz
          omega
        · exact ih2 (by omega) (by omega)

theorem freeN_zero {S : Nat → SegS} {n : Nat} (h : freeN S n = 0) : ∀ i, i < n → (S i).taken ≠ 0 := by
  induction n with
  | zero => intro i hi; omega
  | succ n ih =>
    intro i hi e'
    simp only [freeN] at h
    by_cases e : i = n
    · subst e; rw [if_pos e'] at h; omega
    · exact ih (by omega) i (by omega) e'

/-- One segment is turned from free to taken. -/
theorem freeN_take {S : Nat → SegS} {n k : Nat} (hk : k < n) (h0 : (S k).taken = 0) (s : SegS) (hs : s.taken ≠ 0) : freeN (fun i => if i = k then s else S i) n + 1 = freeN S n := by
  induction n with
  | zero => omega
  | succ n ih =>
    simp only [freeN]
    by_cases e : n = k
    · subst e
      simp only [if_true, if_neg hs, if_pos h0]
      rw [freeN_congr (T := S) (fun j hj => by rw [if_neg (by omega)])]
    · have := ih (by omega)
      simp only [if_neg e]
      omega
theorem freeN_give {S : Nat → SegS} {n k : Nat} (hk : k < n) (h0 : (S k).taken ≠ 0) (s : SegS) (hs : s.taken = 0) : freeN (fun i => if i = k then s else S i) n = freeN S n + 1 := by
  induction n with
  | zero => omega
  | succ n ih =>
    simp only [freeN]
    by_cases e : n = k
    · subst e
      simp only [if_true, if_neg h0, if_pos hs]
      rw [freeN_congr (T := S) (fun j hj => by rw [if_neg (by omega)])]
    · have := ih (by omega)
      simp only [if_neg e]
      omega
theorem freeN_keep {S : Nat → SegS} {n k : Nat} (s : SegS) (hs : s.taken = (S k).taken) : freeN (fun i => if i = k then s else S i) n = freeN S n :=
  freeN_congr fun j hj => by
    by_cases e : j = k
    · subst e; rw [if_pos rfl, hs]
    · rw [if_neg e]
theorem freeN_all {S : Nat → SegS} {n : Nat} (h : ∀ j, j < n → (S j).taken = 0) : freeN S n = n := by
  induction n with
  | zero => rfl
  | succ n ih => simp only [freeN]; rw [ih fun j hj => h j (by omega), if_pos (h n (by omega))]

/-- What holds of a memory behind at most c takes. -/
structure Wf (n : Nat) (M : MemS) (c : Nat) : Prop where
  cnt0 : 0 ≤ M.count
  cnt : M.count ≤ c
  free : M.free = (freeN M.S n : Nat)
  tk : ∀ j, j < n → 0 ≤ (M.S j).taken ∧ (M.S j).taken ≤ M.count
  used : ∀ j, j < n → 0 ≤ (M.S j).n ∧ (M.S j).n ≤ 64
  apart : ∀ i j, i < n → j < n → (M.S i).taken = (M.S j).taken → (M.S i).taken ≠ 0 → i = j
  blank : ∀ j, j < n → ∀ i, (M.S j).n ≤ (i : Nat) → (M.S j).words i = 0
  gen : ∀ j, j < n → 0 ≤ (M.S j).gen ∧ (M.S j).gen ≤ 4

theorem Wf.mono {n : Nat} {M : MemS} {c c' : Nat} (h : Wf n M c) (hc : c ≤ c') : Wf n M c' := ⟨h.cnt0, by have := h.cnt; omega, h.free, h.tk, h.used, h.apart, h.blank, h.gen⟩
theorem Wf.free0 {n : Nat} {M : MemS} {c : Nat} (h : Wf n M c) : 0 ≤ M.free := by rw [h.free]; omega
theorem Wf.free_le {n : Nat} {M : MemS} {c : Nat} (h : Wf n M c) : M.free ≤ n := by rw [h.free]; have := freeN_le M.S n; omega
theorem Wf.made (n : Nat) : Wf n (MemS.made n) 0 :=
  ⟨Int.le_refl _, Int.le_refl _, by rw [freeN_all (fun j _ => rfl)]; rfl, fun _ _ => ⟨Int.le_refl _, Int.le_refl _⟩, fun _ _ => (show (0 : Int) ≤ 0 ∧ (0 : Int) ≤ 64 by omega), fun _ _ _ _ _ h => absurd rfl h, fun _ _ _ _ => rfl, fun _ _ => (show (0 : Int) ≤ 0 ∧ (0 : Int) ≤ 4 by omega)⟩

/-- The memory behind a take. -/
def MemS.take (M : MemS) (k : Nat) (g kd : Int) : MemS := MemS.put { M with count := M.count + 1, free := M.free - 1 } k (fresh g kd (M.count + 1))
def MemS.give (M : MemS) (k : Nat) : MemS := { M.put k SegS.zero with free := M.free + 1 }
def MemS.bump (M : MemS) (k : Nat) (b : Int) : MemS := M.put k { M.S k with n := (M.S k).n + b }

theorem MemS.put_same (M : MemS) (k : Nat) (s : SegS) : (M.put k s).S k = s := by simp [MemS.put]
theorem MemS.put_other (M : MemS) (k : Nat) (s : SegS) {j : Nat} (h : j ≠ k) : (M.put k s).S j = M.S j := by simp [MemS.put, h]

theorem Wf.take {n : Nat} {M : MemS} {c : Nat} (h : Wf n M c) {k : Nat} (hk : k < n) (h0 : (M.S k).taken = 0) {g : Int} (kd : Int) (hg0 : 0 ≤ g) (hg : g ≤ 4) : Wf n (M.take k g kd) (c + 1) := by
  have hc0 := h.cnt0
  have hs : (M.take k g kd).S k = fresh g kd (M.count + 1) := MemS.put_same _ _ _
  have ho : ∀ j, j ≠ k → (M.take k g kd).S j = M.S j := fun j hj => MemS.put_other _ _ _ hj
  have hcount : (M.take k g kd).count = M.count + 1 := rfl
  refine ⟨?_, ?_, ?_, fun j hj => ?_, fun j hj => ?_, fun i j hi hj e he => ?_, fun j hj i hi => ?_, fun j hj => ?_⟩
  · rw [hcount]; omega
  · rw [hcount]; have := h.cnt; omega
  · have := freeN_take hk h0 (fresh g kd (M.count + 1)) (by show M.count + 1 ≠ 0; omega)
    show M.free - 1 = ((freeN (fun i => if i = k then fresh g kd (M.count + 1) else M.S i) n : Nat) : Int)
    rw [h.free]; omega
  · rw [hcount]
    by_cases e : j = k
    · subst e; rw [hs]; show 0 ≤ M.count + 1 ∧ M.count + 1 ≤ M.count + 1; omega
    · rw [ho j e]; have := h.tk j hj; omega
  · by_cases e : j = k
    · subst e; rw [hs]; show (0 : Int) ≤ 0 ∧ (0 : Int) ≤ 64; omega
    · rw [ho j e]; exact h.used j hj
  · by_cases e1 : i = k <;> by_cases e2 : j = k
    · omega
    · subst e1; rw [hs, ho j e2] at e; have := h.tk j hj; simp only [fresh] at e; omega
    · subst e2; rw [hs, ho i e1] at e; have := h.tk i hi; simp only [fresh] at e; omega
    · rw [ho i e1, ho j e2] at e; rw [ho i e1] at he; exact h.apart i j hi hj e he
  · by_cases e : j = k
    · subst e; rw [hs]; rfl
    · rw [ho j e] at hi ⊢; exact h.blank j hj i hi
  · by_cases e : j = k
    · subst e; rw [hs]; exact ⟨hg0, hg⟩
    · rw [ho j e]; exact h.gen j hj

/-- A segment turned that stays taken or free as it was. -/
theorem Wf.put {n : Nat} {M : MemS} {c : Nat} (h : Wf n M c) {k : Nat} (hk : k < n) (s : SegS) (ht : s.taken = (M.S k).taken) (hu0 : 0 ≤ s.n) (hu : s.n ≤ 64) (hb : ∀ i : Nat, s.n ≤ (i : Nat) → s.words i = 0) (hg : s.gen = (M.S k).gen) : Wf n (M.put k s) c := by
  have hs : (M.put k s).S k = s := MemS.put_same _ _ _
  have ho : ∀ j, j ≠ k → (M.put k s).S j = M.S j := fun j hj => MemS.put_other _ _ _ hj
  have htt : ∀ j, ((M.put k s).S j).taken = (M.S j).taken := fun j => by
    by_cases e : j = k
    · subst e; rw [hs, ht]
    · rw [ho j e]
  refine ⟨h.cnt0, h.cnt, ?_, fun j hj => ?_, fun j hj => ?_, fun i j hi hj e he => ?_, fun j hj i hi => ?_, fun j hj => ?_⟩
  · show M.free = _
    rw [h.free, freeN_congr (S := M.S) (T := (M.put k s).S) (fun j _ => by rw [htt])]
  · rw [htt]; exact h.tk j hj
  · by_cases e : j = k
    · subst e; rw [hs]; exact ⟨hu0, hu⟩
    · rw [ho j e]; exact h.used j hj
  · rw [htt, htt] at e; rw [htt] at he; exact h.apart i j hi hj e he
  · by_cases e : j = k
    · subst e; rw [hs] at hi ⊢; exact hb i hi
    · rw [ho j e] at hi ⊢; exact h.blank j hj i hi
  · by_cases e : j = k
    · subst e; rw [hs, hg]; exact h.gen j hj
    · rw [ho j e]; exact h.gen j hj

theorem Wf.bump {n : Nat} {M : MemS} {c : Nat} (h : Wf n M c) {k : Nat} (hk : k < n) {b : Int} (hb : 0 ≤ b) (hb2 : b ≤ 64 - (M.S k).n) : Wf n (M.bump k b) c := by
  have hu := h.used k hk
  exact h.put hk _ rfl (by show 0 ≤ (M.S k).n + b; omega) (by show (M.S k).n + b ≤ 64; omega) (fun i hi => h.blank k hk i (by have : (M.S k).n + b ≤ i := hi; omega)) rfl

theorem Wf.give {n : Nat} {M : MemS} {c : Nat} (h : Wf n M c) {k : Nat} (hk : k < n) (h0 : (M.S k).taken ≠ 0) : Wf n (M.give k) c := by
  have hs : (M.give k).S k = SegS.zero := MemS.put_same _ _ _
  have ho : ∀ j, j ≠ k → (M.give k).S j = M.S j := fun j hj => MemS.put_other _ _ _ hj
  have hcount : (M.give k).count = M.count := rfl
  have hc0 := h.cnt0
  refine ⟨h.cnt0, h.cnt, ?_, fun j hj => ?_, fun j hj => ?_, fun i j hi hj e he => ?_, fun j hj i hi => ?_, fun j hj => ?_⟩
  · have := freeN_give hk h0 SegS.zero rfl
    show M.free + 1 = ((freeN (fun i => if i = k then SegS.zero else M.S i) n : Nat) : Int)
    rw [h.free]; omega
  · rw [hcount]
    by_cases e : j = k
    · subst e; rw [hs]; show (0 : Int) ≤ 0 ∧ 0 ≤ M.count; omega
    · rw [ho j e]; exact h.tk j hj
  · by_cases e : j = k
    · subst e; rw [hs]; show (0 : Int) ≤ 0 ∧ (0 : Int) ≤ 64; omega
    · rw [ho j e]; exact h.used j hj
  · by_cases e1 : i = k <;> by_cases e2 : j = k
    · omega
    · subst e1; rw [hs] at he; exact absurd rfl he
    · subst e2; rw [hs, ho i e1] at e; rw [ho i e1] at he; exact absurd e he
    · rw [ho i e1, ho j e2] at e; rw [ho i e1] at he; exact h.apart i j hi hj e he
  · by_cases e : j = k
    · subst e; rw [hs]; rfl
    · rw [ho j e] at hi ⊢; exact h.blank j hj i hi
  · by_cases e : j = k
    · subst e; rw [hs]; show (0 : Int) ≤ 0 ∧ (0 : Int) ≤ 4; omega
    · rw [ho j e]; exact h.gen j hj

end Go.Proofs.Ytoafoodgomnfeaa
