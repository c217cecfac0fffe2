/-
  YtoafoodgomnfeaaBoth: the program's memory and the document's side by side, each call of either in one contract.
-/
import Derived.Test.YtoafoodgomnfeaaReff
import Derived.Test.YtoafoodgomnfeaaAny
namespace Go.Proofs.Ytoafoodgomnfeaa
open Go.RowKit
set_option linter.unusedVariables false

/-- What turned is none of X. -/
def OffX (X : List Nat) (w w' : World) : Prop := ∃ L, Off L w w' ∧ ∀ b, b ∈ L → b ∉ X
theorem OffX.refl (X : List Nat) (w : World) : OffX X w w := ⟨[], Off.refl _ _, fun b hb => by simp at hb⟩
theorem OffX.of {X L : List Nat} {w w' : World} (O : Off L w w') (h : ∀ b, b ∈ L → b ∉ X) : OffX X w w' := ⟨L, O, h⟩
theorem OffX.trans {X : List Nat} {w w' w'' : World} (h : OffX X w w') (h' : OffX X w' w'') : OffX X w w'' := by
  obtain ⟨L, O, hL⟩ := h
  obtain ⟨L', O', hL'⟩ := h'
  exact ⟨L ++ L', (O.mono (fun k hk => List.mem_append_left _ hk)).trans (O'.mono (fun k hk => List.mem_append_right _ hk)), fun b hb => by rw [List.mem_append] at hb; exact hb.elim (hL b) (hL' b)⟩
theorem OffX.cell {X : List Nat} {w w' : World} (h : OffX X w w') {p : Addr} {v : Value} (hv : w.cell? p = some v) (hp : p.block ∈ X) : w'.cell? p = some v := by
  obtain ⟨L, O, hL⟩ := h
  exact O.cell hv (fun hm => hL _ hm hp)
theorem OffX.size {X : List Nat} {w w' : World} (h : OffX X w w') : w.heap.size ≤ w'.heap.size := by
  obtain ⟨L, O, _⟩ := h
  exact O.size
theorem OffX.mono {X Y : List Nat} {w w' : World} (h : OffX X w w') (hY : ∀ b, b ∈ Y → b ∈ X) : OffX Y w w' := by
  obtain ⟨L, O, hL⟩ := h
  exact ⟨L, O, fun b hb hm => hL b hb (hY b hm)⟩
theorem OffX.drew {X : List Nat} {w w' : World} (h : OffX X w w') : OffX X w w'.drew := by
  obtain ⟨L, O, hL⟩ := h
  exact ⟨L, O.drew, hL⟩
theorem OffX.drewN {X : List Nat} {w w' : World} (h : OffX X w w') (n : Nat) : OffX X w (w'.drewN n) := by
  obtain ⟨L, O, hL⟩ := h
  exact ⟨L, O.drewN n, hL⟩
theorem OffX.alloc {X : List Nat} {w w' : World} (h : OffX X w w') (o : Obj) : OffX X w (w'.alloc o) := by
  obtain ⟨L, O, hL⟩ := h
  exact ⟨L, O.alloc o, hL⟩

/-- The program's memory stands for M, the document's for R; X are blocks of neither. -/
structure BothAt (w : World) (mb sb rb n : Nat) (M R : MemS) (c : Nat) (X : List Nat) : Prop where
  mem : MemAt w mb sb n M
  wf : Wf n M c
  wfr : Wf n R c
  ref : ∃ T V v, RefAt w rb n R T V v ∧ TakenIs R n [] T ∧ ∀ b, RefOwn rb T V v b → b ≠ mb ∧ b ≠ sb ∧ b ∉ X
  x : ∀ b, b ∈ X → b ≠ mb ∧ b ≠ sb ∧ b < w.heap.size
  n0 : 0 < n
  n1 : n ≤ 1024

theorem BothAt.more {w : World} {mb sb rb n c : Nat} {M R : MemS} {X : List Nat} (h : BothAt w mb sb rb n M R c X) {c' : Nat} (hc : c ≤ c') : BothAt w mb sb rb n M R c' X :=
  ⟨h.mem, h.wf.mono hc, h.wfr.mono hc, h.ref, h.x, h.n0, h.n1⟩
/-- The program's memory has turned. -/
theorem BothAt.step {w w' : World} {mb sb rb n c c' : Nat} {M R M' : MemS} {X : List Nat} (h : BothAt w mb sb rb n M R c X) (hM : MemAt w' mb sb n M') (hW : Wf n M' c') (hc : c ≤ c') (O : Off [mb, sb] w w') : BothAt w' mb sb rb n M' R c' X ∧ OffX X w w' := by
  obtain ⟨T, V, v, h1, h2, h3⟩ := h.ref
  refine ⟨⟨hM, hW, h.wfr.mono hc, ⟨T, V, v, h1.off O (fun b hb hm => ?_), h2, h3⟩, fun b hb => ⟨(h.x b hb).1, (h.x b hb).2.1, Nat.lt_of_lt_of_le (h.x b hb).2.2 O.size⟩, h.n0, h.n1⟩, ⟨_, O, fun b hb hm => ?_⟩⟩
  · simp at hm; have := h3 b hb; omega
  · simp at hb; have := h.x b hm; omega
/-- Nothing of the two has turned. -/
theorem BothAt.off {w w' : World} {mb sb rb n c : Nat} {M R : MemS} {X : List Nat} (h : BothAt w mb sb rb n M R c X) (O : Off [] w w') : BothAt w' mb sb rb n M R c X := by
  obtain ⟨T, V, v, h1, h2, h3⟩ := h.ref
  exact ⟨h.mem.off h.n0 O (by simp) (by simp), h.wf, h.wfr, ⟨T, V, v, h1.off O (by simp), h2, h3⟩, fun b hb => ⟨(h.x b hb).1, (h.x b hb).2.1, Nat.lt_of_lt_of_le (h.x b hb).2.2 O.size⟩, h.n0, h.n1⟩
theorem BothAt.drew {w : World} {mb sb rb n c : Nat} {M R : MemS} {X : List Nat} (h : BothAt w mb sb rb n M R c X) : BothAt w.drew mb sb rb n M R c X := h.off (Off.refl _ _).drew
theorem BothAt.offX {w w' : World} {X : List Nat} (O : Off [] w w') : OffX X w w' := ⟨[], O, fun b hb => by simp at hb⟩
/-- A new block is of neither. -/
theorem BothAt.push {w : World} {mb sb rb n c : Nat} {M R : MemS} {X : List Nat} (h : BothAt w mb sb rb n M R c X) {b : Nat} (hb : b < w.heap.size) (h1 : b ≠ mb) (h2 : b ≠ sb) (h3 : ∀ T V v, RefAt w rb n R T V v → ¬ RefOwn rb T V v b) : BothAt w mb sb rb n M R c (b :: X) := by
  obtain ⟨T, V, v, r1, r2, r3⟩ := h.ref
  refine ⟨h.mem, h.wf, h.wfr, ⟨T, V, v, r1, r2, fun q hq => ⟨(r3 q hq).1, (r3 q hq).2.1, fun hm => ?_⟩⟩, fun q hq => ?_, h.n0, h.n1⟩
  · simp only [List.mem_cons] at hm
    rcases hm with rfl | hm
    · exact h3 T V v r1 hq
    · exact (r3 q hq).2.2 hm
  · simp only [List.mem_cons] at hq
    rcases hq with rfl | hq
    · exact ⟨h1, h2, hb⟩
    · exact h.x q hq
theorem BothAt.alloc {w : World} {mb sb rb n c : Nat} {M R : MemS} {X : List Nat} (h : BothAt w mb sb rb n M R c X) (o : Obj) : BothAt (w.alloc o) mb sb rb n M R c (w.heap.size :: X) := by
  obtain ⟨T, V, v, r1, r2, r3⟩ := h.ref
  have O := (Off.refl [] w).alloc o
  have m1 := h.mem.mb_lt
  have m2 := h.mem.sb_lt h.n0
  refine ⟨h.mem.off h.n0 O (by simp) (by simp), h.wf, h.wfr, ⟨T, V, v, r1.off O (by simp), r2, fun q hq => ⟨(r3 q hq).1, (r3 q hq).2.1, fun hm => ?_⟩⟩, fun q hq => ?_, h.n0, h.n1⟩
  · have := r1.lt hq
    simp only [List.mem_cons] at hm
    rcases hm with e | hm
    · omega
    · exact (r3 q hq).2.2 hm
  · simp only [List.mem_cons] at hq
    rcases hq with rfl | hq
    · exact ⟨by omega, by omega, by simp⟩
    · exact ⟨(h.x q hq).1, (h.x q hq).2.1, Nat.lt_of_lt_of_le (h.x q hq).2.2 O.size⟩
theorem BothAt.less {w : World} {mb sb rb n c : Nat} {M R : MemS} {X Y : List Nat} (h : BothAt w mb sb rb n M R c X) (hY : ∀ b, b ∈ Y → b ∈ X) : BothAt w mb sb rb n M R c Y := by
  obtain ⟨T, V, v, r1, r2, r3⟩ := h.ref
  exact ⟨h.mem, h.wf, h.wfr, ⟨T, V, v, r1, r2, fun q hq => ⟨(r3 q hq).1, (r3 q hq).2.1, fun hm => (r3 q hq).2.2 (hY q hm)⟩⟩, fun q hq => h.x q (hY q hq), h.n0, h.n1⟩
/-- The document's memory has turned. -/
theorem BothAt.rstep {w w' : World} {mb sb rb n c c' : Nat} {M R R' : MemS} {X : List Nat} {T : List Nat} {V : Nat → Value} {v : Value} (h : BothAt w mb sb rb n M R c X) (h1 : RefAt w rb n R T V v) (h3 : ∀ b, RefOwn rb T V v b → b ≠ mb ∧ b ≠ sb ∧ b ∉ X)
    (hR : RefTo rb n R' T V v w w') (hW : Wf n R' c') (hc : c ≤ c') : BothAt w' mb sb rb n M R' c' X ∧ OffX X w w' := by
  obtain ⟨T', V', v', r1, r2, ⟨L, O, hL⟩, r4⟩ := hR
  have m1 := h.mem.mb_lt
  have m2 := h.mem.sb_lt h.n0
  refine ⟨⟨h.mem.off h.n0 O (fun hm => (h3 _ (hL _ hm)).1 rfl) (fun hm => (h3 _ (hL _ hm)).2.1 rfl), h.wf.mono hc, hW, ⟨T', V', v', r1, r2, fun b hb => ?_⟩, fun b hb => ⟨(h.x b hb).1, (h.x b hb).2.1, Nat.lt_of_lt_of_le (h.x b hb).2.2 O.size⟩, h.n0, h.n1⟩, ⟨L, O, fun b hb => (h3 b (hL b hb)).2.2⟩⟩
  rcases r4 b hb with h' | h'
  · exact h3 b h'
  · exact ⟨by omega, by omega, fun hm => by have := (h.x b hm).2.2; omega⟩

/-! ### The relations: what they make keeps its form; there is but one answer -/
theorem TakeIs.wf {n c : Nat} {M M' : MemS} {a b r s : Int} (W : Wf n M c) (h : TakeIs n M a b r s M') : Wf n M' (c + 1) := by
  rcases h with ⟨_, k, _, hk, h0, _, a1, a2, _, _, rfl⟩ | ⟨_, _, rfl, _⟩ | ⟨_, _, rfl, _⟩
  · exact W.take hk h0 b a1 a2
  · exact W.mono (by omega)
  · exact W.mono (by omega)
theorem GiveIs.wf {n c : Nat} {M M' : MemS} {a s : Int} (W : Wf n M c) (h : GiveIs n M a s M') : Wf n M' c := by
  rcases h with ⟨_, ⟨t1, t2, t3⟩, rfl⟩ | ⟨_, _, rfl⟩
  · exact W.give (by omega) t3
  · exact W
theorem BumpIs.wf {n c : Nat} {M M' : MemS} {a b r s : Int} (W : Wf n M c) (h : BumpIs n M a b r s M') : Wf n M' c := by
  rcases h with ⟨_, ⟨t1, t2, t3⟩, b1, b2, _, rfl⟩ | ⟨_, _, _, rfl⟩ | ⟨_, _, _, _, rfl⟩ | ⟨_, _, _, _, _, rfl⟩
  · exact W.bump (by omega) (by omega) (by omega)
  · exact W
  · exact W
  · exact W
theorem WriteIs.wf {n c : Nat} {M M' : MemS} {a v s : Int} (W : Wf n M c) (h : WriteIs n M a v s M') : Wf n M' c := by
  rcases h with ⟨_, hw, rfl⟩ | ⟨_, _, rfl⟩
  · exact W.write v hw
  · exact W
theorem MarkIs.wf {n cc : Nat} {M M' : MemS} {a c m s : Int} (W : Wf n M cc) (h : MarkIs n M a c m s M') : Wf n M' cc := by
  rcases h with ⟨_, ⟨t1, t2, t3⟩, _, _, _, _, rfl⟩ | ⟨_, _, rfl⟩ | ⟨_, _, _, rfl⟩
  · have hk : a.toNat < n := by omega
    have hu := W.used _ hk
    exact W.put hk _ rfl hu.1 hu.2 (fun i hi => W.blank _ hk i hi) rfl
  · exact W
  · exact W
theorem GiveIs.ex (n : Nat) (M : MemS) (a : Int) : ∃ s M', GiveIs n M a s M' := by
  by_cases h : M.isTaken n a
  · exact ⟨0, _, .inl ⟨rfl, h, rfl⟩⟩
  · exact ⟨19, _, .inr ⟨rfl, h, rfl⟩⟩
theorem GiveIs.one {n : Nat} {M M1 M2 : MemS} {a s1 s2 : Int} (h1 : GiveIs n M a s1 M1) (h2 : GiveIs n M a s2 M2) : s1 = s2 ∧ M1 = M2 := by
  rcases h1 with ⟨rfl, p1, rfl⟩ | ⟨rfl, p1, rfl⟩ <;> rcases h2 with ⟨rfl, p2, rfl⟩ | ⟨rfl, p2, rfl⟩ <;> first | exact ⟨rfl, rfl⟩ | contradiction
theorem WriteIs.ex (n : Nat) (M : MemS) (a v : Int) : ∃ s M', WriteIs n M a v s M' := by
  by_cases h : M.hasWord n a
  · exact ⟨0, _, .inl ⟨rfl, h, rfl⟩⟩
  · exact ⟨18, _, .inr ⟨rfl, h, rfl⟩⟩
theorem WriteIs.one {n : Nat} {M M1 M2 : MemS} {a v s1 s2 : Int} (h1 : WriteIs n M a v s1 M1) (h2 : WriteIs n M a v s2 M2) : s1 = s2 ∧ M1 = M2 := by
  rcases h1 with ⟨rfl, p1, rfl⟩ | ⟨rfl, p1, rfl⟩ <;> rcases h2 with ⟨rfl, p2, rfl⟩ | ⟨rfl, p2, rfl⟩ <;> first | exact ⟨rfl, rfl⟩ | contradiction
theorem MarkIs.ex (n : Nat) (M : MemS) (a c m : Int) : ∃ s M', MarkIs n M a c m s M' := by
  by_cases h : M.isTaken n a
  · by_cases hb : c < 0 ∨ 4 ≤ c ∨ m < 0 ∨ 5 < m
    · exact ⟨1, _, .inr (.inr ⟨rfl, h, hb, rfl⟩)⟩
    · exact ⟨0, _, .inl ⟨rfl, h, by omega, by omega, by omega, by omega, rfl⟩⟩
  · exact ⟨19, _, .inr (.inl ⟨rfl, h, rfl⟩)⟩
theorem MarkIs.one {n : Nat} {M M1 M2 : MemS} {a c m s1 s2 : Int} (h1 : MarkIs n M a c m s1 M1) (h2 : MarkIs n M a c m s2 M2) : s1 = s2 ∧ M1 = M2 := by
  rcases h1 with ⟨rfl, p1, q1, q2, q3, q4, rfl⟩ | ⟨rfl, p1, rfl⟩ | ⟨rfl, p1, q1, rfl⟩ <;> rcases h2 with ⟨rfl, p2, r1, r2, r3, r4, rfl⟩ | ⟨rfl, p2, rfl⟩ | ⟨rfl, p2, r1, rfl⟩ <;> first | exact ⟨rfl, rfl⟩ | contradiction | (exfalso; omega)
theorem ReadIs.one {n : Nat} {M : MemS} {a v1 v2 s1 s2 : Int} (h1 : ReadIs n M a v1 s1) (h2 : ReadIs n M a v2 s2) : s1 = s2 ∧ v1 = v2 := by
  rcases h1 with ⟨rfl, p1, rfl⟩ | ⟨rfl, p1, rfl⟩ <;> rcases h2 with ⟨rfl, p2, rfl⟩ | ⟨rfl, p2, rfl⟩ <;> first | exact ⟨rfl, rfl⟩ | contradiction

/-- What has no hand in what is taken. -/
theorem TakenIs.put_of {n : Nat} {M M' : MemS} {T : List Nat} (hT : TakenIs M n [] T) (h : ∀ k, (M'.S k).taken = (M.S k).taken) : TakenIs M' n [] T := by
  refine ⟨fun x => ?_, ?_⟩
  · rw [hT.mem]; simp [selB, h]
  · simpa [h] using hT.ord

section
variable {w : World} {mb sb rb n c : Nat} {M R : MemS} {X : List Nat} (h : BothAt w mb sb rb n M R c X)
include h

theorem BothAt.ptake (hc : c ≤ 1000000) (a b : Int) :
    Calls Try.prog 16 #[.pointer (some ⟨mb, 0, none⟩), .int .i64 a, .int .i64 b] w fun e w' => ∃ r s M', e = .returned (.tuple #[.int .i64 r, .int .i64 s]) ∧ TakeIs n M a b r s M' ∧ BothAt w' mb sb rb n M' R (c + 1) X ∧ OffX X w w' := by
  refine (take_all h.mem h.wf h.n0 h.n1 hc a b).mono ?_
  rintro e w' ⟨r, s, M', e1, h1, h2, h3, O⟩
  exact ⟨r, s, M', e1, h1, h.step h2 h3 (by omega) O⟩
theorem BothAt.pgive (a : Int) {s : Int} {M' : MemS} (hG : GiveIs n M a s M') :
    Calls Try.prog 18 #[.pointer (some ⟨mb, 0, none⟩), .int .i64 a] w fun e w' => e = .returned (.int .i64 s) ∧ BothAt w' mb sb rb n M' R c X ∧ OffX X w w' := by
  refine (give_all h.mem h.wf h.n0 h.n1 a).mono ?_
  rintro e w' ⟨s, M', e1, h1, h2, h3, O⟩
  obtain ⟨rfl, rfl⟩ := hG.one h1
  exact ⟨e1, h.step h2 h3 (by omega) O⟩
theorem BothAt.pbump (a b : Int) :
    Calls Try.prog 19 #[.pointer (some ⟨mb, 0, none⟩), .int .i64 a, .int .i64 b] w fun e w' => ∃ r s M', e = .returned (.tuple #[.int .i64 r, .int .i64 s]) ∧ BumpIs n M a b r s M' ∧ BothAt w' mb sb rb n M' R c X ∧ OffX X w w' := by
  refine (bump_all h.mem h.wf h.n1 a b).mono ?_
  rintro e w' ⟨r, s, M', e1, h1, h2, h3, O⟩
  exact ⟨r, s, M', e1, h1, h.step h2 h3 (by omega) O⟩
theorem BothAt.pwrite (a v : Int) (ha : a ≤ 9223372036854775807) {s : Int} {M' : MemS} (hG : WriteIs n M a v s M') :
    Calls Try.prog 20 #[.pointer (some ⟨mb, 0, none⟩), .int .i64 a, .int .u64 v] w fun e w' => e = .returned (.int .i64 s) ∧ BothAt w' mb sb rb n M' R c X ∧ OffX X w w' := by
  refine (write_all h.mem h.wf h.n1 a v ha).mono ?_
  rintro e w' ⟨s, M', e1, h1, h2, h3, O⟩
  obtain ⟨rfl, rfl⟩ := hG.one h1
  exact ⟨e1, h.step h2 h3 (by omega) O⟩
theorem BothAt.pmark (a k m : Int) {s : Int} {M' : MemS} (hG : MarkIs n M a k m s M') :
    Calls Try.prog 28 #[.pointer (some ⟨mb, 0, none⟩), .int .i64 a, .int .i64 k, .int .i64 m] w fun e w' => e = .returned (.int .i64 s) ∧ BothAt w' mb sb rb n M' R c X ∧ OffX X w w' := by
  refine (mark_all h.mem h.wf h.n1 a k m).mono ?_
  rintro e w' ⟨s, M', e1, h1, h2, h3, O⟩
  obtain ⟨rfl, rfl⟩ := hG.one h1
  exact ⟨e1, h.step h2 h3 (by omega) O⟩

theorem BothAt.dtake (a b : Int) {r s : Int} {R' : MemS} (hG : TakeIs n R a b r s R') :
    Calls Try.prog 63 #[.pointer (some ⟨rb, 0, none⟩), .int .i64 a, .int .i64 b] w fun e w' => e = .returned (.tuple #[.int .i64 r, .int .i64 s]) ∧ BothAt w' mb sb rb n M R' (c + 1) X ∧ OffX X w w' := by
  obtain ⟨T, V, v, h1, h2, h3⟩ := h.ref
  refine (rtake_all h1 h.wfr h2 h.n0 h.n1 a b hG).mono ?_
  rintro e w' ⟨e1, hR⟩
  exact ⟨e1, h.rstep h1 h3 hR (hG.wf h.wfr) (by omega)⟩
theorem BothAt.dgive (a : Int) {s : Int} {R' : MemS} (hG : GiveIs n R a s R') :
    Calls Try.prog 64 #[.pointer (some ⟨rb, 0, none⟩), .int .i64 a] w fun e w' => e = .returned (.int .i64 s) ∧ BothAt w' mb sb rb n M R' c X ∧ OffX X w w' := by
  obtain ⟨T, V, v, h1, h2, h3⟩ := h.ref
  refine (rgive_all h1 h.wfr h2 h.n1 a hG).mono ?_
  rintro e w' ⟨e1, hR⟩
  exact ⟨e1, h.rstep h1 h3 hR (hG.wf h.wfr) (by omega)⟩
theorem BothAt.dbump (a b : Int) {r s : Int} {R' : MemS} (hG : BumpIs n R a b r s R') :
    Calls Try.prog 65 #[.pointer (some ⟨rb, 0, none⟩), .int .i64 a, .int .i64 b] w fun e w' => e = .returned (.tuple #[.int .i64 r, .int .i64 s]) ∧ BothAt w' mb sb rb n M R' c X ∧ OffX X w w' := by
  obtain ⟨T, V, v, h1, h2, h3⟩ := h.ref
  refine (rbump_all h1 h.wfr h2 h.n1 a b hG).mono ?_
  rintro e w' ⟨e1, hR⟩
  exact ⟨e1, h.rstep h1 h3 hR (hG.wf h.wfr) (by omega)⟩
theorem BothAt.dwrite (a x : Int) (ha : a ≤ 9223372036854775807) {s : Int} {R' : MemS} (hG : WriteIs n R a x s R') :
    Calls Try.prog 66 #[.pointer (some ⟨rb, 0, none⟩), .int .i64 a, .int .u64 x] w fun e w' => e = .returned (.int .i64 s) ∧ BothAt w' mb sb rb n M R' c X ∧ OffX X w w' := by
  obtain ⟨T, V, v, h1, h2, h3⟩ := h.ref
  refine (rwrite_all h1 h2 h.n1 h.wfr.used a ha hG).mono ?_
  rintro e w' ⟨e1, hR, hF⟩
  refine ⟨e1, h.rstep h1 h3 ⟨T, V, v, hR, ?_, hF, fun b hb => .inl hb⟩ (hG.wf h.wfr) (by omega)⟩
  rcases hG with ⟨_, hw, rfl⟩ | ⟨_, _, rfl⟩
  · exact h2.put_of (fun k => by unfold MemS.write; by_cases e : k = (a / 64).toNat; (subst e; rw [MemS.put_same]; rfl); (rw [MemS.put_other _ _ _ e]))
  · exact h2
theorem BothAt.dmark (a k m : Int) {s : Int} {R' : MemS} (hG : MarkIs n R a k m s R') :
    Calls Try.prog 68 #[.pointer (some ⟨rb, 0, none⟩), .int .i64 a, .int .i64 k, .int .i64 m] w fun e w' => e = .returned (.int .i64 s) ∧ BothAt w' mb sb rb n M R' c X ∧ OffX X w w' := by
  obtain ⟨T, V, v, h1, h2, h3⟩ := h.ref
  refine (rmark_all h1 h2 h.n1 a k m hG).mono ?_
  rintro e w' ⟨e1, hR, hF⟩
  refine ⟨e1, h.rstep h1 h3 ⟨T, V, v, hR, ?_, hF, fun b hb => .inl hb⟩ (hG.wf h.wfr) (by omega)⟩
  rcases hG with ⟨_, hw, _, _, _, _, rfl⟩ | ⟨_, _, rfl⟩ | ⟨_, _, _, rfl⟩
  · exact h2.put_of (fun q => by unfold MemS.mark; by_cases e : q = a.toNat; (subst e; rw [MemS.put_same]; rfl); (rw [MemS.put_other _ _ _ e]))
  · exact h2
  · exact h2
theorem BothAt.dread (a : Int) (ha : a ≤ 9223372036854775807) {x s : Int} (hG : ReadIs n R a x s) :
    Calls Try.prog 67 #[.pointer (some ⟨rb, 0, none⟩), .int .i64 a] w fun e w' => e = .returned (.tuple #[.int .u64 x, .int .i64 s]) ∧ w = w' := by
  obtain ⟨T, V, v, h1, h2, h3⟩ := h.ref
  exact rread_all h1 h2 h.n1 h.wfr.used a ha hG
end
end Go.Proofs.Ytoafoodgomnfeaa
