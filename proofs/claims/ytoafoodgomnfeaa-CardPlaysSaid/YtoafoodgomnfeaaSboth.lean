/-
  YtoafoodgomnfeaaSboth: the program's space and the document's side by side.
-/
import Derived.Test.YtoafoodgomnfeaaPlays
namespace Go.Proofs.Ytoafoodgomnfeaa
open Go.RowKit
set_option linter.unusedVariables false

/-- What is current is taken, of its own generation and kind. -/
def CurOk (n : Nat) (M : MemS) (C : Nat → Int) : Prop :=
  ∀ i, i < 20 → C i = 0 ∨ ∃ k : Nat, C i = (k : Int) + 1 ∧ k < n ∧ (M.S k).taken ≠ 0 ∧ 0 ≤ (M.S k).gen ∧ 0 ≤ (M.S k).kind ∧ (M.S k).kind < 4 ∧ (M.S k).gen * 4 + (M.S k).kind = (i : Int)
theorem CurOk.ran {n : Nat} {M : MemS} {C : Nat → Int} (h : CurOk n M C) : ∀ i, i < 20 → 0 ≤ C i ∧ C i ≤ n := fun i hi => by
  rcases h i hi with e | ⟨k, e, hk, _⟩ <;> omega
theorem CurOk.keep {n : Nat} {M M' : MemS} {C : Nat → Int} (h : CurOk n M C) (hs : ∀ k, k < n → (M.S k).taken ≠ 0 → (M'.S k).taken ≠ 0 ∧ (M'.S k).gen = (M.S k).gen ∧ (M'.S k).kind = (M.S k).kind) : CurOk n M' C := fun i hi => by
  rcases h i hi with e | ⟨k, e, hk, ht, h1, h2, h3, h4⟩
  · exact .inl e
  · obtain ⟨a, b, c⟩ := hs k hk ht
    exact .inr ⟨k, e, hk, a, by omega, by omega, by omega, by omega⟩
theorem CurOk.put {n : Nat} {M : MemS} {C : Nat → Int} (h : CurOk n M C) (k : Nat) (s : SegS) (ht : (M.S k).taken ≠ 0 → s.taken ≠ 0 ∧ s.gen = (M.S k).gen ∧ s.kind = (M.S k).kind) : CurOk n (M.put k s) C := h.keep fun j hj h0 => by
  by_cases e : j = k
  · subst e; rw [MemS.put_same]; exact ht h0
  · rw [MemS.put_other _ _ _ e]; exact ⟨h0, rfl, rfl⟩
theorem CurOk.bump {n : Nat} {M : MemS} {C : Nat → Int} (h : CurOk n M C) (k : Nat) (b : Int) : CurOk n (M.bump k b) C := h.put k _ fun h0 => ⟨h0, rfl, rfl⟩
theorem CurOk.write {n : Nat} {M : MemS} {C : Nat → Int} (h : CurOk n M C) (a v : Int) : CurOk n (M.write a v) C := h.put _ _ fun h0 => ⟨h0, rfl, rfl⟩
theorem CurOk.mark {n : Nat} {M : MemS} {C : Nat → Int} (h : CurOk n M C) (a c m : Int) : CurOk n (M.mark a c m) C := h.put _ _ fun h0 => ⟨h0, rfl, rfl⟩
/-- A free one is taken, and is current from then on. -/
theorem CurOk.take {n : Nat} {M : MemS} {C : Nat → Int} (h : CurOk n M C) {q : Nat} (hq : q < n) (h0 : (M.S q).taken = 0) (hc : 0 ≤ M.count) {g k : Nat} (hg : g < 5) (hk : k < 4) : CurOk n (M.take q g k) (putC C (g * 4 + k) (q + 1)) := fun i hi => by
  have hs : (M.take q g k).S q = fresh g k (M.count + 1) := MemS.put_same _ _ _
  unfold putC
  by_cases e : i = g * 4 + k
  · rw [if_pos e]
    refine .inr ⟨q, rfl, hq, ?_, ?_, ?_, ?_, ?_⟩ <;> rw [hs] <;> simp only [fresh] <;> omega
  · rw [if_neg e]
    rcases h i hi with e' | ⟨j, e', hj, ht, h1, h2, h3, h4⟩
    · exact .inl e'
    · have hne : j ≠ q := fun hh => ht (hh ▸ h0)
      have : (M.take q g k).S j = M.S j := MemS.put_other _ _ _ hne
      exact .inr ⟨j, e', hj, by rw [this]; exact ht, by rw [this]; exact h1, by rw [this]; exact h2, by rw [this]; exact h3, by rw [this]; exact h4⟩
def clearC (C : Nat → Int) (v : Int) : Nat → Int := fun i => if C i = v then 0 else C i
theorem CurOk.give {n : Nat} {M : MemS} {C : Nat → Int} (h : CurOk n M C) {x : Int} (hx : 0 ≤ x) : CurOk n (M.give x.toNat) (clearC C (x + 1)) := fun i hi => by
  unfold clearC
  by_cases e : C i = x + 1
  · rw [if_pos e]; exact .inl rfl
  · rw [if_neg e]
    rcases h i hi with e' | ⟨j, e', hj, ht, h1, h2, h3, h4⟩
    · exact .inl e'
    · have hne : j ≠ x.toNat := fun hh => by omega
      have : (M.give x.toNat).S j = M.S j := MemS.put_other _ _ _ hne
      exact .inr ⟨j, e', hj, by rw [this]; exact ht, by rw [this]; exact h1, by rw [this]; exact h2, by rw [this]; exact h3, by rw [this]; exact h4⟩
def freshC (C : Nat → Int) (G : List Int) : Nat → Int := fun i => if G = [] ∨ ((i / 4 : Nat) : Int) ∈ G then 0 else C i
theorem CurOk.fresh {n : Nat} {M : MemS} {C : Nat → Int} (h : CurOk n M C) (G : List Int) : CurOk n M (freshC C G) := fun i hi => by
  unfold freshC
  split
  · exact .inl rfl
  · exact h i hi
theorem CurOk.none (n : Nat) (M : MemS) : CurOk n M (fun _ => 0) := fun i hi => .inl rfl
theorem CurOk.congr {n : Nat} {M : MemS} {C C' : Nat → Int} (h : CurOk n M C) (e : ∀ i, i < 20 → C' i = C i) : CurOk n M C' := fun i hi => by rw [e i hi]; exact h i hi
theorem CurOk.recap {n : Nat} {M : MemS} {C : Nat → Int} (h : CurOk n M C) (cap : Nat) : CurOk n { M with cap := cap } C := h

theorem BothAt.stepL {w w' : World} {mb sb rb n c c' : Nat} {M R M' : MemS} {X L : List Nat} (h : BothAt w mb sb rb n M R c X) (hM : MemAt w' mb sb n M') (hW : Wf n M' c') (hc : c ≤ c') (O : Off L w w') (hL : ∀ b, b ∈ L → b = mb ∨ b = sb ∨ b ∈ X) : BothAt w' mb sb rb n M' R c' X := by
  obtain ⟨T, V, v, h1, h2, h3⟩ := h.ref
  refine ⟨hM, hW, h.wfr.mono hc, ⟨T, V, v, h1.off O (fun b hb hm => ?_), h2, h3⟩, fun b hb => ⟨(h.x b hb).1, (h.x b hb).2.1, Nat.lt_of_lt_of_le (h.x b hb).2.2 O.size⟩, h.n0, h.n1⟩
  have a := h3 b hb
  rcases hL b hm with e | e | e
  · exact a.1 e
  · exact a.2.1 e
  · exact a.2.2 e
/-- Only blocks of neither have turned. -/
theorem BothAt.other {w w' : World} {mb sb rb n c : Nat} {M R : MemS} {X L : List Nat} (h : BothAt w mb sb rb n M R c X) (O : Off L w w') (hL : ∀ b, b ∈ L → b ∈ X) : BothAt w' mb sb rb n M R c X :=
  h.stepL (h.mem.off h.n0 O (fun hm => (h.x _ (hL _ hm)).1 rfl) (fun hm => (h.x _ (hL _ hm)).2.1 rfl)) h.wf (Nat.le_refl _) O (fun b hb => .inr (.inr (hL b hb)))

/-- The program's space stands for M, C; the document's for R, D; X are blocks of neither. -/
structure SBoth (w : World) (pb mb sb qb rb n : Nat) (M R : MemS) (C D : Nat → Int) (c : Nat) (X : List Nat) : Prop where
  both : BothAt w mb sb rb n M R c (pb :: qb :: X)
  pptr : w.cell? ⟨pb, 0, none⟩ = some (.pointer (some ⟨mb, 0, none⟩))
  pcur : ∀ i, i < 20 → w.cell? ⟨pb, 1 + i, none⟩ = some (.int .i64 (C i))
  pfz : ∀ j, w.frozen? ⟨pb, j, none⟩ = false
  qptr : w.cell? ⟨qb, 0, none⟩ = some (.pointer (some ⟨rb, 0, none⟩))
  qcur : ∀ i, i < 20 → w.cell? ⟨qb, 1 + i, none⟩ = some (.int .i64 (D i - 1))
  qfz : ∀ j, w.frozen? ⟨qb, j, none⟩ = false
  pq : pb ≠ qb
  px : pb ∉ X
  qx : qb ∉ X
  okC : CurOk n M C
  okD : CurOk n R D
  kc : Kc n M

section
variable {w : World} {pb mb sb qb rb n c : Nat} {M R : MemS} {C D : Nat → Int} {X : List Nat} (h : SBoth w pb mb sb qb rb n M R C D c X)
include h
theorem SBoth.n0 : 0 < n := h.both.n0
theorem SBoth.n1 : n ≤ 1024 := h.both.n1
theorem SBoth.pb_ne : pb ≠ mb ∧ pb ≠ sb ∧ pb < w.heap.size := h.both.x pb (by simp)
theorem SBoth.qb_ne : qb ≠ mb ∧ qb ≠ sb ∧ qb < w.heap.size := h.both.x qb (by simp)
theorem SBoth.space : SpaceAt w pb mb sb n M C :=
  ⟨h.both.mem, h.pptr, fun g k hg hk => by have := h.pcur (g * 4 + k) (by omega); rw [← Nat.add_assoc] at this; exact this, h.pfz, h.pb_ne.1, h.pb_ne.2.1, h.okC.ran⟩
theorem SBoth.more {c' : Nat} (hc : c ≤ c') : SBoth w pb mb sb qb rb n M R C D c' X := ⟨h.both.more hc, h.pptr, h.pcur, h.pfz, h.qptr, h.qcur, h.qfz, h.pq, h.px, h.qx, h.okC, h.okD, h.kc⟩
/-- The two memories have turned, the spaces' blocks have not. -/
theorem SBoth.mems {w' : World} {M' R' : MemS} {c' : Nat} (hB : BothAt w' mb sb rb n M' R' c' (pb :: qb :: X)) (O : OffX (pb :: qb :: X) w w') (hC : CurOk n M' C) (hD : CurOk n R' D) (hK : Kc n M') : SBoth w' pb mb sb qb rb n M' R' C D c' X := by
  obtain ⟨L, O', hL⟩ := O
  have np : pb ∉ L := fun hm => hL _ hm (by simp)
  have nq : qb ∉ L := fun hm => hL _ hm (by simp)
  exact ⟨hB, O'.cell h.pptr np, fun i hi => O'.cell (h.pcur i hi) np, fun j => (O'.frozen (p := ⟨pb, j, none⟩) h.pb_ne.2.2 np).trans (h.pfz j),
    O'.cell h.qptr nq, fun i hi => O'.cell (h.qcur i hi) nq, fun j => (O'.frozen (p := ⟨qb, j, none⟩) h.qb_ne.2.2 nq).trans (h.qfz j), h.pq, h.px, h.qx, hC, hD, hK⟩
theorem SBoth.off {w' : World} (O : Off [] w w') : SBoth w' pb mb sb qb rb n M R C D c X := h.mems (h.both.off O) (BothAt.offX O) h.okC h.okD h.kc
theorem SBoth.drew : SBoth w.drew pb mb sb qb rb n M R C D c X := h.off (Off.refl _ _).drew
theorem SBoth.alloc (o : Obj) : SBoth (w.alloc o) pb mb sb qb rb n M R C D c (w.heap.size :: X) := by
  have h1 := h.off ((Off.refl [] w).alloc o)
  have hb := h.both.alloc o
  have a := h.pb_ne.2.2
  have b := h.qb_ne.2.2
  exact ⟨hb.less (fun q hq => by simp only [List.mem_cons] at hq ⊢; rcases hq with e | e | e | e; exact .inr (.inl e); exact .inr (.inr (.inl e)); exact .inl e; exact .inr (.inr (.inr e))), h1.pptr, h1.pcur, h1.pfz, h1.qptr, h1.qcur, h1.qfz, h.pq, by simp only [List.mem_cons, not_or]; exact ⟨by omega, h.px⟩, by simp only [List.mem_cons, not_or]; exact ⟨by omega, h.qx⟩, h.okC, h.okD, h.kc⟩
theorem SBoth.less {Y : List Nat} (hY : ∀ b, b ∈ Y → b ∈ X) : SBoth w pb mb sb qb rb n M R C D c Y :=
  ⟨h.both.less (fun q hq => by simp only [List.mem_cons] at hq ⊢; rcases hq with e | e | e; exact .inl e; exact .inr (.inl e); exact .inr (.inr (hY q e))), h.pptr, h.pcur, h.pfz, h.qptr, h.qcur, h.qfz, h.pq, fun hm => h.px (hY _ hm), fun hm => h.qx (hY _ hm), h.okC, h.okD, h.kc⟩
/-- The program's space has turned. -/
theorem SBoth.pstep {w' : World} {M' : MemS} {C' : Nat → Int} {c' : Nat} (hS : SpaceAt w' pb mb sb n M' C') (hW : Wf n M' c') (hc : c ≤ c') (O : Off [pb, mb, sb] w w') (hC : CurOk n M' C') (hK : Kc n M') : SBoth w' pb mb sb qb rb n M' R C' D c' X ∧ OffX X w w' := by
  have hb := h.both.stepL hS.mem hW hc O (fun b hb => by simp only [List.mem_cons, List.not_mem_nil, or_false] at hb ⊢; rcases hb with e | e | e; exact .inr (.inr (.inl e)); exact .inl e; exact .inr (.inl e))
  have q1 := h.qb_ne
  have nq : qb ∉ [pb, mb, sb] := by simp only [List.mem_cons, List.not_mem_nil, or_false, not_or]; exact ⟨fun e => h.pq e.symm, q1.1, q1.2.1⟩
  refine ⟨⟨hb, hS.ptr, fun i hi => ?_, hS.fz, O.cell h.qptr nq, fun i hi => O.cell (h.qcur i hi) nq, fun j => (O.frozen (p := ⟨qb, j, none⟩) q1.2.2 nq).trans (h.qfz j), h.pq, h.px, h.qx, hC, h.okD, hK⟩, ⟨_, O, fun b hb hm => ?_⟩⟩
  · have := hS.cur (i / 4) (i % 4) (by omega) (by omega)
    rw [show 1 + i / 4 * 4 + i % 4 = 1 + i by omega, show i / 4 * 4 + i % 4 = i by omega] at this
    exact this
  · simp only [List.mem_cons, List.not_mem_nil, or_false] at hb
    have := h.both.x b (by simp [hm])
    rcases hb with e | e | e
    · exact h.px (e ▸ hm)
    · exact this.1 e
    · exact this.2.1 e
/-- One of the document's 20 cells has turned. -/
theorem SBoth.qset {i : Nat} (hi : i < 20) (v : Int) (hD : CurOk n R (putC D i v)) : SBoth (w.setCell ⟨qb, 1 + i, none⟩ (.int .i64 (v - 1))) pb mb sb qb rb n M R C (putC D i v) c X ∧ OffX X w (w.setCell ⟨qb, 1 + i, none⟩ (.int .i64 (v - 1))) := by
  have O : Off [qb] w (w.setCell ⟨qb, 1 + i, none⟩ (.int .i64 (v - 1))) := (Off.refl _ _).setCell (by simp) _
  have np : pb ∉ [qb] := by simpa using h.pq
  refine ⟨⟨h.both.other O (fun b hb => by simp only [List.mem_cons, List.not_mem_nil, or_false] at hb; simp [hb]), O.cell h.pptr np, fun j hj => O.cell (h.pcur j hj) np, fun j => by rw [World.frozen?_setCell]; exact h.pfz j, ?_, fun j hj => ?_, fun j => by rw [World.frozen?_setCell]; exact h.qfz j, h.pq, h.px, h.qx, h.okC, hD, h.kc⟩, ⟨_, O, fun b hb hm => ?_⟩⟩
  · rw [World.cell?_setCell_other _ _ _ _ (by simp only [ne_eq, Addr.mk.injEq, true_and, and_true]; omega)]; exact h.qptr
  · by_cases e : j = i
    · subst e
      rw [World.cell?_setCell_same _ _ _ (h.qcur j hj)]
      simp [putC]
    · rw [World.cell?_setCell_other _ _ _ _ (by simp only [ne_eq, Addr.mk.injEq, true_and, and_true]; omega), h.qcur j hj]
      simp [putC, e]
  · simp only [List.mem_cons, List.not_mem_nil, or_false] at hb
    exact h.qx (hb ▸ hm)
end
theorem SBoth.congr {w : World} {pb mb sb qb rb n c : Nat} {M R : MemS} {C D C' D' : Nat → Int} {X : List Nat} (h : SBoth w pb mb sb qb rb n M R C D c X) (hC : ∀ i, i < 20 → C' i = C i) (hD : ∀ i, i < 20 → D' i = D i) : SBoth w pb mb sb qb rb n M R C' D' c X :=
  ⟨h.both, h.pptr, fun i hi => by rw [hC i hi]; exact h.pcur i hi, h.pfz, h.qptr, fun i hi => by rw [hD i hi]; exact h.qcur i hi, h.qfz, h.pq, h.px, h.qx, h.okC.congr hC, h.okD.congr hD, h.kc⟩

/-! ### Alloc -/
theorem AllocIs.cur {n c : Nat} {M M' : MemS} {C C' : Nat → Int} {g k cc r s : Int} (hO : CurOk n M C) (W : Wf n M c) (h : AllocIs n M C g k cc r s M' C') : CurOk n M' C' := by
  rcases h with ⟨_, _, _, rfl, rfl⟩ | ⟨_, _, x, _, _, _, _, rfl, rfl⟩ | ⟨_, _, _, _, _, rfl, rfl⟩ | ⟨_, hm, _, q, hq, h0, _, _, rfl, rfl⟩
  · exact hO
  · exact hO.bump _ _
  · exact hO
  · have hmm := of_decide_eq_true hm
    have := hO.take hq h0 W.cnt0 (g := g.toNat) (k := k.toNat) (by omega) (by omega)
    rw [show ((g.toNat : Nat) : Int) = g by omega, show ((k.toNat : Nat) : Int) = k by omega] at this
    exact this.bump _ _
theorem AllocIs.wf {n c : Nat} {M M' : MemS} {C C' : Nat → Int} {g k cc r s : Int} (W : Wf n M c) (h : AllocIs n M C g k cc r s M' C') : Wf n M' (c + 1) := by
  rcases h with ⟨_, _, _, rfl, rfl⟩ | ⟨_, hm, x, _, ht, h1, _, rfl, rfl⟩ | ⟨_, _, _, _, _, rfl, rfl⟩ | ⟨_, hm, _, q, hq, h0, _, _, rfl, rfl⟩
  · exact W.mono (by omega)
  · have hmm := of_decide_eq_true hm
    exact (W.bump (by have := ht.2.1; omega) (by omega) h1).mono (by omega)
  · exact W.mono (by omega)
  · have hmm := of_decide_eq_true hm
    have hs : (M.take q g k).S q = fresh g k (M.count + 1) := MemS.put_same _ _ _
    exact (W.take hq h0 k (by omega) (by omega)).bump hq (by omega) (by rw [hs]; show cc ≤ 64 - 0; omega)
theorem SBoth.palloc {w : World} {pb mb sb qb rb n c : Nat} {M R : MemS} {C D : Nat → Int} {X : List Nat} (h : SBoth w pb mb sb qb rb n M R C D c X) (hc : c ≤ 1000000) (g k cc : Int) :
    Calls Try.prog 35 #[.pointer (some ⟨pb, 0, none⟩), .int .i64 g, .int .i64 k, .int .i64 cc] w fun e w' => ∃ r s M' C', e = .returned (.tuple #[.int .i64 r, .int .i64 s]) ∧
      AllocIs n M C g k cc r s M' C' ∧ SBoth w' pb mb sb qb rb n M' R C' D (c + 1) X ∧ OffX X w w' := by
  refine (alloc_all h.space h.both.wf h.n0 h.n1 hc g k cc).mono ?_
  rintro e w' ⟨r, s, M', C', rfl, hA, hS, hW, O⟩
  exact ⟨r, s, M', C', rfl, hA, h.pstep hS hW (by omega) O (hA.cur h.okC h.both.wf) (h.kc.alloc hA)⟩
end Go.Proofs.Ytoafoodgomnfeaa
