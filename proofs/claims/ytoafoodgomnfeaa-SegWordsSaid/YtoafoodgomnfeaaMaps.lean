/-
  YtoafoodgomnfeaaMaps: a map from numbers to numbers that a law makes, told as a function and a count.
-/
import Derived.Test.YtoafoodgomnfeaaAny
import Derived.Maps.OwnOps
import Derived.Maps.OwnSet
import Derived.Maps.RangeWalk
namespace Go.Proofs.Ytoafoodgomnfeaa
open Go.RowKit Go.Maps
set_option linter.unusedVariables false

theorem law3 : Keyed Try.prog 3 := int_keyed Try.underlying3
theorem zero3 (w : World) : (zeroValue 3).run Try.prog w = .ok (.int .i64 0) w := by kernel_rfl
theorem zero29 (w : World) : (zeroValue 29).run Try.prog w = .ok (.int .u64 0) w := by kernel_rfl

/-- The number as a key. -/
abbrev kI (x : Int) : Lit := .int .i64 x
theorem kI_key (x : Int) : WideAt.IsKeyLit (kI x) := trivial
theorem kI_ne {x y : Int} (h : x ≠ y) : kI x ≠ kI y := by simp [kI, h]

/-- D reads as the function f, of sz keys. -/
structure Reads (q : IntKind) (D : DataW Unit) (f : Int → Option Int) (sz : Nat) : Prop where
  size : Maps.size D = sz
  has : ∀ x, Maps.has D (kI x) = (f x).isSome
  at_ : ∀ x, D.atKey (kI x) (.lit (.int q 0)) = .lit (.int q ((f x).getD 0))

def upd (f : Int → Option Int) (x : Int) (v : Option Int) : Int → Option Int := fun y => if y = x then v else f y
theorem upd_same (f : Int → Option Int) (x : Int) (v : Option Int) : upd f x v x = v := by simp [upd]
theorem upd_other (f : Int → Option Int) {x y : Int} (v : Option Int) (h : y ≠ x) : upd f x v y = f y := by simp [upd, h]

theorem Reads.empty (q : IntKind) : Reads q (.map []) (fun _ => none) 0 := ⟨rfl, fun _ => rfl, fun _ => rfl⟩
theorem Reads.put {q : IntKind} {D : DataW Unit} {f : Int → Option Int} {sz : Nat} (h : Reads q D f sz) (ht : Tidy D) (x v : Int) :
    Reads q (D.put (kI x) (.lit (.int q v))) (upd f x (some v)) (if (f x).isSome then sz else sz + 1) := by
  refine ⟨?_, fun y => ?_, fun y => ?_⟩
  · rw [size_put ht, h.size, h.has]
  · by_cases e : y = x
    · subst e; rw [has_put_same ht.isMap (kI_key y), upd_same]; rfl
    · rw [has_put_other (kI_ne e), upd_other _ _ e, h.has]
  · by_cases e : y = x
    · subst e; rw [atKey_put_same ht.isMap (kI_key y), upd_same]; rfl
    · rw [atKey_put_other (kI_ne e), upd_other _ _ e, h.at_]
theorem Reads.del {q : IntKind} {D : DataW Unit} {f : Int → Option Int} {sz : Nat} (h : Reads q D f sz) (ht : Tidy D) (x : Int) :
    Reads q (D.del (kI x)) (upd f x none) (if (f x).isSome then sz - 1 else sz) := by
  refine ⟨?_, fun y => ?_, fun y => ?_⟩
  · have := size_del ht (k := kI x)
    rw [h.has, h.size] at this
    split at this <;> split <;> first | omega | simp_all
  · by_cases e : y = x
    · subst e; rw [has_del_same, upd_same]; rfl
    · rw [has_del_other (kI_ne e), upd_other _ _ e, h.has]
  · by_cases e : y = x
    · subst e; rw [atKey_del_same, upd_same]; rfl
    · rw [atKey_del_other (kI_ne e), upd_other _ _ e, h.at_]

/-- Block B is a map of at most n numbers (each of kind q, its type E) that reads as f, of sz keys. -/
def IMap (w : World) (E : TypeId) (q : IntKind) (B n : Nat) (f : Int → Option Int) (sz : Nat) : Prop :=
  ∃ D : DataW Unit, w.ownsMap Try.prog 3 (plainElem Try.prog E) B n D ∧ Reads q D f sz

theorem IMap.made (w : World) (E : TypeId) (q : IntKind) : IMap (w.alloc (.map #[] 0)) E q w.heap.size 0 (fun _ => none) 0 :=
  ⟨.map [], World.ownsMap_made _ _ _ _, Reads.empty q⟩
theorem IMap.lt {w : World} {E : TypeId} {q : IntKind} {B n sz : Nat} {f : Int → Option Int} (h : IMap w E q B n f sz) : B < w.heap.size := by
  obtain ⟨D, h1, _⟩ := h; exact h1.lt
theorem IMap.off {w w' : World} {E : TypeId} {q : IntKind} {B n sz : Nat} {f : Int → Option Int} {L : List Nat} (h : IMap w E q B n f sz) (O : Off L w w') (hB : B ∉ L) : IMap w' E q B n f sz := by
  obtain ⟨D, ⟨es, clock, hb, F, hs, hD⟩, h2⟩ := h
  exact ⟨D, ⟨es, clock, by rw [O.block B (Array.getElem?_eq_some_iff.1 hb).1 hB]; exact hb, F, hs, hD⟩, h2⟩
theorem IMap.mono {w : World} {E : TypeId} {q : IntKind} {B n n' sz : Nat} {f : Int → Option Int} (h : IMap w E q B n f sz) (hn : n ≤ n') : IMap w E q B n' f sz := by
  obtain ⟨D, h1, h2⟩ := h; exact ⟨D, h1.mono hn, h2⟩
theorem IMap.congr {w : World} {E : TypeId} {q : IntKind} {B n sz sz' : Nat} {f g : Int → Option Int} (h : IMap w E q B n f sz) (hf : ∀ x, f x = g x) (hs : sz = sz') : IMap w E q B n g sz' := by
  obtain rfl : f = g := funext hf
  subst hs; exact h

section
variable {ops : Array Oper} {rest : List Oper} {o : Oper} {a : Act} {w : World} {Q : Exit → Act → World → Prop}

theorem imap_look {E : TypeId} {q : IntKind} {B n sz : Nat} {f : Int → Option Int} (hI : IMap w E q B n f sz) (T : TypeId) (hT : Try.prog.underlying T = some (.map 3 E)) (hE : Try.prog.underlying E = some (.int q)) (hz : ∀ w, (zeroValue E).run Try.prog w = .ok (.int q 0) w)
    (hg : o.guard = none) (m x : Operand) (hop : o.op = Op.lookup T m x false) (hm : a.eval m = .map (some B)) (z : Int) (hx : a.eval x = .int .i64 z) (hwf : (kI z).wf = true)
    (hK : wpList Try.prog ops Q rest (a.put o.dst (.int q ((f z).getD 0))) w) : wpList Try.prog ops Q (o :: rest) a w := by
  obtain ⟨D, hown, R⟩ := hI
  refine wpList_lookup_own_int w hg m x T hop 3 E q law3 hT hE (hz _) B n D hm hown _ _ hx (keyOf_int_mk Try.underlying3 hwf) ?_
  intro c hat _
  rw [R.at_] at hat
  simp only [DataW.lit.injEq, Lit.int.injEq, true_and] at hat
  rw [← hat]; exact hK

theorem imap_look_ok {E : TypeId} {q : IntKind} {B n sz : Nat} {f : Int → Option Int} (hI : IMap w E q B n f sz) (T : TypeId) (hT : Try.prog.underlying T = some (.map 3 E)) (hE : Try.prog.underlying E = some (.int q)) (hz : ∀ w, (zeroValue E).run Try.prog w = .ok (.int q 0) w)
    (hg : o.guard = none) (m x : Operand) (hop : o.op = Op.lookup T m x true) (hm : a.eval m = .map (some B)) (z : Int) (hx : a.eval x = .int .i64 z) (hwf : (kI z).wf = true)
    (hK : wpList Try.prog ops Q rest (a.put o.dst (.tuple #[.int q ((f z).getD 0), .bool (f z).isSome])) w) : wpList Try.prog ops Q (o :: rest) a w := by
  obtain ⟨D, hown, R⟩ := hI
  refine wpList_lookup_own_ok_int w hg m x T hop 3 E q law3 hT hE (hz _) B n D hm hown _ _ hx (keyOf_int_mk Try.underlying3 hwf) ?_
  intro c hat _
  rw [R.at_] at hat
  simp only [DataW.lit.injEq, Lit.int.injEq, true_and] at hat
  rw [← hat, R.has]; exact hK

theorem imap_put {E : TypeId} {q : IntKind} {B n sz : Nat} {f : Int → Option Int} (hI : IMap w E q B n f sz) (hn : n < 1000000) (T : TypeId) (hT : Try.prog.underlying T = some (.map 3 E)) (hE : Try.prog.underlying E = some (.int q))
    (hg : o.guard = none) (m x v : Operand) (hop : o.op = Op.mapUpdate T m x v) (hm : a.eval m = .map (some B)) (z : Int) (hx : a.eval x = .int .i64 z) (hwf : (kI z).wf = true) (u : Int) (hv : a.eval v = .int q u) (hwu : (Lit.int q u).wf = true)
    (hK : ∀ w', IMap w' E q B (n + 1) (upd f z (some u)) (if (f z).isSome then sz else sz + 1) → Off [B] w w' → wpList Try.prog ops Q rest (a.put o.dst undef) w') : wpList Try.prog ops Q (o :: rest) a w := by
  obtain ⟨D, hown, R⟩ := hI
  refine wpList_mapUpdate_own w hg m x v T hop 3 E law3 hT _ B n D hm hown (by unfold maxLen; omega) _ _ _ hx hv (keyOf_int_mk Try.underlying3 hwf) _ [] (plainElem_int hE hwu) ?_
  intro w' h1 h2
  exact hK w' ⟨_, h1, R.put (hown.tidy law3) z u⟩ ⟨h2.os, h2.tape, h2.output, h2.size, fun k hk hn => h2.block k hk (fun e => hn (by cases e; simp))⟩

theorem imap_del {E : TypeId} {q : IntKind} {B n sz : Nat} {f : Int → Option Int} (hI : IMap w E q B n f sz) (T : TypeId) (hT : Try.prog.underlying T = some (.map 3 E))
    (hg : o.guard = none) (m x : Operand) (hop : o.op = Op.call { callee := Callee.builtin Builtin.delete, args := #[m, x], argTypes := #[T, 3] }) (hm : a.eval m = .map (some B)) (z : Int) (hx : a.eval x = .int .i64 z) (hwf : (kI z).wf = true)
    (hK : ∀ w', IMap w' E q B n (upd f z none) (if (f z).isSome then sz - 1 else sz) → Off [B] w w' → wpList Try.prog ops Q rest (a.put o.dst (.tuple #[])) w') : wpList Try.prog ops Q (o :: rest) a w := by
  obtain ⟨D, hown, R⟩ := hI
  refine wpList_delete_own w hg m x T 3 hop E law3 hT _ B n D hm hown _ _ hx (keyOf_int_mk Try.underlying3 hwf) ?_
  intro w' h1 h2
  have h2 := h2.grown
  exact hK w' ⟨_, h1, R.del (hown.tidy law3) z⟩ ⟨h2.os, h2.tape, h2.output, h2.size, fun k hk hn => h2.block k hk (fun e => hn (by cases e; simp))⟩

theorem imap_len {E : TypeId} {q : IntKind} {B n sz : Nat} {f : Int → Option Int} (hI : IMap w E q B n f sz) (T : TypeId) (hT : Try.prog.underlying T = some (.map 3 E))
    (hg : o.guard = none) (m : Operand) (hop : o.op = Op.call { callee := Callee.builtin Builtin.len, args := #[m], argTypes := #[T] }) (hm : a.eval m = .map (some B))
    (hK : wpList Try.prog ops Q rest (a.put o.dst (.int .i64 sz)) w) : wpList Try.prog ops Q (o :: rest) a w := by
  obtain ⟨D, hown, R⟩ := hI
  refine wpList_len_own w hg m T hop 3 E hT _ B n D hm hown ?_
  rw [R.size]; exact hK
end
end Go.Proofs.Ytoafoodgomnfeaa
