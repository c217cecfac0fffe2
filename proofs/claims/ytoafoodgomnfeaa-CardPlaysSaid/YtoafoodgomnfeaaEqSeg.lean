/-
  YtoafoodgomnfeaaEqSeg: two segments' tellings compared: alike.
-/
import Derived.Test.YtoafoodgomnfeaaMem
import Derived.ChangeKeysEq
namespace Go.Proofs.Ytoafoodgomnfeaa
open Go.RowKit
set_option linter.unusedVariables false
theorem under37 : Try.prog.underlying 37 = some (.struct (Try.prog.fieldsOf 37)) := by kernel_rfl
theorem stood37 : Try.prog.stoodInHeld 37 = false := by kernel_rfl
theorem fields37 : (Try.prog.fieldsOf 37).toList.map (fun f => (f.name, f.type, f.offset)) = [("Gen", 3, 0), ("Kind", 3, 1), ("N", 3, 2), ("Cards", 35, 3)] := by kernel_rfl
theorem under35 : Try.prog.underlying 35 = some (.array 4 3) := by kernel_rfl
theorem eqFields_cons_alike {d : Nat} {xs : Array Value} {f : Field} {fs : List Field} {w : World} {v : Value} (hn : f.name ≠ "_") (h1 : (part f.type xs f.offset).run Try.prog w = .ok v w)
    (h2 : (Op.equalIn d f.type v v).run Try.prog w = .ok true w) : (Op.eqFields d xs xs (f :: fs)).run Try.prog w = (Op.eqFields d xs xs fs).run Try.prog w := by
  simp only [Op.eqFields, hn, ne_eq, not_false_eq_true, if_true, Sem.run_bind, h1, Result.andThen_ok, h2, Bool.not_true, Bool.false_eq_true, if_false]
theorem eqItems_cons_alike {d : Nat} {e : TypeId} {n : Nat} {xs : Array Value} {i : Nat} {is : List Nat} {w : World} {v : Value} (h1 : (part e xs (i * n)).run Try.prog w = .ok v w)
    (h2 : (Op.equalIn d e v v).run Try.prog w = .ok true w) : (Op.eqItems d e n xs xs (i :: is)).run Try.prog w = (Op.eqItems d e n xs xs is).run Try.prog w := by
  simp only [Op.eqItems, Sem.run_bind, h1, Result.andThen_ok, h2, Bool.not_true, Bool.false_eq_true, if_false]
theorem equalIn_int_alike (d : Nat) (x : Int) (w : World) : (Op.equalIn (d + 1) 3 (.int .i64 x) (.int .i64 x)).run Try.prog w = .ok true w := by
  rw [run_equalIn_int w d 3 .i64 .i64 x x (by kernel_rfl)]
  simp
theorem equalIn_cards_alike (d : Nat) (a b c e : Int) (w : World) : (Op.equalIn (d + 1 + 1) 35 (.agg #[.int .i64 a, .int .i64 b, .int .i64 c, .int .i64 e]) (.agg #[.int .i64 a, .int .i64 b, .int .i64 c, .int .i64 e])).run Try.prog w = .ok true w := by
  obtain ⟨i0, hi, hz0, hz1, hz2⟩ := info_parts (show (Try.prog.info? 3).map (fun i => (i.zero, i.size, i.bytes)) = some (some (.int .i64 0), 1, 8) by kernel_rfl)
  rw [run_equalIn_array w (d + 1) _ _ under35 hi, show List.range 4 = [0, 1, 2, 3] from rfl]
  rw [eqItems_cons_alike (v := .int .i64 a) (by kernel_rfl) (equalIn_int_alike d a w), eqItems_cons_alike (v := .int .i64 b) (by kernel_rfl) (equalIn_int_alike d b w), eqItems_cons_alike (v := .int .i64 c) (by kernel_rfl) (equalIn_int_alike d c w), eqItems_cons_alike (v := .int .i64 e) (by kernel_rfl) (equalIn_int_alike d e w)]
  simp [Op.eqItems]
@[go_sem ↓] theorem neq37_same (g k n a b c e : Int) (w : World) : Sem.run Try.prog (binOp BinOp.neq 37 (.agg #[.int .i64 g, .int .i64 k, .int .i64 n, .int .i64 a, .int .i64 b, .int .i64 c, .int .i64 e]) (.agg #[.int .i64 g, .int .i64 k, .int .i64 n, .int .i64 a, .int .i64 b, .int .i64 c, .int .i64 e])) w = .ok (.bool false) w := by
  have key : (Op.equalIn 10000 37 (.agg #[.int .i64 g, .int .i64 k, .int .i64 n, .int .i64 a, .int .i64 b, .int .i64 c, .int .i64 e]) (.agg #[.int .i64 g, .int .i64 k, .int .i64 n, .int .i64 a, .int .i64 b, .int .i64 c, .int .i64 e])).run Try.prog w = .ok true w := by
    rw [run_equalIn_struct w 9999 37 _ _ under37 stood37]
    have hf := fields37
    generalize (Try.prog.fieldsOf 37).toList = fs at hf ⊢
    rcases fs with _ | ⟨f0, _ | ⟨f1, _ | ⟨f2, _ | ⟨f3, _ | ⟨f4, fs⟩⟩⟩⟩⟩
    case cons.cons.cons.cons.nil =>
      simp only [List.map_cons, List.map_nil, List.cons.injEq, Prod.mk.injEq, and_true] at hf
      obtain ⟨⟨n0, t0, o0⟩, ⟨n1, t1, o1⟩, ⟨n2, t2, o2⟩, ⟨n3, t3, o3⟩⟩ := hf
      rw [eqFields_cons_alike (v := .int .i64 g) (by rw [n0]; decide) (by rw [t0, o0]; kernel_rfl) (by rw [t0]; exact equalIn_int_alike 9998 g w),
        eqFields_cons_alike (v := .int .i64 k) (by rw [n1]; decide) (by rw [t1, o1]; kernel_rfl) (by rw [t1]; exact equalIn_int_alike 9998 k w),
        eqFields_cons_alike (v := .int .i64 n) (by rw [n2]; decide) (by rw [t2, o2]; kernel_rfl) (by rw [t2]; exact equalIn_int_alike 9998 n w),
        eqFields_cons_alike (v := .agg #[.int .i64 a, .int .i64 b, .int .i64 c, .int .i64 e]) (by rw [n3]; decide) (by rw [t3, o3]; kernel_rfl) (by rw [t3]; exact equalIn_cards_alike 9997 a b c e w)]
      simp [Op.eqFields]
    all_goals (simp at hf)
  rw [run_neq_struct, key]
  rfl
end Go.Proofs.Ytoafoodgomnfeaa
