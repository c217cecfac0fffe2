/-
  YtoafoodgomnfeaaAnyT: Taken of all generations, in one contract.
-/
import Derived.Test.YtoafoodgomnfeaaAny
import Derived.Test.YtoafoodgomnfeaaTaken
namespace Go.Proofs.Ytoafoodgomnfeaa
open Go.RowKit
set_option linter.unusedVariables false

theorem taken_all {mb sb n c : Nat} {M : MemS} {w : World} (H : MemAt w mb sb n M) (W : Wf n M c) (hn0 : 0 < n) (hn : n ≤ 1024) :
    Calls Try.prog 22 #[.pointer (some ⟨mb, 0, none⟩), .slice none 0 0] w fun e w' => ∃ v T, e = .returned v ∧ TakenIs M n [] T ∧ IntsAt w.heap.size w' v (intsOf T) ∧ MemAt w' mb sb n M ∧ Off [] w w' := by
  refine (taken_any (G := []) H W hn0 hn none 0 (by simp) (.inl ⟨rfl, rfl⟩)).mono ?_
  rintro e w' ⟨v, T, rfl, hT, hI, O⟩
  exact ⟨v, T, rfl, hT, hI, H.off hn0 O (by simp) (by simp), O⟩

end Go.Proofs.Ytoafoodgomnfeaa
