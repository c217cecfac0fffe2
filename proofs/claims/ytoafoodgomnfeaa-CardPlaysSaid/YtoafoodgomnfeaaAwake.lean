/-
  YtoafoodgomnfeaaAwake: the chapter's first examples come out as the chapter says.
-/
import Derived.Test.YtoafoodgomnfeaaSegc
namespace Go.Proofs.Ytoafoodgomnfeaa
open Go.RowKit
set_option linter.unusedVariables false

theorem Off.trans_new {L L' : List Nat} {a b c : World} (h : Off L a b) (k : Off L' b c) (hL : ∀ x, x ∈ L' → x ∈ L ∨ a.heap.size ≤ x) : Off L a c :=
  ⟨k.os.trans h.os, k.tape.trans h.tape, k.output.trans h.output, Nat.le_trans h.size k.size, fun i hi hn => (k.block i (Nat.lt_of_lt_of_le hi h.size) (fun e => by rcases hL i e with h' | h'; exact hn h'; omega)).trans (h.block i hi hn)⟩


/-! the memory of the examples, step by step -/
def aw1 : MemS := MemS.put { MemS.made 8 with count := (MemS.made 8).count + 1, free := (MemS.made 8).free - 1 } 0 (fresh 0 0 ((MemS.made 8).count + 1))
def aw2 : MemS := MemS.put { aw1 with count := aw1.count + 1, free := aw1.free - 1 } 1 (fresh 1 2 (aw1.count + 1))
def aw3 : MemS := aw2.put 1 { aw2.S 1 with n := (aw2.S 1).n + 63 }
def aw4 : MemS := aw3.put ((65 : Int) / 64).toNat ((aw3.S ((65 : Int) / 64).toNat).putWord ((65 : Int) % 64).toNat 7)

set_option maxHeartbeats 1000000 in
set_option maxRecDepth 100000 in
theorem awake_true (w : World) : Calls Try.prog 14 #[] w fun e w' => e = .returned (.bool true) ∧ Off [] w w' := by
  go_enter Try.func14, Try.ntmps14
  go_wp2_with fail
  refine (new_ok 8 8 w rfl (by omega) (by omega)).mono ?_
  rintro e w1 ⟨rfl, H, O⟩
  have hmb : w.heap.size ≤ w.heap.size + 1 := by omega
  have hsb : w.heap.size ≤ w.heap.size := by omega
  generalize w.heap.size + 1 = mb at H hmb ⊢
  generalize hs : w.heap.size = sb at H ⊢
  have Hs := Lib.hid hs
  have H1 := Lib.hid H
  have O1 := Lib.hid O
  clear hs H O
  go_wp2_with fail
  refine (take_ok mb sb 8 0 0 0 _ w1 H1.out (by omega) (by omega) (by omega) (by omega) (by omega) (by omega) (by decide) (by decide) (by decide) (by decide) rfl (by omega)).mono ?_
  rintro e w2 ⟨rfl, H, O⟩
  have H2 : Hid (MemAt w2 mb sb 8 aw1) := Lib.hid H
  have O2 := Lib.hid O
  clear H O
  go_wp2_with fail
  refine (take_ok mb sb 8 1 1 2 _ w2 H2.out (by omega) (by omega) (by omega) (by omega) (by omega) (by omega) (by decide) (by decide) (by decide) (by decide) rfl (fun i hi => by cases (show i = 0 by omega); decide)).mono ?_
  rintro e w3 ⟨rfl, H, O⟩
  have H3 : Hid (MemAt w3 mb sb 8 aw2) := Lib.hid H
  have O3 := Lib.hid O
  clear H O
  go_wp2_with fail
  refine (bump_yes H3.out (by omega) 1 (by omega) (by decide) 1 63 rfl (by omega) (by decide) (by decide) (by decide)).mono ?_
  rintro e w4 ⟨rfl, H, O⟩
  have H4 : Hid (MemAt w4 mb sb 8 aw3) := Lib.hid H
  have O4 := Lib.hid O
  clear H O
  rw [show (((1 : Nat) : Int) * 64 + (aw2.S 1).n) = 64 from rfl]
  go_wp2_with fail
  refine (bump_full H4.out (by omega) 1 (by omega) (by decide) 1 2 rfl (by omega) (by decide) (by decide) (by decide)).mono ?_
  rintro e w5 ⟨rfl, rfl⟩
  go_wp2_with fail
  refine (write_some H4.out (by omega) 65 7 (by omega) ⟨by omega, ⟨by decide, by decide, by decide⟩, by decide⟩).mono ?_
  rintro e w5 ⟨rfl, H, O⟩
  have H5 : Hid (MemAt w5 mb sb 8 aw4) := Lib.hid H
  have O5 := Lib.hid O
  clear H O
  go_wp2_with fail
  refine (read_some H5.out (by omega) 65 (by omega) ⟨by omega, ⟨by decide, by decide, by decide⟩, by decide⟩).mono ?_
  rintro e w6 ⟨rfl, rfl⟩
  rw [show (aw4.S ((65 : Int) / 64).toNat).words ((65 : Int) % 64).toNat = 7 from rfl]
  go_wp2_with fail
  refine (read_none H5.out (by omega) 127 (by omega) (fun h => absurd h.2.2 (by decide))).mono ?_
  rintro e w7 ⟨rfl, rfl⟩
  go_wp2_with fail
  refine (free_any mb 6 w5 H5.out.free).mono ?_
  rintro e w8 ⟨rfl, rfl⟩
  go_wp2_with fail
  go_ret
  exact ⟨rfl, O1.out.trans_new (((O2.out.trans O3.out).trans (O4.out.mono (by simp))).trans (O5.out.mono (by simp))) (fun x hx => .inr (by have := Hs.out; simp at hx; rcases hx with rfl | rfl <;> omega))⟩
end Go.Proofs.Ytoafoodgomnfeaa
