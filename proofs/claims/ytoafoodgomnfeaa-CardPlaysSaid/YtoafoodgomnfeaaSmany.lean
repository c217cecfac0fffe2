/-
  YtoafoodgomnfeaaSmany: the calls that the law of spaces is handed; are they too many?
-/
import Derived.Test.YtoafoodgomnfeaaScopy
namespace Go.Proofs.Ytoafoodgomnfeaa
open Go.RowKit
set_option linter.unusedVariables false

/-- A call of the law of spaces. -/
structure ActT where
  doo : Int
  a : Int
  b : Int
  c : Int
  v : Value
  G : List Int
def ActT.cellOf (x : ActT) : Nat → Value
  | 0 => .int .i64 x.doo
  | 1 => .int .i64 x.a
  | 2 => .int .i64 x.b
  | 3 => .int .i64 x.c
  | _ => x.v
def Acts8At (w : World) (a : Option Addr) (len : Nat) (Y : Nat → ActT) : Prop :=
  ∃ b o, (0 < len → a = some ⟨b, o, none⟩) ∧ ∀ i, i < len → (∀ j, j < 5 → w.cell? ⟨b, o + i * 5 + j, none⟩ = some ((Y i).cellOf j)) ∧ (Y i).a ≤ 9223372036854775807 ∧ GensAt w (List.range w.heap.size) (Y i).v (Y i).G

theorem many_any (w : World) (a : Option Addr) (len cap : Nat) (Y : Nat → ActT) (hY : Acts8At w a len Y) (b' : Bool) (hb : b' = false ↔ (len ≤ 300 ∧ ∀ i, i < len → (Y i).G.length ≤ 300)) :
    Calls Try.prog 29 #[.slice a len cap] w fun e w' => e = .returned (.bool b') ∧ w = w' := by
  have HB := Lib.hid hb
  clear hb
  obtain ⟨b, o, ha, hc⟩ := hY
  have HA := Lib.hid ha
  have HC := Lib.hid hc
  clear ha hc
  by_cases h3 : 300 < len
  · have h4 : (300 : Int) < (len : Int) := by omega
    obtain rfl : b' = true := by
      cases b' with
      | true => rfl
      | false => have := (HB.out.1 rfl).1; omega
    go_enter Try.func29, Try.ntmps29
    go_wp2_with fail
    go_ret
    exact ⟨rfl, rfl⟩
  · have h4 : ¬ (300 : Int) < (len : Int) := by omega
    go_enter Try.func29, Try.ntmps29
    go_wp2_with fail
    go_loop [3] (fun v => ∃ j : Nat, j ≤ len ∧ v = .int .i64 j ∧ Hid (∀ i, i < j → (Y i).G.length ≤ 300)) (fun v => len - (intOf v).toNat)
    case atStart => exact ⟨0, by omega, rfl, fun i hi => by omega⟩
    case round =>
      obtain ⟨j, hj, rfl, hall⟩ := hrel
      by_cases hlt : j < len
      · cases HA.out (by omega)
        obtain ⟨c, _, ga, gcap, gb, go, hv, _, _⟩ := HC.out j hlt
        have c4 := c 4 (by omega)
        simp only [ActT.cellOf] at c4
        rw [hv] at c4
        have j0 : (0 : Int) ≤ (j : Int) := by omega
        have j1 : (j : Int) < (len : Int) := by omega
        clear c hv
        by_cases hG : (Y j).G.length ≤ 300
        · have HG := Lib.hid hG
          have g1 : ¬ (300 : Int) < ((Y j).G.length : Int) := by omega
          clear hG
          go_wp2
          go_round
          case rel =>
            refine ⟨j + 1, by omega, by go_num, fun i hi => ?_⟩
            by_cases e : i = j
            · subst e; exact HG.out
            · exact hall.out i (by omega)
          case measure => simp [intOf]; omega
        · have g1 : (300 : Int) < ((Y j).G.length : Int) := by omega
          have HBT : Hid (b' = true) := Lib.hid (by
            cases b' with
            | true => rfl
            | false => exact absurd ((HB.out.1 rfl).2 j hlt) hG)
          clear hG
          go_wp2
          go_ret
          exact ⟨by rw [HBT.out]; rfl, rfl⟩
      · obtain rfl : j = len := by omega
        go_wp2
        go_ret
        exact ⟨by rw [HB.out.2 ⟨by omega, hall.out⟩]; rfl, rfl⟩
end Go.Proofs.Ytoafoodgomnfeaa
