/-
  YtoafoodgomnfeaaTaken: slices.Index, slices.Contains at numbers, the closure that Taken sorts by, and Taken itself.
-/
import Derived.Test.YtoafoodgomnfeaaPlain
import Derived.Test.YtoafoodgomnfeaaShelf
import Derived.Lib.RowBridge
import Derived.Lib.SortBridge
namespace Go.Proofs.Ytoafoodgomnfeaa
open Go.RowKit
set_option linter.unusedVariables false

/-- A slice of numbers: nil, or its numbers lie there, in a block from B on. -/
def IntsAt (B : Nat) (w : World) (v : Value) (T : List Int) : Prop :=
  (v = .slice none 0 0 ∧ T = []) ∨ ∃ b o cap, B ≤ b ∧ v = .slice (some ⟨b, o, none⟩) T.length cap ∧ ∀ i, i < T.length → w.cell? ⟨b, o + i, none⟩ = some (.int .i64 (T.getD i 0))
theorem IntsAt.off {L : List Nat} {B : Nat} {w w' : World} {v : Value} {T : List Int} (h : IntsAt B w v T) (O : Off L w w') (hL : ∀ b, b ∈ L → b < B) : IntsAt B w' v T := by
  rcases h with h | ⟨b, o, cap, hb, hv, hc⟩
  · exact .inl h
  · exact .inr ⟨b, o, cap, hb, hv, fun i hi => O.cell (hc i hi) (fun e => by have := hL b e; omega)⟩

def idxOfI (T : List Int) (x : Int) : Int := if x ∈ T then (T.idxOf x : Nat) else -1

theorem index_some (b o cap : Nat) (T : List Int) (x : Int) (w : World) (hT : T.length ≤ 4096) (hc : ∀ i, i < T.length → w.cell? ⟨b, o + i, none⟩ = some (.int .i64 (T.getD i 0))) :
    Calls Try.prog 87 #[.slice (some ⟨b, o, none⟩) T.length cap, .int .i64 x] w fun e w' => (∃ r : Int, e = .returned (.int .i64 r) ∧ (decide (0 ≤ r) = decide (x ∈ T))) ∧ w = w' := by
  have Hc := Lib.hid hc
  clear hc
  go_enter Try.func87, Try.ntmps87
  go_wp2
  go_loop [8] (fun i => ∃ k : Nat, k ≤ T.length ∧ i = .int .i64 k ∧ Hid (∀ j, j < k → T.getD j 0 ≠ x)) (fun i => T.length - (intOf i).toNat)
  case atStart => exact ⟨0, by omega, rfl, fun j hj => by omega⟩
  case round =>
    obtain ⟨k, hk, rfl, hno⟩ := hrel
    by_cases hlt : k < T.length
    · have hcell := Hc.out k hlt
      generalize hy : T.getD k 0 = y at hcell
      have HY := Lib.hid hy
      clear hy
      by_cases he : x = y
      · have e1 : (x == y) = true := beq_iff_eq.2 he
        have HE := Lib.hid he
        clear he
        go_wp2
        go_ret
        refine ⟨⟨_, rfl, ?_⟩, rfl⟩
        have : x ∈ T := by rw [HE.out, ← HY.out, List.getD, List.getElem?_eq_getElem hlt]; exact List.getElem_mem hlt
        simp [this]
      · have e1 : (x == y) = false := beq_eq_false_iff_ne.2 he
        have HE := Lib.hid he
        clear he
        go_wp2
        go_round
        case rel =>
          refine ⟨k + 1, by omega, by go_num, fun j hj => ?_⟩
          by_cases e : j = k
          · subst e; rw [HY.out]; exact fun h => HE.out h.symm
          · exact hno.out j (by omega)
        case measure => simp [intOf]; omega
    · go_wp2
      go_ret
      refine ⟨⟨_, rfl, ?_⟩, rfl⟩
      have : ¬ x ∈ T := fun hm => by
        obtain ⟨j, hj, e⟩ := List.getElem_of_mem hm
        exact hno.out j (by omega) (by rw [List.getD, List.getElem?_eq_getElem hj]; exact e)
      simp [this]

theorem contains_some (b o cap : Nat) (T : List Int) (x : Int) (w : World) (hT : T.length ≤ 4096) (hc : ∀ i, i < T.length → w.cell? ⟨b, o + i, none⟩ = some (.int .i64 (T.getD i 0))) :
    Calls Try.prog 56 #[.slice (some ⟨b, o, none⟩) T.length cap, .int .i64 x] w fun e w' => e = .returned (.bool (decide (x ∈ T))) ∧ w = w' := by
  have H := index_some b o cap T x w hT hc
  have HH := Lib.hid H
  clear H hc
  go_enter Try.func56, Try.ntmps56
  go_wp2_with (go_at_call 87; refine HH.out.mono ?_; rintro e w' ⟨⟨r, rfl, hr⟩, rfl⟩)
  go_ret
  exact ⟨rfl, rfl⟩

theorem isNaN_any (x : Int) (w : World) : Calls Try.prog 90 #[.int .i64 x] w fun e w' => e = .returned (.bool false) ∧ w = w' := by
  go_enter Try.func90, Try.ntmps90
  go_wp2
  go_ret
  exact ⟨rfl, rfl⟩
theorem compare_any (x y : Int) (w : World) : Calls Try.prog 59 #[.int .i64 x, .int .i64 y] w fun e w' => e = .returned (.int .i64 (Lib.compareInt x y)) ∧ w = w' := by
  unfold Lib.compareInt
  by_cases h1 : x < y
  · rw [if_pos h1]
    go_enter Try.func59, Try.ntmps59
    go_wp2_with (go_at_call 90; refine (isNaN_any _ _).mono ?_; rintro e w' ⟨rfl, rfl⟩)
    go_ret
    exact ⟨rfl, rfl⟩
  by_cases h2 : y < x
  · rw [if_neg h1, if_pos h2]
    go_enter Try.func59, Try.ntmps59
    go_wp2_with (go_at_call 90; refine (isNaN_any _ _).mono ?_; rintro e w' ⟨rfl, rfl⟩)
    go_ret
    exact ⟨rfl, rfl⟩
  · rw [if_neg h1, if_neg h2]
    go_enter Try.func59, Try.ntmps59
    go_wp2_with (go_at_call 90; refine (isNaN_any _ _).mono ?_; rintro e w' ⟨rfl, rfl⟩)
    go_ret
    exact ⟨rfl, rfl⟩

theorem compare_quiet (x y : Int) (w : World) : Calls Try.prog 59 #[.int .i64 x, .int .i64 y] w fun e w' => e = .returned (.int .i64 (Lib.compareInt x y)) ∧ w' = w :=
  (compare_any x y w).mono fun _ _ ⟨h1, h2⟩ => ⟨h1, h2.symm⟩

/-- The closure that Taken sorts by: which of two segments was taken first. -/
theorem closure_any (mb sb n cap B x y : Nat) (t u : Int) (w : World) (hb : w.cell? ⟨B, 0, none⟩ = some (.pointer (some ⟨mb, 0, none⟩))) (h0 : w.cell? ⟨mb, 0, none⟩ = some (.slice (some ⟨sb, 0, none⟩) n cap))
    (hn : n ≤ 1024) (hx : x < n) (hy : y < n) (ht : w.cell? ⟨sb, x * 72 + 7, none⟩ = some (.int .i64 t)) (hu : w.cell? ⟨sb, y * 72 + 7, none⟩ = some (.int .i64 u)) :
    Calls Try.prog 58 #[.int .i64 x, .int .i64 y, .pointer (some ⟨B, 0, none⟩)] w fun e w' => e = .returned (.int .i64 (Lib.compareInt t u)) ∧ ∃ q, w' = w.drewN q := by
  have q1 : (0 : Int) ≤ (x : Int) := by omega
  have q2 : (0 : Int) ≤ (y : Int) := by omega
  have q3 : (x : Int) < (n : Int) := by omega
  have q4 : (y : Int) < (n : Int) := by omega
  go_enter Try.func58, Try.ntmps58
  go_wp2_with fail
  go_quiet ((go_at_call 59; exact Calls.quiet_of_same (compare_quiet _ _ _)))
  go_wp2_with fail
  go_ret
  exact ⟨rfl, _, rfl⟩

theorem Off.grown {L : List Nat} {a w w' : World} {row : Option Nat} (h : Off L a w) (hg : w.grownBy w' row) (hr : ∀ k, row = some k → a.heap.size ≤ k) : Off L a w' :=
  ⟨hg.os.trans h.os, hg.tape.trans h.tape, hg.output.trans h.output, Nat.le_trans h.size hg.size, fun k hk hn => (hg.block k (Nat.lt_of_lt_of_le hk h.size) (fun e => by have := hr k e.symm; omega)).trans (h.block k hk hn)⟩

/-- Which segments Taken tells. -/
def selB (M : MemS) (G : List Int) (k : Nat) : Bool := decide ((M.S k).taken ≠ 0) && (G.isEmpty || decide ((M.S k).gen ∈ G))
def flT (M : MemS) (G : List Int) (k : Nat) : List Nat := (List.range k).filter (selB M G)
theorem flT_succ (M : MemS) (G : List Int) (k : Nat) : flT M G (k + 1) = if selB M G k then flT M G k ++ [k] else flT M G k := by
  unfold flT
  rw [List.range_succ, List.filter_append]
  by_cases h : selB M G k
  · simp [h]
  · simp [h]
theorem flT_len (M : MemS) (G : List Int) (k : Nat) : (flT M G k).length ≤ k := by
  have := List.length_filter_le (selB M G) (List.range k)
  simpa [flT] using this
def natsV (l : List Nat) : List Value := l.map fun k : Nat => Value.int .i64 (k : Int)

/-- At the head of each round. -/
def TakenRel (M : MemS) (G : List Int) (W1 : World) (n : Nat) (l i : Value) (wr : World) : Prop :=
  ∃ k : Nat, k ≤ n ∧ i = .int .i64 k ∧ Off [] W1 wr ∧ wr.ownsRow W1.heap.size 3 1 l (flT M G k).length (natsV (flT M G k))

theorem info3t : (Try.prog.info? 3).map (fun i => (i.zero, i.size, i.bytes)) = some (some (.int .i64 0), 1, 8) := by kernel_rfl

theorem TakenRel.skip {M : MemS} {G : List Int} {W1 : World} {n k : Nat} {l : Value} {wr : World} (hk : k < n) (hs : selB M G k = false) (O : Off [] W1 wr) (hown : wr.ownsRow W1.heap.size 3 1 l (flT M G k).length (natsV (flT M G k))) :
    TakenRel M G W1 n l (.int .i64 ((k : Int) + 1)) wr :=
  ⟨k + 1, by omega, by go_num, O, by rw [flT_succ, hs]; exact hown⟩
theorem TakenRel.take {M : MemS} {G : List Int} {W1 : World} {n k : Nat} {l : Value} {wr : World} (hk : k < n) (hs : selB M G k = true) (O : Off [] W1 wr) (hown : wr.ownsRow W1.heap.size 3 1 l ((flT M G k).length + 1) (natsV (flT M G k) ++ [Value.int .i64 (k : Int)])) :
    TakenRel M G W1 n l (.int .i64 ((k : Int) + 1)) wr :=
  ⟨k + 1, by omega, by go_num, O, by rw [flT_succ, hs]; simpa [natsV] using hown⟩

theorem selB_free {M : MemS} {G : List Int} {k : Nat} (h : (M.S k).taken = 0) : selB M G k = false := by simp [selB, h]
theorem selB_all {M : MemS} {k : Nat} (h : (M.S k).taken ≠ 0) : selB M [] k = true := by simp [selB, h]
theorem selB_gen {M : MemS} {G : List Int} {k : Nat} (h : (M.S k).taken ≠ 0) (hG : G ≠ []) : selB M G k = decide ((M.S k).gen ∈ G) := by
  cases G with
  | nil => exact absurd rfl hG
  | cons a l => simp [selB, h]

theorem sort_off {α : Type} [Inhabited α] (enc : α → Value) (w : World) (blk off n : Nat) (d : Array α) (os : Array Obj) : Off [blk] w (Go.Proofs.sortWorld enc w blk off n d os) := by
  refine ⟨rfl, rfl, rfl, ?_, fun k hk hn => ?_⟩
  · show w.heap.size ≤ ((w.heap.modify blk (Go.Sort.onCells (Go.Sort.putCells enc off d))) ++ os).size
    simp
  · show ((w.heap.modify blk (Go.Sort.onCells (Go.Sort.putCells enc off d))) ++ os)[k]? = w.heap[k]?
    rw [Array.getElem?_append_left (by simpa using hk), Array.getElem?_modify, if_neg (by simpa using fun e : blk = k => hn (by simp [e]))]

/-! ### the order -/
theorem compare_lt (x y : Int) : decide (Lib.compareInt x y < 0) = decide (x < y) := by
  unfold Lib.compareInt
  by_cases h1 : x < y
  · simp [h1]
  · by_cases h2 : y < x <;> simp [h1, h2]

theorem swo_by {α : Type} (f : α → Int) : Go.Sort.SWO (Go.Proofs.ltOf fun x y : α => Lib.compareInt (f x) (f y)) := by
  constructor
  · intro x; simp only [Go.Proofs.ltOf, compare_lt]; simp
  · intro x y z h1 h2; simp only [Go.Proofs.ltOf, compare_lt] at *; simp at *; omega
  · intro x y z h1 h2; simp only [Go.Proofs.ltOf, compare_lt] at *; simp at *; omega

/-- What Taken tells: each that it tells, in the order in which they were taken. -/
structure TakenIs (M : MemS) (n : Nat) (G : List Int) (T : List Nat) : Prop where
  mem : ∀ k, k ∈ T ↔ k < n ∧ selB M G k = true
  ord : T.Pairwise fun a b => (M.S a).taken < (M.S b).taken

theorem flT_nodup (M : MemS) (G : List Int) (n : Nat) : (flT M G n).Nodup := List.nodup_range.filter _
theorem flT_mem (M : MemS) (G : List Int) (n k : Nat) : k ∈ flT M G n ↔ k < n ∧ selB M G k = true := by simp [flT]
theorem TakenIs.nodup {M : MemS} {n : Nat} {G : List Int} {T : List Nat} (h : TakenIs M n G T) : T.Nodup := h.ord.imp fun hab e => by rw [e] at hab; omega
theorem TakenIs.perm {M : MemS} {n : Nat} {G : List Int} {T : List Nat} (h : TakenIs M n G T) : T.Perm (flT M G n) :=
  (List.perm_ext_iff_of_nodup h.nodup (flT_nodup M G n)).2 fun k => by rw [h.mem, flT_mem]
theorem TakenIs.len {M : MemS} {n : Nat} {G : List Int} {T : List Nat} (h : TakenIs M n G T) : T.length ≤ n := by
  rw [h.perm.length_eq]; exact flT_len M G n
/-- There is but one such list. -/
theorem TakenIs.unique {M : MemS} {n : Nat} {G : List Int} {T T' : List Nat} (h : TakenIs M n G T) (h' : TakenIs M n G T') : T = T' :=
  (h.perm.trans h'.perm.symm).eq_of_pairwise (le := fun a b => (M.S a).taken < (M.S b).taken) (fun a b _ _ h1 h2 => by omega) h.ord h'.ord

/-- A sorted rearrangement of those that Taken tells. -/
theorem TakenIs.of_perm {M : MemS} {n c : Nat} {G : List Int} {T : List Nat} (W : Wf n M c) (hp : T.Perm (flT M G n)) (ho : T.Pairwise fun a b => (M.S a).taken ≤ (M.S b).taken) : TakenIs M n G T := by
  have hm : ∀ k, k ∈ T ↔ k < n ∧ selB M G k = true := fun k => by rw [hp.mem_iff, flT_mem]
  have hnd : T.Nodup := hp.nodup_iff.2 (flT_nodup M G n)
  refine ⟨hm, ?_⟩
  refine (List.Pairwise.and_mem.1 (ho.and hnd)).imp ?_
  rintro a b ⟨ha, hb, hle, hne⟩
  obtain ⟨ha1, ha2⟩ := (hm a).1 ha
  obtain ⟨hb1, hb2⟩ := (hm b).1 hb
  have h0 : (M.S a).taken ≠ 0 := by intro e; rw [selB_free e] at ha2; cases ha2
  rcases Int.lt_or_eq_of_le hle with h | h
  · exact h
  · exact absurd (W.apart a b ha1 hb1 h h0) hne

def intsOf (T : List Nat) : List Int := T.map fun k : Nat => (k : Int)

/-! ### the sort -/
def fz {n : Nat} (hn : 0 < n) (x : Nat) : Fin n := ⟨x % n, Nat.mod_lt _ hn⟩
def encF {n : Nat} (x : Fin n) : Value := .int .i64 ((x.val : Nat) : Int)

theorem fz_list {n : Nat} (hn : 0 < n) (l : List Nat) (h : ∀ x, x ∈ l → x < n) : (l.map (fz hn)).map Fin.val = l := by
  rw [List.map_map]
  conv => rhs; rw [← List.map_id l]
  exact List.map_congr_left fun x hx => by simp [fz, Nat.mod_eq_of_lt (h x hx)]

/-- The row that was collected, sorted: what the slice holds behind it. -/
theorem sort_call {n mb sb B gb gcap c : Nat} {M : MemS} {G : List Int} (hn0 : 0 < n) (hn : n ≤ 1024) (WW : Wf n M c) (wr : World)
    (hB : wr.cell? ⟨B, 0, none⟩ = some (.pointer (some ⟨mb, 0, none⟩))) (H : MemAt wr mb sb n M)
    (hgb : gb ≠ B ∧ gb ≠ mb ∧ gb ≠ sb) (hcell : ∀ j, j < (flT M G n).length → wr.cell? ⟨gb, j, none⟩ = some (.int .i64 (((flT M G n).getD j 0 : Nat) : Int)) ∧ wr.frozen? ⟨gb, j, none⟩ = false) (hpos : 0 < (flT M G n).length) :
    Calls Try.prog 57 #[.slice (some ⟨gb, 0, none⟩) (flT M G n).length gcap, .func (.func 58) #[] #[.pointer (some ⟨B, 0, none⟩)]] wr fun e w' =>
      e = .returned (.tuple #[]) ∧ ∃ T : List Nat, T.length = (flT M G n).length ∧ TakenIs M n G T ∧ (∀ i, i < T.length → w'.cell? ⟨gb, 0 + i, none⟩ = some (.int .i64 ((intsOf T).getD i 0))) ∧ Off [gb] wr w' := by
  haveI : Inhabited (Fin n) := ⟨⟨0, hn0⟩⟩
  have hlt : ∀ x, x ∈ flT M G n → x < n := fun x hx => ((flT_mem M G n x).1 hx).1
  have hds : (((flT M G n).map (fz hn0)).toArray).size = (flT M G n).length := by simp
  have hd : ∀ j, j < (flT M G n).length → encF ((((flT M G n).map (fz hn0)).toArray)[j]!) = .int .i64 (((flT M G n).getD j 0 : Nat) : Int) := fun j hj => by
    rw [getElem!_pos _ j (by simpa using hj)]
    have hx := hlt _ (List.getElem_mem hj)
    simp [encF, fz, List.getD, List.getElem?_eq_getElem hj, Nat.mod_eq_of_lt hx]
  have hH : Go.Sort.Holds encF wr gb 0 ((flT M G n).map (fz hn0)).toArray := fun j hj => by
    rw [hds] at hj
    rw [hd j hj, Nat.zero_add]
    exact hcell j hj
  have hblk : gb < wr.heap.size := World.block_lt_of_cell? wr _ (hcell 0 hpos).1
  have eg : ∀ args w, (callFunc 58 args).run Try.prog w = .ok (.enter 58 args) w := enters_of Try.func58 (by kernel_rfl) rfl
  have hcmp : Go.Proofs.CmpReads Try.prog 58 #[.pointer (some ⟨B, 0, none⟩)] encF (fun x y : Fin n => Lib.compareInt (M.S x.val).taken (M.S y.val).taken) gb 0 (((flT M G n).map (fz hn0)).toArray).size wr := by
    intro m os dk _ x y
    have O := sort_off encF wr gb 0 m dk os
    have H' := H.off hn0 O (by simp [Ne.symm hgb.2.1]) (by simp [Ne.symm hgb.2.2])
    exact closure_any mb sb n M.cap B x.val y.val _ _ _ (O.cell hB (by simp [Ne.symm hgb.1])) H'.segs hn x.isLt y.isLt (H'.taken x.isLt) (H'.taken y.isLt)
  have hS := Try.slices_SortFunc encF (fun _ => rfl) _ (swo_by fun x : Fin n => (M.S x.val).taken) 58 #[.pointer (some ⟨B, 0, none⟩)] gb 0 gcap ((flT M G n).map (fz hn0)).toArray wr eg hcmp.lays hH hblk (by rw [hds]; have := flT_len M G n; omega)
  rw [hds] at hS
  refine hS.mono ?_
  rintro e w' ⟨rfl, d', nn, os, ⟨hsz, _, hperm⟩, hsort, rfl⟩
  rw [hds] at hsz
  rw [show d'.extract 0 (flT M G n).length = d' by rw [← hsz]; simp, show ((flT M G n).map (fz hn0)).toArray.extract 0 (flT M G n).length = ((flT M G n).map (fz hn0)).toArray by
    simp only [List.extract_toArray, List.extract_eq_take_drop, Nat.sub_zero, List.drop_zero]
    rw [List.take_of_length_le (by simp)]] at hperm
  have hp2 : (d'.toList.map Fin.val).Perm (flT M G n) := by
    have := hperm.map Fin.val
    rwa [fz_list hn0 _ hlt] at this
  refine ⟨rfl, d'.toList.map Fin.val, by simp [hsz], TakenIs.of_perm WW hp2 ?_, fun i hi => ?_, sort_off _ _ _ _ _ _ _⟩
  · rw [List.pairwise_map, List.pairwise_iff_getElem]
    intro i j hi hj hij
    simp only [Array.length_toList] at hi hj
    have := hsort i j (Nat.zero_le _) hij (by omega)
    rw [getElem!_pos _ i hi, getElem!_pos _ j hj] at this
    simp only [Go.Proofs.ltOf, compare_lt] at this
    simp at this
    simpa using this
  · simp only [List.length_map, Array.length_toList] at hi
    have hH' : Go.Sort.Holds encF (Go.Sort.ahead wr nn) gb 0 ((flT M G n).map (fz hn0)).toArray := fun j hj => hH j hj
    have h1 := Go.Sort.cell?_putRow encF (Go.Sort.ahead wr nn) gb 0 _ d' hH' (by rw [hsz, hds]) i hi
    have h2 : (Go.Proofs.sortWorld encF wr gb 0 nn d' os).cell? ⟨gb, 0 + i, none⟩ = some (encF d'[i]!) := by
      unfold Go.Proofs.sortWorld
      rw [Go.Sort.cell?_grow _ os _ (World.block_lt_of_cell? _ _ h1)]
      exact h1
    rw [h2, getElem!_pos _ i hi]
    simp [encF, intsOf, List.getD, hi]

set_option maxRecDepth 100000 in
set_option maxHeartbeats 1000000 in
theorem taken_any {mb sb n c : Nat} {M : MemS} {w : World} (H : MemAt w mb sb n M) (W : Wf n M c) (hn0 : 0 < n) (hn : n ≤ 1024) (g : Option Addr) (gc : Nat) (G : List Int) (hG : G.length ≤ 4096) (hg : IntsAt 0 w (.slice g G.length gc) G) :
    Calls Try.prog 22 #[.pointer (some ⟨mb, 0, none⟩), .slice g G.length gc] w fun e w' => ∃ v T, e = .returned v ∧ TakenIs M n G T ∧ IntsAt w.heap.size w' v (intsOf T) ∧ Off [] w w' := by
  obtain ⟨i0, hi, hz0, hz1, hz2⟩ := info_parts info3t
  have hi' := Lib.hid hi
  have hz0' := Lib.hid hz0
  have hz1' := Lib.hid hz1
  have hz2' := Lib.hid hz2
  clear hi hz0 hz1 hz2
  have hmb := H.mb_lt
  have hsb := H.sb_lt hn0
  have HH := Lib.hid H
  have h0 := H.segs
  have WW := Lib.hid W
  have HG := Lib.hid hg
  clear H W hg
  go_enter Try.func22, Try.ntmps22
  go_wp2_with fail
  have hB : (w.alloc (.cells #[.pointer (some ⟨mb, 0, none⟩)] 23)).cell? ⟨w.heap.size, 0, none⟩ = some (.pointer (some ⟨mb, 0, none⟩)) := by simp
  have H1 := HH.out.off hn0 ((Off.refl [] w).alloc (.cells #[.pointer (some ⟨mb, 0, none⟩)] 23)) (by simp) (by simp)
  have G1 := HG.out.off ((Off.refl [] w).alloc (.cells #[.pointer (some ⟨mb, 0, none⟩)] 23)) (by simp)
  have O1 := (Off.refl [] w).alloc (.cells #[.pointer (some ⟨mb, 0, none⟩)] 23)
  have z1 : (w.alloc (.cells #[.pointer (some ⟨mb, 0, none⟩)] 23)).heap.size = w.heap.size + 1 := by simp
  generalize w.alloc (.cells #[.pointer (some ⟨mb, 0, none⟩)] 23) = W1 at hB H1 G1 O1 z1 ⊢
  have hB' := Lib.hid hB
  have H1' := Lib.hid H1
  have G1' := Lib.hid G1
  have O1' := Lib.hid O1
  have z1' := Lib.hid z1
  clear hB H1 G1 O1 z1 h0
  go_loopw [5, 15] (fun l i wr => TakenRel M G W1 n l i wr) (fun _ i _ => n - (intOf i).toNat)
  case atStart => exact ⟨0, by omega, rfl, Off.refl _ _, World.ownsRow_nil _ _ _ _⟩
  case round =>
    obtain ⟨k, hk, rfl, O, hown⟩ := hrel
    have OO := Lib.hid O
    have HOWN := Lib.hid hown
    have hB := O.cell hB'.out (by simp)
    have h0 := O.cell H1'.out.segs (by simp)
    clear O hown
    by_cases hlt : k < n
    · have ht := OO.out.cell (H1'.out.taken hlt) (by simp)
      have hge := OO.out.cell (H1'.out.gen hlt) (by simp)
      have htk := (WW.out.tk k hlt).1
      generalize htt : (M.S k).taken = t at ht htk
      generalize hgg : (M.S k).gen = gn at hge
      have TT := Lib.hid htt
      have GG := Lib.hid hgg
      clear htt hgg
      by_cases hz : t = 0
      · have HZ := Lib.hid hz
        have hp : ¬ (0 : Int) < t := by omega
        clear hz htk
        go_wp2_with fail
        go_roundw
        case rel => exact TakenRel.skip hlt (selB_free (by rw [TT.out, HZ.out])) OO.out HOWN.out
        case measure => simp [intOf]; omega
      · have hp : (0 : Int) < t := by omega
        have HZ := Lib.hid hz
        clear hz htk
        by_cases hnil : G = []
        · subst hnil
          have hsz := OO.out.size
          have hfl := flT_len M [] k
          go_wp2_with (at_builtin; refine wpList_append_own _ rfl _ _ 47 rfl W1.heap.size 3 i0 (.int .i64 0) 1 8 Try.underlying47 hi'.out hz0'.out hz1'.out hz2'.out rfl (by decide) _ _ _ rfl (HOWN.out.alloc _) ⟨wr.heap.size, 0, none⟩ 1 1 [.int .i64 k] rfl rfl ?c1 ?c2 ?c3 ?c4 ?c5 ?_)
          case c1 => exact (cell_one_new _ _ _)
          case c2 => intro u hu; simp at hu; subst hu; rfl
          case c3 => unfold maxLen; omega
          case c4 => omega
          case c5 => simp; omega
          intro v' w1 hown' hgrow _
          have hr : ∀ j, _ = some j → W1.heap.size ≤ j := fun j hj => (HOWN.out.lt j hj).1
          have OO2 := Lib.hid ((OO.out.alloc _).grown hgrow hr)
          have HO2 := Lib.hid hown'
          clear hgrow hown' hr
          go_wp2_with fail
          go_roundw
          case rel => first | exact TakenRel.take hlt (selB_all (by rw [TT.out]; exact HZ.out)) OO2.out HO2.out | ((repeat apply Exists.intro); exact ⟨TakenRel.take hlt (selB_all (by rw [TT.out]; exact HZ.out)) OO2.out HO2.out, rfl⟩)
          case measure => simp [intOf]; omega
        · have hgl : ((G.length : Int) == 0) = false := beq_eq_false_iff_ne.2 (by have := List.length_pos_iff.2 hnil; omega)
          have HN := Lib.hid hnil
          clear hnil
          have hsz := OO.out.size
          have hfl := flT_len M G k
          rcases G1'.out with ⟨hv, hnil⟩ | ⟨gb, go, gcap, _, hv, hgc⟩
          · exact absurd hnil HN.out
          cases hv
          have hcon := contains_some gb go gc G gn wr hG (fun i hi => OO.out.cell (hgc i hi) (by simp))
          have HC := Lib.hid hcon
          clear hcon hgc
          by_cases hin : gn ∈ G
          · have hd : decide (gn ∈ G) = true := decide_eq_true hin
            have HI := Lib.hid hin
            clear hin
            go_wp2_with (first | (go_at_call 56; refine HC.out.mono ?_; rintro e w' ⟨rfl, rfl⟩) | (at_builtin; refine wpList_append_own _ rfl _ _ 47 rfl W1.heap.size 3 i0 (.int .i64 0) 1 8 Try.underlying47 hi'.out hz0'.out hz1'.out hz2'.out rfl (by decide) _ _ _ rfl (HOWN.out.alloc _) ⟨wr.heap.size, 0, none⟩ 1 1 [.int .i64 k] rfl rfl ?c1 ?c2 ?c3 ?c4 ?c5 ?_))
            case c1 => exact (cell_one_new _ _ _)
            case c2 => intro u hu; simp at hu; subst hu; rfl
            case c3 => unfold maxLen; omega
            case c4 => omega
            case c5 => simp; omega
            intro v' w1 hown' hgrow _
            have hr : ∀ j, _ = some j → W1.heap.size ≤ j := fun j hj => (HOWN.out.lt j hj).1
            have OO2 := Lib.hid ((OO.out.alloc _).grown hgrow hr)
            have HO2 := Lib.hid hown'
            clear hgrow hown' hr
            go_wp2_with fail
            go_roundw
            case rel => exact TakenRel.take hlt (by rw [selB_gen (by rw [TT.out]; exact HZ.out) HN.out, GG.out]; exact hd) OO2.out HO2.out
            case measure => simp [intOf]; omega
          · have hd : decide (gn ∈ G) = false := decide_eq_false hin
            have HI := Lib.hid hin
            clear hin
            go_wp2_with (go_at_call 56; refine HC.out.mono ?_; rintro e w' ⟨rfl, rfl⟩)
            go_roundw
            case rel => exact TakenRel.skip hlt (by rw [selB_gen (by rw [TT.out]; exact HZ.out) HN.out, GG.out]; exact hd) OO.out HOWN.out
            case measure => simp [intOf]; omega
    · obtain rfl : k = n := by omega
      have hfl := flT_len M G k
      have hB2 := Lib.hid hB
      have h02 := Lib.hid h0
      have hsz := OO.out.size
      clear hB h0
      rcases HOWN.out.2 with ⟨hl, hlen⟩ | ⟨gb, gcap, cur, hl, hgb, hheap, hlc, hmx, hcur, hxs⟩
      · subst hl
        have hS := fun (p : Value) (W : World) => AnyF.slices_SortFunc_none (P := Try.prog) (ρ := Try.laysSlF6_f57_ren) { Try.laysSlF6_f57 with } none 0 p W
        change ∀ p W, Calls Try.prog 57 _ _ _ at hS
        have HS := Lib.hid hS
        have HLEN := Lib.hid hlen
        clear hS hlen
        go_wp2_with fail
        refine (HS.out _ _).mono ?_
        rintro e w' ⟨rfl, rfl⟩
        go_wp2_with fail
        go_ret
        refine ⟨_, [], rfl, ?_, .inl ⟨rfl, rfl⟩, O1'.out.trans OO.out⟩
        have hnil : flT M G k = [] := List.eq_nil_of_length_eq_zero HLEN.out
        exact TakenIs.of_perm WW.out (by rw [hnil]) List.Pairwise.nil
      · subst hl
        have hown2 := HOWN.out
        by_cases hpos : 0 < (flT M G k).length
        · have hq1 : mb < W1.heap.size := by have := z1'.out; omega
          have hq2 : sb < W1.heap.size := by have := z1'.out; omega
          have hS := sort_call (gb := gb) (gcap := gcap) (B := w.heap.size) (G := G) hn0 hn WW.out wr hB2.out (H1'.out.off hn0 OO.out (by simp) (by simp)) (by have := z1'.out; omega)
            (fun j hj => ⟨by rw [hown2.cellAt j (by omega)]; simp [natsV, List.getD, List.getElem?_eq_getElem hj], hown2.frozenAt j⟩) hpos
          have HS := Lib.hid hS
          have hgb' := Lib.hid hgb
          clear hS hown2 hheap hxs hcur hmx hlc hgb HOWN hq1 hq2
          go_wp2_with fail
          refine HS.out.mono ?_
          rintro e w' ⟨rfl, T, hT1, hT2, hT3, hT4⟩
          have T1 := Lib.hid hT1
          have T2 := Lib.hid hT2
          have T3 := Lib.hid hT3
          have T4 := Lib.hid hT4
          clear hT1 hT2 hT3 hT4
          go_wp2_with fail
          go_ret
          have e1 : (intsOf T).length = (flT M G k).length := by rw [← T1.out]; simp [intsOf]
          exact ⟨_, T, rfl, T2.out, .inr ⟨gb, 0, gcap, by have := z1'.out; have := hgb'.out; omega, by rw [e1]; rfl, fun i hi => T3.out i (by rw [e1] at hi; rw [T1.out]; exact hi)⟩,
            (O1'.out.trans OO.out).trans_new T4.out (fun x hx => .inr (by have := z1'.out; have := hgb'.out; simp at hx; omega))⟩
        · have hlen : (flT M G k).length = 0 := by omega
          have hS := fun (p : Value) (W : World) => AnyF.slices_SortFunc_none (P := Try.prog) (ρ := Try.laysSlF6_f57_ren) { Try.laysSlF6_f57 with } (some ⟨gb, 0, none⟩) gcap p W
          change ∀ p W, Calls Try.prog 57 _ _ _ at hS
          have HS := Lib.hid hS
          have HLEN := Lib.hid hlen
          rw [hlen] at HOWN ⊢
          clear hS hlen hpos hown2 hheap hxs hcur hmx hlc hfl
          go_wp2_with fail
          refine (HS.out _ _).mono ?_
          rintro e w' ⟨rfl, rfl⟩
          go_wp2_with fail
          go_ret
          have hnil : flT M G k = [] := List.eq_nil_of_length_eq_zero HLEN.out
          exact ⟨_, [], rfl, TakenIs.of_perm WW.out (by rw [hnil]) List.Pairwise.nil, .inr ⟨gb, 0, gcap, by have := z1'.out; omega, rfl, fun i hi => absurd hi (by simp [intsOf])⟩, O1'.out.trans OO.out⟩
end Go.Proofs.Ytoafoodgomnfeaa
