/-
  YtoafoodgomnfeaaRefe: Give of the document's memory.
-/
import Derived.Test.YtoafoodgomnfeaaRefd
import Derived.Deep.RegionLaw
namespace Go.Proofs.Ytoafoodgomnfeaa
open Go.RowKit
set_option linter.unusedVariables false

/-- 'append' at a step of a region that draws its order, whatever many are appended. -/
theorem step_append_at {P : Program} {w : World} {ops : Array Oper} {o : Oper} {a : Act} {K : Act → World → Prop} {Q : Exit → Act → World → Prop} {E : Prop} (hgd : o.guard = none) (s x : Operand) (t : TypeId)
    (ho : o.op = .call { callee := .builtin .append, args := #[s, x], argTypes := #[t, t] })
    (base : Nat) (e : TypeId) (i : TypeInfo) (z : Value) (size bytes : Nat) (ht : P.underlying t = some (.slice e)) (hi : P.info? e = some i) (hz : i.zero = some z)
    (hsize : i.size = size) (hby : i.bytes = bytes) (hzs : z.cells.size = size) (hsz : 0 < size)
    (v : Value) (n : Nat) (xs : List Value) (hs : a.eval s = v) (hown : w.ownsRow base e size v n xs)
    (ad : Addr) (m c : Nat) (news : List Value) (hx : a.eval x = .slice (some ad) m c) (hl : news.length = m * size) (hnews : ∀ j u, news[j]? = some u → w.cell? (ad.add j) = some u) (h1 : ∀ u ∈ news, u.oneCell' = true)
    (h63 : n + m ≤ maxLen) (hbytes : (n + m) * bytes ≤ 140737488355328) (hbase : base ≤ w.heap.size)
    (h : ∀ v' w', w'.ownsRow base e size v' (n + m) (xs ++ news) → w.grownBy w' v.ownBlock → (v'.ownBlock = v.ownBlock ∨ v'.ownBlock = some w.heap.size) → K (a.put o.dst v') w') :
    if Region.wanted o (yielded ops a.tmps) = true then Oper.wp P o a w K Q else E := by
  have hw : Region.wanted o (yielded ops a.tmps) = true := by simp [Region.wanted, hgd]
  rw [if_pos hw]
  obtain ⟨v', w', hr, h2, h3, _, h5⟩ := run_append_own_at (P := P) w base t o.type e i z size bytes ht hi hz hsize hby hzs hsz v n xs hown ad m c news hl hnews h1 h63 hbytes hbase
  unfold Oper.wp execOp
  simp only [ho, resolve, invoke, builtin, Sem.run_bind, Sem.run_pure, Result.andThen_ok, List.map_toArray, List.map_cons, List.map_nil, hs, hx, hr]
  exact h v' w' h2 h3 h5

/-- The list without its i-th. -/
def cutT (T : List Nat) (i : Nat) : List Nat := T.take i ++ T.drop (i + 1)
theorem cutT_len {T : List Nat} {i : Nat} (hi : i < T.length) : (cutT T i).length = i + (T.length - (i + 1)) := by unfold cutT; rw [List.length_append, List.length_take, List.length_drop]; omega
theorem cutT_get {T : List Nat} {i : Nat} (hi : i < T.length) (j : Nat) (hj : j < (cutT T i).length) : (cutT T i).getD j 0 = T.getD (if j < i then j else j + 1) 0 := by
  unfold cutT
  rw [cutT_len hi] at hj
  by_cases h : j < i
  · rw [if_pos h, List.getD, List.getD, List.getElem?_append_left (by rw [List.length_take]; omega), List.getElem?_take, if_pos h]
  · rw [if_neg h, List.getD, List.getD, List.getElem?_append_right (by rw [List.length_take]; omega), List.getElem?_drop, List.length_take]
    congr 2
    omega
theorem cutT_mem {T : List Nat} (hnd : T.Nodup) {i : Nat} (hi : i < T.length) (x : Nat) : x ∈ cutT T i ↔ x ∈ T ∧ x ≠ T.getD i 0 := by
  constructor
  · intro h
    obtain ⟨j, hj, e⟩ := mem_getD h
    rw [cutT_get hi j hj] at e
    rw [cutT_len hi] at hj
    have hj' : (if j < i then j else j + 1) < T.length := by split <;> omega
    refine ⟨e ▸ getD_mem hj', fun e' => ?_⟩
    rw [← e] at e'
    have := getD_inj hnd hj' hi e'
    split at this <;> omega
  · rintro ⟨h, hne⟩
    obtain ⟨j, hj, e⟩ := mem_getD h
    have hji : j ≠ i := fun e' => hne (by rw [← e, e'])
    by_cases hlt : j < i
    · have hl : j < (cutT T i).length := by rw [cutT_len hi]; omega
      have := cutT_get hi j hl
      rw [if_pos hlt, e] at this
      exact this ▸ getD_mem hl
    · have hl : j - 1 < (cutT T i).length := by rw [cutT_len hi]; omega
      have := cutT_get hi (j - 1) hl
      rw [if_neg (by omega), show j - 1 + 1 = j by omega, e] at this
      exact this ▸ getD_mem hl

theorem TakenIs.give {n : Nat} {M : MemS} {T : List Nat} (hT : TakenIs M n [] T) {i : Nat} (hi : i < T.length) : TakenIs (M.give (T.getD i 0)) n [] (cutT T i) := by
  have hs : (M.give (T.getD i 0)).S (T.getD i 0) = SegS.zero := MemS.put_same _ _ _
  have ho : ∀ j, j ≠ T.getD i 0 → (M.give (T.getD i 0)).S j = M.S j := fun j hj => MemS.put_other _ _ _ hj
  refine ⟨fun x => ?_, ?_⟩
  · rw [cutT_mem hT.nodup hi, hT.mem]
    by_cases e : x = T.getD i 0
    · subst e
      simp only [ne_eq, not_true, and_false, false_iff]
      rintro ⟨_, h⟩
      rw [selB_free (by rw [hs]; rfl)] at h
      cases h
    · have e1 : selB (M.give (T.getD i 0)) [] x = selB M [] x := by unfold selB; rw [ho x e]
      rw [e1]
      exact ⟨fun h => h.1, fun h => ⟨h, e⟩⟩
  · have hsub : (cutT T i).Sublist T := by
      unfold cutT
      conv => rhs; rw [← List.take_append_drop i T]
      exact (List.Sublist.refl _).append (by rw [← List.drop_drop]; exact (List.drop_sublist 1 _))
    have := hT.ord.sublist hsub
    refine (List.Pairwise.and_mem.1 this).imp ?_
    rintro x y ⟨hx, hy, hxy⟩
    rw [ho x ((cutT_mem hT.nodup hi x).1 hx).2, ho y ((cutT_mem hT.nodup hi y).1 hy).2]
    exact hxy

/-- The row without the nine of the i-th. -/
theorem rowR_cut {M : MemS} {V : Nat → Value} {T : List Nat} (hnd : T.Nodup) {i : Nat} (hi : i < T.length) :
    (rowR M V T).take (i * 9) ++ (rowR M V T).drop ((i + 1) * 9) = rowR (M.give (T.getD i 0)) V (cutT T i) := by
  have ho : ∀ j, j ≠ T.getD i 0 → (M.give (T.getD i 0)).S j = M.S j := fun j hj => MemS.put_other _ _ _ hj
  have hc : ∀ x, x ∈ cutT T i → ∀ q, q < 9 → cellR (M.give (T.getD i 0)) V x q = cellR M V x q := fun x hx q hq => by
    have := ho x ((cutT_mem hnd hi x).1 hx).2
    match q, hq with
    | 0, _ | 1, _ | 2, _ | 3, _ | 4, _ | 5, _ | 6, _ | 7, _ | 8, _ => simp only [cellR, this]
  have e1 : rowR (M.give (T.getD i 0)) V (cutT T i) = rowR M V (cutT T i) := rowR_congr hc
  rw [e1]
  have hl := cutT_len hi
  have hlr := rowR_len M V T
  apply List.ext_getElem?
  intro p
  by_cases hp : p < (cutT T i).length * 9
  · obtain ⟨x, y, hx, hy, rfl⟩ : ∃ x y, x < (cutT T i).length ∧ y < 9 ∧ p = x * 9 + y := ⟨p / 9, p % 9, by omega, by omega, by omega⟩
    rw [rowR_get M V (cutT T i) x y hx hy, cutT_get hi x hx]
    by_cases h : x < i
    · rw [List.getElem?_append_left (by rw [List.length_take]; omega), List.getElem?_take, if_pos (by omega), rowR_get M V T x y (by omega) hy, if_pos h]
    · rw [List.getElem?_append_right (by rw [List.length_take]; omega), List.getElem?_drop, List.length_take, if_neg h]
      rw [show (i + 1) * 9 + (x * 9 + y - min (i * 9) (rowR M V T).length) = (x + 1) * 9 + y by omega, rowR_get M V T (x + 1) y (by omega) hy]
  · rw [List.getElem?_eq_none (by rw [List.length_append, List.length_take, List.length_drop]; omega), List.getElem?_eq_none (by rw [rowR_len]; omega)]

/-- What append has made of a new block: it lies there, and is not of the old world. -/
structure NewRow (w w' : World) (x : Value) (n : Nat) (xs : List Value) : Prop where
  row : w'.ownsRow 0 125 9 x n xs
  off : Off [] w w'
  new : ∀ b, x.ownBlock = some b → w.heap.size ≤ b

theorem NewRow.form {w w' : World} {x : Value} {n : Nat} {xs : List Value} (h : NewRow w w' x n xs) : ∃ a m c, x = .slice a m c := by
  rcases h.row.2 with ⟨e, _⟩ | ⟨g, cap, cur, e, _⟩ <;> exact ⟨_, _, _, e⟩

theorem NewRow.first {w w' : World} {v' : Value} {i : Nat} {xs : List Value} (hown : w'.ownsRow 0 125 9 v' (0 + i) ([] ++ xs)) (hg : (w.alloc (.cells #[] 125)).drew.grownBy w' (some w.heap.size)) (hat : v'.ownBlock = some w.heap.size ∨ v'.ownBlock = some (w.alloc (.cells #[] 125)).drew.heap.size) : NewRow w w' v' i xs := by
  refine ⟨by simpa using hown, ((Off.refl [] w).alloc _).drew.grownL hg (fun k hk => .inr (by cases hk; exact Nat.le_refl _)), fun b hb => ?_⟩
  rcases hat with e | e <;> rw [hb] at e <;> cases e
  · exact Nat.le_refl _
  · exact ((Off.refl [] w).alloc _).drew.size
theorem NewRow.second {w w1 w' : World} {v1 v' : Value} {i m : Nat} {xs ys : List Value} (h : NewRow w w1 v1 i xs) (hown : w'.ownsRow 0 125 9 v' (i + m) (xs ++ ys)) (hg : w1.grownBy w' v1.ownBlock) (hat : v'.ownBlock = v1.ownBlock ∨ v'.ownBlock = some w1.heap.size) : NewRow w w' v' (i + m) (xs ++ ys) := by
  refine ⟨hown, h.off.grownL hg (fun k hk => .inr (h.new k hk)), fun b hb => ?_⟩
  rcases hat with e | e <;> rw [hb] at e
  · exact h.new b e.symm
  · cases e; exact h.off.size
theorem RefAt.one {w : World} {rb N : Nat} {M : MemS} {T : List Nat} {V : Nat → Value} {v : Value} (h : RefAt w rb N M T V v) : ∀ u ∈ rowR M V T, u.oneCell' = true := by
  intro u hu
  unfold rowR at hu
  rw [List.mem_map] at hu
  obtain ⟨q, hq, rfl⟩ := hu
  rw [List.mem_range] at hq
  have hT : T.getD (q / 9) 0 ∈ T := getD_mem (by omega)
  have h9 : q % 9 < 9 := by omega
  generalize T.getD (q / 9) 0 = x at hT ⊢
  generalize q % 9 = y at h9 ⊢
  match y, h9 with
  | 0, _ | 1, _ | 2, _ | 3, _ | 4, _ | 5, _ | 6, _ | 7, _ => rfl
  | 8, _ =>
    obtain ⟨a, cap, g, hv, _⟩ := h.words hT
    simp only [cellR, hv]
    rfl
theorem RefAt.newsD {w W : World} {rb N : Nat} {M : MemS} {T : List Nat} {V : Nat → Value} {v : Value} (h : RefAt w rb N M T V v) {lg : Nat} (hg : v.ownBlock = some lg) (O : Off [] w W) (k0 : Nat) : ∀ j u, ((rowR M V T).drop k0)[j]? = some u → W.cell? ((⟨lg, k0, none⟩ : Addr).add j) = some u := by
  intro j u hu
  obtain ⟨la, lcap, lg', hv0, hla, hlc⟩ := ownsRow_form h.row
  rw [List.getElem?_drop] at hu
  have hlt : k0 + j < T.length * 9 := by
    rcases Nat.lt_or_ge (k0 + j) (T.length * 9) with h' | h'
    · exact h'
    · rw [List.getElem?_eq_none (by rw [rowR_len]; exact h')] at hu; cases hu
  obtain ⟨_, e⟩ := hla (by omega)
  rw [hg] at e
  cases e
  have hadd : (⟨lg, k0, none⟩ : Addr).add j = ⟨lg, k0 + j, none⟩ := by unfold Addr.add; split <;> simp_all
  rw [hadd]
  exact O.cell (by rw [(hlc _ hlt).1, hu]) (by simp)
theorem row_cap {w : World} {e : TypeId} {size n m cap : Nat} {a : Addr} {xs : List Value} (h : w.ownsRow 0 e size (.slice (some a) m cap) n xs) : n ≤ cap ∧ cap ≤ maxLen := by
  rcases h.2 with ⟨e, _⟩ | ⟨g, cap', cur, e, _, _, h1, h2, _⟩
  · cases e
  · cases e; exact ⟨h1, h2⟩
theorem Off.empty_row (w : World) : (w.alloc (.cells #[] 125)).drew.ownsRow 0 125 9 (.slice (some ⟨w.heap.size, 0, none⟩) 0 0) 0 [] := by
  refine ⟨rfl, .inr ⟨w.heap.size, 0, #[], rfl, Nat.zero_le _, ?_, Nat.le_refl _, by unfold maxLen; omega, rfl, rfl⟩⟩
  exact Array.getElem?_push_size

theorem RefAt.give {w w' : World} {rb n : Nat} {M : MemS} {T : List Nat} {V : Nat → Value} {v v' : Value} (h : RefAt w rb n M T V v) (hT : TakenIs M n [] T) {i : Nat} (hi : i < T.length)
    (nr : NewRow w w' v' (i + (T.length - (i + 1))) ((rowR M V T).take (i * 9) ++ (rowR M V T).drop ((i + 1) * 9))) : RefTo rb n (M.give (T.getD i 0)) T V v w (w'.setCell ⟨rb, 1, none⟩ v') := by
  have hrb := h.lt (.inl rfl : RefOwn rb T V v rb)
  have hnd := hT.nodup
  have ho : ∀ j, j ≠ T.getD i 0 → (M.give (T.getD i 0)).S j = M.S j := fun j hj => MemS.put_other _ _ _ hj
  have O9 : Off [rb] w' (w'.setCell ⟨rb, 1, none⟩ v') := (Off.refl _ _).setCell (by simp) _
  have OW : Off [rb] w (w'.setCell ⟨rb, 1, none⟩ v') := (nr.off.mono (by simp)).trans O9
  have hsub : ∀ x, x ∈ cutT T i → x ∈ T ∧ x ≠ T.getD i 0 := fun x hx => (cutT_mem hnd hi x).1 hx
  have hrow := nr.row
  rw [rowR_cut hnd hi, ← cutT_len hi] at hrow
  refine ⟨cutT T i, V, v', ⟨?_, ?_, ?_, ?_, fun x hx => ?_, fun e => ?_, fun x hx q hq => ?_, fun x hx y hy hxy q hq => ?_⟩, hT.give hi, ⟨_, OW, fun q hq => ?_⟩, fun q hq => ?_⟩
  · rw [World.cell?_setCell_other _ _ _ _ (by simp)]; exact nr.off.cell h.n0 (by simp)
  · exact World.cell?_setCell_same _ _ _ (nr.off.cell h.l (by simp))
  · rw [World.frozen?_setCell]; exact (nr.off.frozen (p := ⟨rb, 1, none⟩) hrb (by simp)).trans h.fz
  · exact ownsRow_off2 hrow O9 (fun q hq => by have := nr.new q hq; simp; omega)
  · have e2 : wordsR (M.give (T.getD i 0)) x = wordsR M x := by unfold wordsR; rw [ho x (hsub x hx).2]
    rw [e2, ho x (hsub x hx).2]
    exact ownsRow_off2 (h.wrow x (hsub x hx).1) OW (fun q hq => by have := (h.ap1 x (hsub x hx).1 q hq).2; simpa using this)
  · have := nr.new rb e; omega
  · refine ⟨fun e => ?_, (h.ap1 x (hsub x hx).1 q hq).2⟩
    have := nr.new q e
    have := ((h.wrow x (hsub x hx).1).lt q hq).2
    omega
  · exact h.ap2 x (hsub x hx).1 y (hsub y hy).1 hxy q hq
  · simp at hq; exact .inl hq
  · rcases hq with rfl | hq | ⟨x, hx, hq⟩
    · exact .inl (.inl rfl)
    · exact .inr (nr.new q hq)
    · exact .inl (.inr (.inr ⟨x, (hsub x hx).1, hq⟩))

set_option maxHeartbeats 2000000 in
set_option maxRecDepth 100000 in
theorem rgive_all {w : World} {rb n c : Nat} {M M' : MemS} {T : List Nat} {V : Nat → Value} {v : Value} (h : RefAt w rb n M T V v) (W : Wf n M c) (hT : TakenIs M n [] T) (hn : n ≤ 1024) (a : Int) {s : Int} (hR : GiveIs n M a s M') :
    Calls Try.prog 64 #[.pointer (some ⟨rb, 0, none⟩), .int .i64 a] w fun e w' => e = .returned (.int .i64 s) ∧ RefTo rb n M' T V v w w' := by
  have hTl := hT.len
  rcases hR with ⟨rfl, hx, rfl⟩ | ⟨rfl, hx, rfl⟩
  · obtain ⟨i, hi, e, hp⟩ := place_taken h hT hn hx
    have hk : a.toNat = T.getD i 0 := by omega
    rw [hk]
    obtain ⟨la, lcap, lg, hv0, hla, hlc⟩ := h.form
    obtain ⟨rfl, hlo⟩ := hla (by omega)
    have h1 := h.l
    have hfz := h.fz
    rw [hv0] at h1
    obtain ⟨i0, hi', hz0, hz1, hz2⟩ := info_parts info125
    have hlen : T.length ≤ lcap := (row_cap (hv0 ▸ h.row)).1
    have hcm : lcap ≤ maxLen := (row_cap (hv0 ▸ h.row)).2
    have keep : ∀ w', Off [] w w' → Off [] w w' ∧ w'.cell? ⟨rb, 1, none⟩ = some (.slice (some ⟨lg, 0, none⟩) T.length lcap) ∧ w'.frozen? ⟨rb, 1, none⟩ = false := fun w' O => ⟨O, O.cell h1 (by simp), (O.frozen (p := ⟨rb, 1, none⟩) (h.lt (.inl rfl)) (by simp)).trans hfz⟩
    have hO0 := Off.refl [rb] w
    have hOn := ((Off.refl [] w).alloc (.cells #[] 125)).drew
    have hlt1 : ((rowR M V T).take (i * 9)).length = i * 9 := by rw [List.length_take, rowR_len]; omega
    have hlt2 : ((rowR M V T).drop ((i + 1) * 9)).length = (T.length - (i + 1)) * 9 := by rw [List.length_drop, rowR_len]; omega
    have hne1 : ∀ j u, ((rowR M V T).take (i * 9))[j]? = some u → (w.alloc (.cells #[] 125)).drew.cell? ((⟨lg, 0, none⟩ : Addr).add j) = some u := fun j u hu => h.newsD hlo hOn 0 j u (by
      rw [List.getElem?_take] at hu
      split at hu
      · exact hu
      · cases hu)
    have hone1 : ∀ u ∈ (rowR M V T).take (i * 9), u.oneCell' = true := fun u hu => h.one u (List.mem_of_mem_take hu)
    have hone2 : ∀ u ∈ (rowR M V T).drop ((i + 1) * 9), u.oneCell' = true := fun u hu => h.one u (List.mem_of_mem_drop hu)
    have hcA := (keep _ hOn).2.1
    have hc1 := (keep _ ((Off.refl [] w).drew)).2.1
    have h63 : 0 + i ≤ maxLen := by omega
    have hby : (0 + i) * 88 ≤ 140737488355328 := by omega
    have h63b : i + (T.length - (i + 1)) ≤ maxLen := by omega
    have hbyb : (i + (T.length - (i + 1))) * 88 ≤ 140737488355328 := by omega
    have hfa : ∀ W, Off [] w W → ∀ j u, ((rowR M V T).drop ((i + 1) * 9))[j]? = some u → W.cell? ((⟨lg, (i + 1) * 9, none⟩ : Addr).add j) = some u := fun W O => h.newsD hlo O _
    have HP := Lib.hid hp
    have hh := Lib.hid h
    have hT' := Lib.hid hT
    have HI := Lib.hid hi'
    have HZ := Lib.hid hz0
    have HZ1 := Lib.hid hz1
    have HZ2 := Lib.hid hz2
    have HL1 := Lib.hid hlt1
    have HL2 := Lib.hid hlt2
    have HN1 := Lib.hid hne1
    have HO1 := Lib.hid hone1
    have HO2 := Lib.hid hone2
    have HFA := Lib.hid hfa
    have HER := Lib.hid (Off.empty_row w)
    clear hp hlc h hT hx W e hk hi' hz0 hz1 hz2 hlt1 hlt2 hne1 hone1 hone2 hfa
    by_cases hce : lcap = i + 1
    · have hdr : (rowR M V T).drop ((i + 1) * 9) = [] := List.eq_nil_of_length_eq_zero (by rw [HL2.out]; omega)
      have HFB := Lib.hid (fun (W : World) (ad : Addr) (j : Nat) (u : Value) (hu : ((rowR M V T).drop ((i + 1) * 9))[j]? = some u) => (by rw [hdr] at hu; simp at hu : W.cell? (ad.add j) = some u))
      clear hdr
      go_enter Try.func64, Try.ntmps64
      go_wp2_with fail
      refine HP.out.mono ?_
      rintro e w2 ⟨rfl, rfl⟩
      have hi0 : (0 : Int) ≤ (i : Int) := by omega
      have hi1 : (i : Int) ≤ (lcap : Int) := by omega
      have hi2 : (i : Int) + 1 ≤ (lcap : Int) := by omega
      have hi3 : (i : Int) + 1 ≤ (T.length : Int) := by omega
      have hi4 : (0 : Int) ≤ (i : Int) + 1 := by omega
      have hi5 : (T.length : Int) ≤ (lcap : Int) := by omega
      have hil : (i : Int) ≤ (T.length : Int) := by omega
      have hi7 : (i : Int) ≤ (i : Int) + 1 := by omega
      have htn : ((i : Int) + 1).toNat = i + 1 := by omega
      have hwr : IntKind.i64.wrap ((i : Int) + 1) = (i : Int) + 1 := by rw [IntKind.wrap_i64]; unfold maxLen at hcm; omega
      go_wp2_with fail
      go_region_law (first
          | (refine step_append_at rfl (.tmp 12) (.tmp 18) 118 rfl 0 125 i0 _ 9 88 Try.underlying118 HI.out HZ.out HZ1.out HZ2.out rfl (by decide) _ 0 [] rfl HER.out _ i _ _ rfl HL1.out HN1.out HO1.out h63 hby (Nat.zero_le _) ?_; intro v8 w8 hown hg hat; have nr8 := NewRow.first hown hg hat; obtain ⟨_, hc8, hz8⟩ := keep _ nr8.off; clear hown hg hat)
          | (have nr := ‹NewRow w _ _ i _›; refine step_append_at rfl (.tmp 19) (.tmp 26) 118 rfl 0 125 i0 _ 9 88 Try.underlying118 HI.out HZ.out HZ1.out HZ2.out rfl (by decide) _ i _ rfl nr.row _ (T.length - (i + 1)) _ _ rfl HL2.out (HFB.out _ _) HO2.out h63b hbyb (Nat.zero_le _) ?_; intro v16 w16 hown hg hat; have nr16 := NewRow.second nr hown hg hat; obtain ⟨a16, n16, c16, e16⟩ := nr16.form; subst e16; have hk16 := keep _ nr16.off; obtain ⟨_, hc16, hz16⟩ := hk16; clear hown hg hat)
          | fail)
      all_goals (
        have hfin := hh.out.give hT'.out hi (‹NewRow w _ _ (i + (T.length - (i + 1))) _›)
        go_wp2
        go_ret
        exact ⟨rfl, hfin⟩)
    · go_enter Try.func64, Try.ntmps64
      go_wp2_with fail
      refine HP.out.mono ?_
      rintro e w2 ⟨rfl, rfl⟩
      have hi0 : (0 : Int) ≤ (i : Int) := by omega
      have hi1 : (i : Int) ≤ (lcap : Int) := by omega
      have hi2 : (i : Int) + 1 ≤ (lcap : Int) := by omega
      have hi3 : (i : Int) + 1 ≤ (T.length : Int) := by omega
      have hi4 : (0 : Int) ≤ (i : Int) + 1 := by omega
      have hi5 : (T.length : Int) ≤ (lcap : Int) := by omega
      have hil : (i : Int) ≤ (T.length : Int) := by omega
      have hi7 : (i : Int) ≤ (i : Int) + 1 := by omega
      have htn : ((i : Int) + 1).toNat = i + 1 := by omega
      have hwr : IntKind.i64.wrap ((i : Int) + 1) = (i : Int) + 1 := by rw [IntKind.wrap_i64]; unfold maxLen at hcm; omega
      go_wp2_with fail
      go_region_law (first
          | (refine step_append_at rfl (.tmp 12) (.tmp 18) 118 rfl 0 125 i0 _ 9 88 Try.underlying118 HI.out HZ.out HZ1.out HZ2.out rfl (by decide) _ 0 [] rfl HER.out _ i _ _ rfl HL1.out HN1.out HO1.out h63 hby (Nat.zero_le _) ?_; intro v8 w8 hown hg hat; have nr8 := NewRow.first hown hg hat; obtain ⟨_, hc8, hz8⟩ := keep _ nr8.off; clear hown hg hat)
          | (have nr := ‹NewRow w _ _ i _›; refine step_append_at rfl (.tmp 19) (.tmp 26) 118 rfl 0 125 i0 _ 9 88 Try.underlying118 HI.out HZ.out HZ1.out HZ2.out rfl (by decide) _ i _ rfl nr.row _ (T.length - (i + 1)) _ _ rfl HL2.out (HFA.out _ nr.off) HO2.out h63b hbyb (Nat.zero_le _) ?_; intro v16 w16 hown hg hat; have nr16 := NewRow.second nr hown hg hat; obtain ⟨a16, n16, c16, e16⟩ := nr16.form; subst e16; have hk16 := keep _ nr16.off; obtain ⟨_, hc16, hz16⟩ := hk16; clear hown hg hat)
          | fail)
      all_goals (
        have hfin := hh.out.give hT'.out hi (‹NewRow w _ _ (i + (T.length - (i + 1))) _›)
        go_wp2
        go_ret
        exact ⟨rfl, hfin⟩)
  · have hp := place_none h hT hn hx
    have hfin := Lib.hid (RefTo.same h hT)
    clear h hT W
    go_enter Try.func64, Try.ntmps64
    go_wp2_with fail
    refine hp.mono ?_
    rintro e w2 ⟨rfl, rfl⟩
    go_wp2
    go_ret
    exact ⟨rfl, hfin.out⟩
end Go.Proofs.Ytoafoodgomnfeaa
