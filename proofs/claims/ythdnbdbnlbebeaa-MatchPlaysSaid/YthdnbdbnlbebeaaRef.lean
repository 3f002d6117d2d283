/- Contracts of the reference's lists (teaselref14). -/
import Derived.Test.YthdnbdbnlbebeaaAppends
import Derived.Test.YthdnbdbnlbebeaaProg
import Derived.WalkLawsBesides
import Derived.Deep.QuietTactic
import Derived.BigQuiet
import Derived.Deep.DeepMust
import Derived.Deep.RegionLaw
namespace Go.Proofs.Ythdnbdbnlbebeaa.R
open Go Go.RowKit Go.MapKept Go.Proofs.Ythdnbdbnlbebeaa

def rcells (R : List (Int × Int)) : List Value := R.flatMap (fun p => [.int .i64 p.1, .int .i64 p.2])

theorem rcells_length (R : List (Int × Int)) : (rcells R).length = R.length * 2 := by
  induction R with
  | nil => rfl
  | cons p R ih => simp only [rcells, List.flatMap_cons, List.length_append, List.length_cons, List.length_nil] at ih ⊢; omega
theorem rcells_append (R S : List (Int × Int)) : rcells (R ++ S) = rcells R ++ rcells S := by simp [rcells]
theorem rcells_get (R : List (Int × Int)) (i : Nat) (p : Int × Int) (h : R[i]? = some p) : (rcells R)[i * 2]? = some (.int .i64 p.1) ∧ (rcells R)[i * 2 + 1]? = some (.int .i64 p.2) := by
  induction R generalizing i with
  | nil => simp at h
  | cons q R ih =>
    cases i with
    | zero => simp at h; subst h; simp [rcells]
    | succ i =>
      simp at h
      have := ih i h
      simp only [rcells, List.flatMap_cons] at this ⊢
      constructor
      · rw [show (i + 1) * 2 = i * 2 + 1 + 1 by omega]; simpa using this.1
      · rw [show (i + 1) * 2 + 1 = i * 2 + 1 + 1 + 1 by omega]; simpa using this.2
theorem rcells_one (R : List (Int × Int)) : ∀ u ∈ rcells R, u.oneCell' = true := by
  intro u hu
  simp only [rcells, List.mem_flatMap] at hu
  obtain ⟨p, _, hp⟩ := hu
  simp at hp
  rcases hp with rfl | rfl <;> rfl

/-- The row of tasks v, in w: a row of its own, in a block from base on. -/
def Row (w : World) (base : Nat) (v : Value) (R : List (Int × Int)) : Prop := w.ownsRow base 66 2 v R.length (rcells R)

/-- The reference's lists behind a pointer to block p. -/
structure RefAt (w : World) (p : Nat) (v : Value) (most : Int) (R : List (Int × Int)) : Prop where
  blk : w.heap[p]? = some (.cells #[.int .i64 most, v] 64)
  own : Row w (p + 1) v R
  small : R.length ≤ 1000000

theorem RefAt.cells {w : World} {p : Nat} {v : Value} {most : Int} {R : List (Int × Int)} (h : RefAt w p v most R) : w.cell? ⟨p, 0, none⟩ = some (.int .i64 most) ∧ w.cell? ⟨p, 1, none⟩ = some v := by
  have h1 := h.blk
  exact ⟨by simp [World.cell?, h1], by simp [World.cell?, h1]⟩
/-- A row written out: where it lies, and what its cells hold. -/
theorem Row.at_ {w : World} {base : Nat} {v : Value} {R : List (Int × Int)} (h : Row w base v R) : ∃ (a : Option Addr) (g cap : Nat), v = .slice a R.length cap ∧ R.length ≤ cap ∧ cap ≤ maxLen ∧ (0 < R.length → a = some ⟨g, 0, none⟩) ∧
    ∀ i q, R[i]? = some q → w.cell? ⟨g, i * 2, none⟩ = some (.int .i64 q.1) ∧ w.cell? ⟨g, i * 2 + 1, none⟩ = some (.int .i64 q.2) := by
  obtain ⟨hl, ho⟩ := h
  rcases ho with ⟨rfl, h0⟩ | ⟨g, cap, cur, rfl, hb, hh, hn, hc, hs, ht⟩
  · exact ⟨none, 0, 0, by rw [h0], by omega, Nat.zero_le _, fun h => by omega, fun i q hq => by have := List.eq_nil_of_length_eq_zero h0; subst this; simp at hq⟩
  · refine ⟨_, g, cap, rfl, hn, hc, fun _ => rfl, fun i q hq => ?_⟩
    obtain ⟨h1, h2⟩ := rcells_get R i q hq
    have hi : i < R.length := (List.getElem?_eq_some_iff.1 hq).1
    have hc' : ∀ j u, (rcells R)[j]? = some u → j < R.length * 2 → cur[j]? = some u := by
      intro j u hu hj
      rw [← ht, List.getElem?_take, if_pos hj] at hu
      simpa using hu
    exact ⟨by simp [World.cell?, hh, hc' _ _ h1 (by omega)], by simp [World.cell?, hh, hc' _ _ h2 (by omega)]⟩
theorem Row.keeps {w w' : World} {S : Nat → Prop} {base : Nat} {v : Value} {R : List (Int × Int)} (h : Row w base v R) (hk : Keeps S w w') (hS : ∀ k, v.ownBlock = some k → ¬ S k) : Row w' base v R := by
  obtain ⟨hl, ho⟩ := h
  refine ⟨hl, ?_⟩
  rcases ho with h0 | ⟨g, cap, cur, rfl, hb, hh, hr⟩
  · exact .inl h0
  · exact .inr ⟨g, cap, cur, rfl, hb, hk.at_ hh (hS g rfl), hr⟩
theorem Row.base {w : World} {b b' : Nat} {v : Value} {R : List (Int × Int)} (h : Row w b v R) (hb : b' ≤ b) : Row w b' v R := by
  obtain ⟨k1, k2⟩ := h
  refine ⟨k1, ?_⟩
  rcases k2 with k2 | ⟨g, cap, cur, k2, k3, k4⟩
  · exact .inl k2
  · exact .inr ⟨g, cap, cur, k2, Nat.le_trans hb k3, k4⟩
theorem RefAt.keeps {w w' : World} {S : Nat → Prop} {p : Nat} {v : Value} {most : Int} {R : List (Int × Int)} (h : RefAt w p v most R) (hk : Keeps S w w') (hp : ¬ S p) (hS : ∀ k, v.ownBlock = some k → ¬ S k) : RefAt w' p v most R :=
  ⟨hk.at_ h.blk hp, h.own.keeps hk hS, h.small⟩
/-- The blocks in which they lie. -/
def In (p : Nat) (v : Value) : Nat → Prop := fun k => k = p ∨ v.ownBlock = some k

/-- The tasks of one list. -/
def row (R : List (Int × Int)) (k : Int) : List Int := (R.filter (fun p => p.1 == k)).map (·.2)
theorem row_snoc (R : List (Int × Int)) (k : Int) (i : Nat) (p : Int × Int) (h : R[i]? = some p) : row (R.take (i + 1)) k = row (R.take i) k ++ if p.1 == k then [p.2] else [] := by
  have hi := (List.getElem?_eq_some_iff.1 h).1
  have e : R[i] = p := by rw [List.getElem?_eq_getElem hi] at h; simpa using h
  unfold row
  rw [List.take_succ_eq_append_getElem hi, List.filter_append, List.map_append, e]
  by_cases hp : p.1 = k <;> simp [hp]
theorem row_length_le (R : List (Int × Int)) (k : Int) : (row R k).length ≤ R.length := by simp only [row, List.length_map]; exact List.length_filter_le _ _

set_option maxRecDepth 100000 in
set_option maxHeartbeats 1000000 in
theorem len {w : World} {p : Nat} {v : Value} {most : Int} {R : List (Int × Int)} (h : RefAt w p v most R) (k : Int) :
    Calls Try.prog 19 #[.pointer (some ⟨p, 0, none⟩), .int .i64 k] w fun e w' => e = .returned (.int .i64 (row R k).length) ∧ w = w' := by
  obtain ⟨c0, c1⟩ := h.cells
  obtain ⟨a, g, cap, rfl, hn, hc, ha, hcell⟩ := h.own.at_
  have hsm := h.small
  obtain ⟨n, hnn⟩ : ∃ n : Nat, n = R.length := ⟨_, rfl⟩
  rw [← hnn] at hn c1 hsm ha
  have HN := hid hnn; have HC := hid hcell; have HVA := hid ha
  clear hnn hcell ha h hc hn
  go_enter Try.func19, Try.ntmps19
  go_wp2_with fail
  go_loop [5, 6] (fun nn ix => ∃ i : Nat, i ≤ n ∧ ix = .int .i64 i ∧ nn = .int .i64 (row (R.take i) k).length) (fun _ ix => n - (intOf ix).toNat)
  case atStart => exact ⟨0, Nat.zero_le _, rfl, rfl⟩
  case round =>
    obtain ⟨i, hin, rfl, rfl⟩ := hrel
    by_cases hlt : i < n
    · have hva := HVA.out (by omega)
      subst hva
      obtain ⟨q, hq⟩ : ∃ q, R[i]? = some q := ⟨_, List.getElem?_eq_getElem (show i < R.length by rw [← HN.out]; exact hlt)⟩
      obtain ⟨h1, h2⟩ := HC.out i q hq
      have hcs := row_snoc R k i q hq
      have hcl : (row (R.take i) k).length ≤ i := Nat.le_trans (row_length_le _ _) (List.length_take_le _ _)
      have HCS := hid hcs
      clear hcs hq
      by_cases hk : q.1 = k
      · have hd : (q.1 == k) = true := by simp [hk]
        have e1 : (row (R.take (i + 1)) k).length = (row (R.take i) k).length + 1 := by rw [HCS.out, hd]; simp
        have HE := hid e1
        clear e1 hk
        generalize (row (R.take i) k).length = c at *
        go_wp2
        go_round
        case rel => exact ⟨i + 1, by omega, by go_num, by rw [HE.out]; go_num⟩
        case measure => simp [intOf]; omega
      · have hd : (q.1 == k) = false := by simp [hk]
        have e1 : (row (R.take (i + 1)) k).length = (row (R.take i) k).length := by rw [HCS.out, hd]; simp
        have HE := hid e1
        clear e1 hk
        generalize (row (R.take i) k).length = c at *
        go_wp2
        go_round
        case rel => exact ⟨i + 1, by omega, by go_num, by rw [HE.out]⟩
        case measure => simp [intOf]; omega
    · obtain rfl : i = n := by omega
      have e1 : R.take i = R := by rw [HN.out, List.take_length]
      rw [e1]
      obtain ⟨c, hgc⟩ : ∃ c : Nat, c = (row R k).length := ⟨_, rfl⟩
      rw [← hgc]
      have HG := hid hgc
      clear hgc
      go_wp2
      go_ret
      exact ⟨by rw [← HG.out]; rfl, rfl⟩

set_option maxHeartbeats 400000 in
theorem new_any (most : Int) (w : World) (h1 : 1 ≤ most) (h2 : most ≤ 65536) :
    Calls Try.prog 14 #[.int .i64 most] w fun e w' => e = .returned (.tuple #[.pointer (some ⟨w.heap.size, 0, none⟩), .int .i64 0]) ∧ Keeps None w w' ∧ w.heap.size < w'.heap.size ∧ RefAt w' w.heap.size (.slice none 0 0) most [] := by
  go_enter Try.func14, Try.ntmps14
  go_wp2
  go_ret2
  refine ⟨rfl, (Keeps.refl _ _).alloc _, by simp, ⟨heap_alloc_new _ _, World.ownsRow_nil _ _ _ _, by simp⟩⟩
set_option maxHeartbeats 400000 in
theorem new_no (most : Int) (w : World) (h : most < 1 ∨ 65536 < most) :
    Calls Try.prog 14 #[.int .i64 most] w fun e w' => e = .returned (.tuple #[.pointer none, .int .i64 1]) ∧ w = w' := by
  rcases h with h | h
  · go_enter Try.func14, Try.ntmps14
    go_wp2
    go_ret2
    exact ⟨rfl, rfl⟩
  · have h' : ¬ most < 1 := by omega
    go_enter Try.func14, Try.ntmps14
    go_wp2
    go_ret2
    exact ⟨rfl, rfl⟩

/-- The place of the first task of a list. -/
def first (R : List (Int × Int)) (k : Int) : Option (Nat × Int) := (R.findIdx? (fun p => p.1 == k)).bind (fun i => (R[i]?).map (fun q => (i, q.2)))
theorem first_none {R : List (Int × Int)} {k : Int} (h : ∀ (i : Nat) (q : Int × Int), R[i]? = some q → (q.1 == k) = false) : first R k = none := by
  unfold first
  rw [List.findIdx?_eq_none_iff.2 (fun q hq => by obtain ⟨i, hi⟩ := List.mem_iff_getElem?.1 hq; exact h i q hi)]
  rfl
theorem first_some {R : List (Int × Int)} {k : Int} {i : Nat} {q : Int × Int} (hq : R[i]? = some q) (hk : (q.1 == k) = true) (h : ∀ j, j < i → ∀ q : Int × Int, R[j]? = some q → (q.1 == k) = false) : first R k = some (i, q.2) := by
  have hi := (List.getElem?_eq_some_iff.1 hq).1
  have e : R[i] = q := by rw [List.getElem?_eq_getElem hi] at hq; simpa using hq
  unfold first
  rw [List.findIdx?_eq_some_iff_getElem.2 ⟨hi, by rw [e]; exact hk, fun j hj => by simpa using h j hj R[j] (List.getElem?_eq_getElem (by omega))⟩]
  simp [hq]

set_option maxRecDepth 100000 in
set_option maxHeartbeats 1000000 in
theorem peek {w : World} {p : Nat} {v : Value} {most : Int} {R : List (Int × Int)} (h : RefAt w p v most R) (k : Int) :
    Calls Try.prog 35 #[.pointer (some ⟨p, 0, none⟩), .int .i64 k] w fun e w' => e = .returned (.tuple #[.int .i64 ((first R k).elim 0 (·.2)), .bool (first R k).isSome]) ∧ w = w' := by
  obtain ⟨c0, c1⟩ := h.cells
  obtain ⟨a, g, cap, rfl, hn, hc, ha, hcell⟩ := h.own.at_
  have hsm := h.small
  obtain ⟨n, hnn⟩ : ∃ n : Nat, n = R.length := ⟨_, rfl⟩
  rw [← hnn] at hn c1 hsm ha
  have HN := hid hnn; have HC := hid hcell; have HVA := hid ha
  clear hnn hcell ha h hc hn
  go_enter Try.func35, Try.ntmps35
  go_wp2_with fail
  go_loop [6] (fun ix => ∃ i : Nat, i ≤ n ∧ ix = .int .i64 i ∧ ∀ j, j < i → ∀ q : Int × Int, R[j]? = some q → (q.1 == k) = false) (fun ix => n - (intOf ix).toNat)
  case atStart => exact ⟨0, Nat.zero_le _, rfl, fun j h => absurd h (by omega)⟩
  case round =>
    obtain ⟨i, hin, rfl, hno⟩ := hrel
    have HNO := hid hno
    clear hno
    by_cases hlt : i < n
    · have hva := HVA.out (by omega)
      subst hva
      obtain ⟨q, hq⟩ : ∃ q, R[i]? = some q := ⟨_, List.getElem?_eq_getElem (show i < R.length by rw [← HN.out]; exact hlt)⟩
      obtain ⟨h1, h2⟩ := HC.out i q hq
      have HQ := hid hq
      clear hq
      cases hd : q.1 == k with
      | true =>
        have hf := first_some HQ.out hd HNO.out
        have HF := hid hf
        clear hf
        go_wp2
        go_ret2
        rw [HF.out]
        exact ⟨rfl, rfl⟩
      | false =>
        go_wp2
        go_round
        case rel => exact ⟨i + 1, by omega, by go_num, fun j hj q' hq' => by
          rcases Nat.lt_or_eq_of_le (Nat.le_of_lt_succ hj) with h | rfl
          · exact HNO.out j h q' hq'
          · rw [HQ.out] at hq'; cases hq'; exact hd⟩
        case measure => simp [intOf]; omega
    · obtain rfl : i = n := by omega
      have hf := first_none (R := R) (k := k) (fun j q hq => HNO.out j (by rw [HN.out]; exact (List.getElem?_eq_some_iff.1 hq).1) q hq)
      have HF := hid hf
      clear hf
      go_wp2
      go_ret2
      rw [HF.out]
      exact ⟨rfl, rfl⟩

theorem infoE : (Try.prog.info? 66).map (fun i => (i.zero, i.size, i.bytes)) = some (some (.agg #[.int .i64 0, .int .i64 0]), 2, 16) := by kernel_rfl
set_option maxRecDepth 100000 in
set_option maxHeartbeats 400000 in
theorem push_full {w : World} {p : Nat} {v : Value} {most : Int} {R : List (Int × Int)} (h : RefAt w p v most R) (k t : Int) (hf : most ≤ (row R k).length) :
    Calls Try.prog 15 #[.pointer (some ⟨p, 0, none⟩), .int .i64 k, .int .i64 t] w fun e w' => e = .returned (.int .i64 4) ∧ ∃ q, w' = w.drewN q := by
  have hc := fun q => (len (w := w.drewN q) (h.keeps ((Keeps.refl None w).drewN q) (fun h => h) (fun _ _ h => h)) k).mono fun _ _ h => And.intro h.1 h.2.symm
  obtain ⟨c0, c1⟩ := h.cells
  have hd : decide (most ≤ ((row R k).length : Int)) = true := by simpa using hf
  clear h hf
  go_enter Try.func15, Try.ntmps15
  go_wp2_with fail
  go_quiet ((go_at_call 19; exact Calls.quiet_of_same (hc _)))
  go_wp2
  go_ret
  exact ⟨rfl, _, rfl⟩
theorem heap_set_cells {w : World} {p : Nat} {x y : Value} {T : TypeId} (h : w.heap[p]? = some (.cells #[x, y] T)) (u : Value) : (w.setCell ⟨p, 1, none⟩ u).heap[p]? = some (.cells #[x, u] T) := by
  simp [World.setCell, Array.getElem?_modify, h]
theorem slice_of_own {w : World} {base e size : Nat} {v : Value} {n : Nat} {xs : List Value} (h : w.ownsRow base e size v n xs) : ∃ a c, v = .slice a n c := by
  rcases h.2 with ⟨rfl, rfl⟩ | ⟨g, cap, cur, rfl, _⟩
  · exact ⟨_, _, rfl⟩
  · exact ⟨_, _, rfl⟩
theorem two_new (w : World) (x y : Value) (T : TypeId) : ∀ j u, [x, y][j]? = some u → (w.alloc (.cells #[x, y] T)).cell? ((⟨w.heap.size, 0, none⟩ : Addr).add j) = some u := by
  intro j u hu
  rw [Addr.add_lit]
  have : #[x, y][j]? = some u := by simpa using hu
  have hb := heap_alloc_new w (.cells #[x, y] T)
  simp only [World.cell?, hb, Nat.zero_add]
  exact this
set_option maxRecDepth 100000 in
set_option maxHeartbeats 400000 in
theorem push_room {w : World} {p : Nat} {v : Value} {most : Int} {R : List (Int × Int)} (h : RefAt w p v most R) (k t : Int) (hf : ¬ most ≤ (row R k).length) (hs : R.length < 1000000) :
    Calls Try.prog 15 #[.pointer (some ⟨p, 0, none⟩), .int .i64 k, .int .i64 t] w fun e w' => e = .returned (.int .i64 0) ∧ Keeps (In p v) w w' ∧ ∃ v', RefAt w' p v' most (R ++ [(k, t)]) ∧ ∀ j, v'.ownBlock = some j → v.ownBlock = some j ∨ w.heap.size ≤ j := by
  obtain ⟨i0, hi, hz0, hz1, hz2⟩ := info_parts infoE
  have hc := fun q => (len (w := w.drewN q) (h.keeps ((Keeps.refl None w).drewN q) (fun h => h) (fun _ _ h => h)) k).mono fun _ _ h => And.intro h.1 h.2.symm
  obtain ⟨c0, c1⟩ := h.cells
  have hd : decide (most ≤ ((row R k).length : Int)) = false := by simpa using hf
  have hlt := lt_of_block h.blk
  have HR := hid h
  clear h hf
  go_enter Try.func15, Try.ntmps15
  go_wp2_with fail
  go_quiet ((go_at_call 19; exact Calls.quiet_of_same (hc _)))
  have hX := ((Keeps.refl None w).drewN nq).alloc (.cells #[.int .i64 k, .int .i64 t] 66)
  have hrow : Row ((w.drewN nq).alloc (.cells #[.int .i64 k, .int .i64 t] 66)) (p + 1) v R := HR.out.own.keeps hX (fun _ _ h => h)
  have HX := hid hX; have HROW := hid hrow; have HLT := hid hlt
  clear hX hrow hlt
  go_wp2_with (at_builtin; go_must (refine wpList_append_mine rfl _ _ 62 rfl (p + 1) 66 i0 _ 2 16 Try.underlying62 hi hz0 hz1 hz2 rfl (by decide) v R.length (rcells R) rfl HROW.out ⟨w.heap.size, 0, none⟩ 1 1 [.int .i64 k, .int .i64 t] rfl rfl (two_new _ _ _ _) (by intro u hu; simp at hu; rcases hu with rfl | rfl <;> rfl) (by unfold maxLen; omega) (by omega) (by have := HLT.out; simp; omega) ?_; intro v' w2 hown2 hgrow hnew; obtain ⟨a2, cap2, hv2⟩ := slice_of_own hown2; subst hv2; have HOWN2 := hid hown2; have HG := hid hgrow; have HNEW := hid hnew; have hb2 : w2.heap[p]? = some (.cells #[.int .i64 most, v] 64) := (hgrow.block p (by have := HLT.out; simp; omega) (fun e => by have := World.ownsRow.lt HR.out.own p e.symm; omega)).trans (HX.out.at_ HR.out.blk (fun h => h)); have c02 : w2.cell? ⟨p, 0, none⟩ = some (.int .i64 most) := (by simp [World.cell?, hb2]); have c12 : w2.cell? ⟨p, 1, none⟩ = some v := (by simp [World.cell?, hb2]); have c22 : w2.frozen? ⟨p, 1, none⟩ = false := (by simp [World.frozen?, hb2]); have HB2 := hid hb2; clear hown2 hgrow hnew hb2))
  go_ret
  have hk2 : Keeps (In p v) w w2 := (Keeps.of_none HX.out).grown HG.out (fun j hj => .inr (.inr hj))
  have hlt := HLT.out
  refine ⟨rfl, hk2.setCell (p := ⟨p, 1, none⟩) (.inr (.inl rfl)) _, .slice a2 (R.length + 1) cap2, ⟨?_, ?_, by simp; omega⟩, ?_⟩
  · refine heap_set_cells HB2.out _
  · have hr : Row w2 (p + 1) (.slice a2 (R.length + 1) cap2) (R ++ [(k, t)]) := by
      have := HOWN2.out
      unfold Row
      rw [rcells_append, List.length_append]
      exact this
    exact hr.keeps (S := One p) (Keeps.setAt w2 p 1 _) (fun j hj hp => by have := World.ownsRow.lt HOWN2.out j hj; have : j = p := hp; omega)
  · intro j hj
    rcases HNEW.out with h | ⟨j', h, hle⟩
    · exact .inl (h ▸ hj)
    · rw [h] at hj; simp at hj; subst hj; simp at hle; exact .inr (by omega)
end Go.Proofs.Ythdnbdbnlbebeaa.R
