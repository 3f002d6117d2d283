/- MatchPlays: what each act does to the two, and that they agree. -/
import Derived.Test.YthdnbdbnlbebeaaLooks
import Derived.Test.YthdnbdbnlbebeaaKeep
namespace Go.Proofs.Ythdnbdbnlbebeaa
open Go Go.RowKit Go.MapKept

/-- What the lists' rows may not lie in: the map, and the reference's blocks. -/
def Mof (b p' : Nat) (v' : Value) : Nat → Prop := fun k => k = b ∨ R.In p' v' k

structure St (W0 w : World) (p b p' : Nat) (most : Int) (L : List (Int × List Int)) (Z : List (Int × Int)) (v' : Value) : Prop where
  lists : LI.ListsAt w (Mof b p' v') p b most L
  ref : R.RefAt w p' v' most Z
  keeps : Keeps None W0 w
  lo : W0.heap.size ≤ p ∧ W0.heap.size ≤ b ∧ p < p' ∧ b < p'
theorem St.lt {W0 w : World} {p b p' : Nat} {most : Int} {L : List (Int × List Int)} {Z : List (Int × Int)} {v' : Value} (h : St W0 w p b p' most L Z v') : p < w.heap.size ∧ b < w.heap.size ∧ p' < w.heap.size := by
  have h1 := lt_of_block h.ref.blk
  have := h.lo
  omega
theorem St.M {W0 w : World} {p b p' : Nat} {most : Int} {L : List (Int × List Int)} {Z : List (Int × Int)} {v' : Value} (h : St W0 w p b p' most L Z v') : ∀ i, Mof b p' v' i → i < w.heap.size := by
  intro i hi
  have := h.lt
  rcases hi with rfl | rfl | hi
  · omega
  · omega
  · exact (World.ownsRow.lt h.ref.own i hi).2
theorem St.row {W0 w : World} {p b p' : Nat} {most : Int} {L : List (Int × List Int)} {Z : List (Int × Int)} {v' : Value} (h : St W0 w p b p' most L Z v') : ∀ j, v'.ownBlock = some j → p' < j ∧ j < w.heap.size := fun j hj => by
  have := World.ownsRow.lt h.ref.own j hj; omega
theorem St.same {W0 w w' : World} {p b p' : Nat} {most : Int} {L : List (Int × List Int)} {Z : List (Int × Int)} {v' : Value} (h : St W0 w p b p' most L Z v') (hk : Keeps None w w') : St W0 w' p b p' most L Z v' :=
  ⟨h.lists.keeps hk (fun _ _ h => h.elim) (fun _ _ h => h) (fun h => h) (fun h => h), h.ref.keeps hk (fun h => h) (fun _ _ h => h), h.keeps.then' hk, h.lo⟩
/-- The lists have turned. -/
theorem St.lset {W0 w w' : World} {p b p' : Nat} {most : Int} {L L' : List (Int × List Int)} {Z : List (Int × Int)} {v' : Value} (h : St W0 w p b p' most L Z v') (hk : Keeps (One b) w w') (hL : LI.ListsAt w' (Mof b p' v') p b most L') : St W0 w' p b p' most L' Z v' :=
  ⟨hL, h.ref.keeps hk (fun e => by have := h.lo; have e : p' = b := e; omega) (fun j hj e => by have := h.row j hj; have := h.lo; have e : j = b := e; omega),
    h.keeps.trans hk (fun _ _ h => h) (fun i hi e => by have := h.lo; have e : i = b := e; omega), h.lo⟩
/-- The reference has turned. -/
theorem St.rset {W0 w w' : World} {p b p' : Nat} {most : Int} {L : List (Int × List Int)} {Z Z' : List (Int × Int)} {v' v'' : Value} (h : St W0 w p b p' most L Z v') (hk : Keeps (R.In p' v') w w') (hR : R.RefAt w' p' v'' most Z')
    (hv : ∀ j, v''.ownBlock = some j → v'.ownBlock = some j ∨ w.heap.size ≤ j) : St W0 w' p b p' most L Z' v'' :=
  ⟨h.lists.keeps hk (fun _ _ h => .inr h) (fun k hk' hm => by
      rcases hm with hm | hm | hm
      · exact .inl hm
      · exact .inr (.inl hm)
      · rcases hv k hm with h1 | h1
        · exact .inr (.inr h1)
        · omega) (fun e => by have := h.lo; exact e.elim (fun e => by omega) (fun e => by have := h.row _ e; omega)) (fun e => by have := h.lo; exact e.elim (fun e => by omega) (fun e => by have := h.row _ e; omega)),
    hR, h.keeps.trans hk (fun _ _ h => h) (fun i hi e => by have := h.lo; exact e.elim (fun e => by omega) (fun e => by have := h.row _ e; omega)), h.lo⟩
theorem One_In {p' : Nat} {v' : Value} : ∀ i, One p' i → R.In p' v' i := fun _ h => .inl h

/-! ### the two agree -/
theorem Agree.start : Agree [] [] := ⟨fun _ => rfl, by simp [keys], fun k hk => by simp [keys] at hk, fun q hq => by simp at hq, by simp⟩
theorem row_snoc' (Z : List (Int × Int)) (k j : Int) (t : Int) : R.row (Z ++ [(k, t)]) j = R.row Z j ++ if k == j then [t] else [] := by
  by_cases h : k = j <;> simp [R.row, h]
theorem LI.row_put (L : List (Int × List Int)) (k j : Int) (xs : List Int) : LI.row (put L k xs) j = if j = k then xs else LI.row L j := by
  by_cases h : j = k
  · subst h; simp [LI.row, look_put_same]
  · simp [LI.row, look_put_other _ _ h, h]
theorem LI.row_del {L : List (Int × List Int)} (hn : (keys L).Nodup) (k j : Int) : LI.row (del L k) j = if j = k then [] else LI.row L j := by
  by_cases h : j = k
  · subst h; simp [LI.row, look_del_same hn]
  · simp [LI.row, look_del_other _ h, h]
theorem LI.row_store {L : List (Int × List Int)} (hn : (keys L).Nodup) (k j : Int) (xs : List Int) : LI.row (LI.store L k xs) j = if j = k then xs else LI.row L j := by
  unfold LI.store
  split
  · rename_i h0
    rw [LI.row_del hn, List.eq_nil_of_length_eq_zero h0]
  · rw [LI.row_put]
/-- Whatever rows one list is given on both sides. -/
theorem Agree.step {L L' : List (Int × List Int)} {Z Z' : List (Int × Int)} (_ : Agree L Z) (hn : (keys L').Nodup) (hp : ∀ k ∈ keys L', LI.row L' k ≠ []) (hr : ∀ k, LI.row L' k = R.row Z' k) (hw : ∀ q ∈ Z', (Lit.int .i64 q.1).wf = true) (hs : Z'.length ≤ 300) : Agree L' Z' :=
  ⟨hr, hn, hp, hw, hs⟩
theorem store_nodup {L : List (Int × List Int)} (hn : (keys L).Nodup) (k : Int) (xs : List Int) : (keys (LI.store L k xs)).Nodup := by
  unfold LI.store
  split
  · exact nodup_del hn k
  · exact nodup_put hn k xs
theorem store_pos {L : List (Int × List Int)} (hn : (keys L).Nodup) (hp : ∀ k ∈ keys L, LI.row L k ≠ []) (k : Int) (xs : List Int) : ∀ j ∈ keys (LI.store L k xs), LI.row (LI.store L k xs) j ≠ [] := by
  intro j hj
  rw [LI.row_store hn]
  unfold LI.store at hj
  split at hj
  · rename_i h0
    have h1 := (keys_del_sub L k).subset hj
    by_cases e : j = k
    · subst e
      exfalso
      have := look_del_same hn j
      have h2 := look_isSome.2 hj
      rw [this] at h2
      cases h2
    · rw [if_neg e]; exact hp j h1
  · rename_i h0
    by_cases e : j = k
    · rw [if_pos e]; intro hx; rw [hx] at h0; exact h0 rfl
    · rw [if_neg e]
      rw [keys_put] at hj
      split at hj
      · exact hp j hj
      · rcases List.mem_append.1 hj with hj | hj
        · exact hp j hj
        · simp at hj; exact absurd hj e
theorem Agree.store {L : List (Int × List Int)} {Z Z' : List (Int × Int)} (h : Agree L Z) (k : Int) (xs : List Int) (h1 : R.row Z' k = xs) (h2 : ∀ j, j ≠ k → R.row Z' j = R.row Z j) (h3 : ∀ q ∈ Z', q ∈ Z) (h4 : Z'.length ≤ Z.length) : Agree (LI.store L k xs) Z' :=
  h.step (store_nodup h.nodup k xs) (store_pos h.nodup h.pos k xs) (fun j => by
    rw [LI.row_store h.nodup]
    by_cases e : j = k
    · subst e; rw [if_pos rfl, h1]
    · rw [if_neg e, h.rows, h2 j e]) (fun q hq => h.wf q (h3 q hq)) (by have := h.small; omega)
theorem Agree.push {L : List (Int × List Int)} {Z : List (Int × Int)} (h : Agree L Z) (k t : Int) (hk : (Lit.int .i64 k).wf = true) (hs : Z.length < 300) : Agree (put L k (LI.row L k ++ [t])) (Z ++ [(k, t)]) := by
  refine h.step (nodup_put h.nodup k _) ?_ (fun j => ?_) (fun q hq => ?_) (by simp; omega)
  · intro j hj
    rw [LI.row_put]
    by_cases e : j = k
    · rw [if_pos e]; simp
    · rw [if_neg e]
      rw [keys_put] at hj
      split at hj
      · exact h.pos j hj
      · rcases List.mem_append.1 hj with hj | hj
        · exact h.pos j hj
        · simp at hj; exact absurd hj e
  · rw [LI.row_put, row_snoc']
    by_cases e : j = k
    · subst e; simp [h.rows]
    · simp [e, Ne.symm e, h.rows]
  · rcases List.mem_append.1 hq with hq | hq
    · exact h.wf q hq
    · simp at hq; subst hq; exact hk
theorem row_erase {Z : List (Int × Int)} {k : Int} {i : Nat} {t : Int} (h : R.first Z k = some (i, t)) : (∃ xs, R.row Z k = t :: xs ∧ R.row (Z.eraseIdx i) k = xs) ∧ (∀ j, j ≠ k → R.row (Z.eraseIdx i) j = R.row Z j) ∧ i < Z.length := by
  induction Z generalizing i with
  | nil => simp [R.first] at h
  | cons q Z ih =>
    by_cases hk : q.1 = k
    · have h2 : R.first (q :: Z) k = some (0, q.2) := R.first_some (i := 0) (q := q) rfl (by simp [hk]) (fun j h => absurd h (by omega))
      rw [h2] at h
      simp only [Option.some.injEq, Prod.mk.injEq] at h
      obtain ⟨rfl, rfl⟩ := h
      refine ⟨⟨R.row Z k, by simp [R.row, hk], by simp⟩, fun j hj => ?_, by simp⟩
      have : q.1 ≠ j := fun e => hj (e ▸ hk)
      simp [R.row, this]
    · have h3 : ∃ i', R.first Z k = some (i', t) ∧ i = i' + 1 := by
        unfold R.first at h ⊢
        rw [List.findIdx?_cons, if_neg (by simp [hk])] at h
        cases hf : Z.findIdx? (fun p => p.1 == k) with
        | none => rw [hf] at h; simp at h
        | some i' =>
          rw [hf] at h
          simp only [Option.map_some, Option.bind_some, List.getElem?_cons_succ] at h ⊢
          cases hz : Z[i']? with
          | none => rw [hz] at h; simp at h
          | some z => rw [hz] at h; simp at h; exact ⟨i', by simp [h.2], h.1.symm⟩
      obtain ⟨i', h4, rfl⟩ := h3
      obtain ⟨⟨xs, h5, h6⟩, h7, h8⟩ := ih h4
      refine ⟨⟨xs, by simpa [R.row, hk] using h5, by simpa [R.row, hk] using h6⟩, fun j hj => ?_, by simp; omega⟩
      have := h7 j hj
      by_cases e : q.1 = j
      · simpa [R.row, e] using this
      · simpa [R.row, e] using this
theorem Agree.pop {L : List (Int × List Int)} {Z : List (Int × Int)} (h : Agree L Z) {k : Int} {i : Nat} {t : Int} (hf : R.first Z k = some (i, t)) : ∃ xs, LI.row L k = t :: xs ∧ Agree (LI.store L k xs) (Z.eraseIdx i) := by
  obtain ⟨⟨xs, h1, h2⟩, h3, h4⟩ := row_erase hf
  exact ⟨xs, by rw [h.rows, h1], h.store k xs h2 h3 (fun q hq => List.mem_of_mem_eraseIdx hq) (by rw [List.length_eraseIdx]; split <;> omega)⟩
theorem row_keep (Z : List (Int × Int)) (k : Int) (g : Int → Bool) (j : Int) : R.row (Z.filter (fun q => q.1 != k || g q.2)) j = if j = k then (R.row Z k).filter g else R.row Z j := by
  unfold R.row
  rw [List.filter_filter]
  by_cases e : j = k
  · subst e
    rw [if_pos rfl, List.filter_map, List.filter_filter]
    congr 1
    refine List.filter_congr (fun q _ => ?_)
    by_cases hq : q.1 = j
    · simp [hq]
    · have : (q.1 == j) = false := by simp [hq]
      rw [this]; simp
  · rw [if_neg e]
    congr 1
    refine List.filter_congr (fun q _ => ?_)
    by_cases hq : q.1 = j
    · have : q.1 ≠ k := fun e' => e (hq ▸ e')
      simp [hq, e]
    · simp [hq]
theorem keep_gone (Z : List (Int × Int)) (k : Int) (g : Int → Bool) : (Z.length : Int) - (Z.filter (fun q => q.1 != k || g q.2)).length = (R.row Z k).length - ((R.row Z k).filter g).length := by
  induction Z with
  | nil => rfl
  | cons q Z ih =>
    by_cases hk : q.1 = k
    · cases hg : g q.2 with
      | true => simp [R.row, hk, hg] at ih ⊢; omega
      | false => simp [R.row, hk, hg] at ih ⊢; omega
    · have e1 : R.row (q :: Z) k = R.row Z k := by simp [R.row, hk]
      rw [e1]
      simp [hk] at ih ⊢
      omega
theorem Agree.keep {L : List (Int × List Int)} {Z : List (Int × Int)} (h : Agree L Z) (k : Int) (g : Int → Bool) : Agree (LI.store L k ((LI.row L k).filter g)) (Z.filter (fun q => q.1 != k || g q.2)) := by
  refine h.store k _ ?_ (fun j hj => by rw [row_keep, if_neg hj]) (fun q hq => (List.mem_filter.1 hq).1) (List.length_filter_le _ _)
  rw [row_keep, if_pos rfl, h.rows]
end Go.Proofs.Ythdnbdbnlbebeaa
