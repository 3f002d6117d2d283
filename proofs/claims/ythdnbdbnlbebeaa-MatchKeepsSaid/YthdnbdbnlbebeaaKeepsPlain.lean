/- MatchKeeps: the plain law on lists. -/
import Derived.Test.YthdnbdbnlbebeaaKeep
import Derived.Test.YthdnbdbnlbebeaaOrder
namespace Go.Proofs.Ythdnbdbnlbebeaa.LI
open Go Go.RowKit Go.Proofs.Ythdnbdbnlbebeaa

theorem total_store' (L : List (Int × List Int)) (k : Int) (ys : List Int) (hr : row L k ≠ [] ∨ ys = []) : total (store L k ys) + (row L k).length = total L + ys.length := by
  unfold row at hr ⊢
  unfold total store
  induction L with
  | nil =>
    rcases hr with hr | rfl
    · simp [look] at hr
    · simp [look, del]
  | cons p L ih =>
    by_cases hp : p.1 = k
    · simp only [look, if_pos hp, Option.getD_some]
      split
      · rename_i h0
        have : ys = [] := List.eq_nil_of_length_eq_zero h0
        subst this
        simp [del, hp]; omega
      · simp [put, hp]; omega
    · simp only [look, if_neg hp] at hr ⊢
      have := ih hr
      split
      · rename_i h0
        rw [if_pos h0] at this
        simp only [del, if_neg hp, List.map_cons, List.sum_cons]; omega
      · rename_i h0
        rw [if_neg h0] at this
        simp only [put, if_neg hp, List.map_cons, List.sum_cons]; omega

/-- c have been put, each on the list of its rest. -/
structure Put2 (lists : Int) (L : List (Int × List Int)) (c : Nat) : Prop where
  nodup : (keys L).Nodup
  rows : ∀ k, ∀ t ∈ row L k, ∃ j : Nat, t = j ∧ j < c ∧ (j : Int) % lists = k
  rising : ∀ k, (row L k).Pairwise (· < ·)
  total : total L = c
theorem Put2.start (lists : Int) : Put2 lists [] 0 := ⟨by simp [keys], fun k t h => by simp [row, look] at h, fun k => by simp [row, look], rfl⟩
theorem Put2.step {lists : Int} {L : List (Int × List Int)} {c : Nat} (h : Put2 lists L c) : Put2 lists (put L ((c : Int) % lists) (row L ((c : Int) % lists) ++ [(c : Int)])) (c + 1) := by
  refine ⟨nodup_put h.nodup _ _, fun k t ht => ?_, fun k => ?_, by rw [total_put, h.total]⟩
  · by_cases hk : k = (c : Int) % lists
    · subst hk
      rw [row_put_same, List.mem_append, List.mem_singleton] at ht
      rcases ht with ht | rfl
      · obtain ⟨j, h1, h2, h3⟩ := h.rows _ t ht; exact ⟨j, h1, by omega, h3⟩
      · exact ⟨c, rfl, by omega, rfl⟩
    · rw [row_put_other _ _ hk] at ht
      obtain ⟨j, h1, h2, h3⟩ := h.rows _ t ht; exact ⟨j, h1, by omega, h3⟩
  · by_cases hk : k = (c : Int) % lists
    · subst hk
      rw [row_put_same, List.pairwise_append]
      refine ⟨h.rising _, by simp, fun a ha b hb => ?_⟩
      simp at hb; subst hb
      obtain ⟨j, rfl, h2, _⟩ := h.rows _ a ha
      omega
    · rw [row_put_other _ _ hk]; exact h.rising k

/-- The lists ahead of k have been sifted. -/
structure Sift (lists by_ : Int) (len : Nat) (L : List (Int × List Int)) (k : Int) (gone : Nat) : Prop where
  nodup : (keys L).Nodup
  rows : ∀ j, ∀ t ∈ row L j, ∃ i : Nat, t = i ∧ i < len ∧ (i : Int) % lists = j ∧ (j < k → (i : Int) % by_ ≠ 0)
  rising : ∀ j, (row L j).Pairwise (· < ·)
  total : gone + total L = len
theorem Put2.sift {lists by_ : Int} {L : List (Int × List Int)} {len : Nat} (hl : 1 ≤ lists) (h : Put2 lists L len) : Sift lists by_ len L 0 0 :=
  ⟨h.nodup, fun j t ht => by
    obtain ⟨i, h1, h2, h3⟩ := h.rows j t ht
    refine ⟨i, h1, h2, h3, fun h4 => ?_⟩
    have := Int.emod_nonneg (i : Int) (show lists ≠ 0 by omega)
    omega, h.rising, by have := h.total; omega⟩
theorem Sift.step {lists by_ : Int} {len : Nat} {L : List (Int × List Int)} {k : Int} {gone : Nat} (h : Sift lists by_ len L k gone) :
    Sift lists by_ len (store L k ((row L k).filter fun t => t % by_ != 0)) (k + 1) (gone + ((row L k).length - ((row L k).filter fun t => t % by_ != 0).length)) := by
  have hle := List.length_filter_le (fun t : Int => t % by_ != 0) (row L k)
  refine ⟨nodup_store h.nodup _ _, fun j t ht => ?_, fun j => ?_, ?_⟩
  · by_cases hj : j = k
    · subst hj
      rw [row_store_same h.nodup, List.mem_filter] at ht
      obtain ⟨i, h1, h2, h3, _⟩ := h.rows j t ht.1
      subst h1
      exact ⟨i, rfl, h2, h3, fun _ => by simpa using ht.2⟩
    · rw [row_store_other _ _ hj] at ht
      obtain ⟨i, h1, h2, h3, h4⟩ := h.rows j t ht
      exact ⟨i, h1, h2, h3, fun h5 => h4 (by omega)⟩
  · by_cases hj : j = k
    · subst hj; rw [row_store_same h.nodup]; exact (h.rising j).filter _
    · rw [row_store_other _ _ hj]; exact h.rising j
  · have h1 := total_store' L k ((row L k).filter fun t => t % by_ != 0) (by
      by_cases hr : row L k = []
      · right; rw [hr]; rfl
      · left; exact hr)
    have h2 := h.total
    omega

/-- Behind the names: those ahead of place i are emptied. -/
structure Ends (lists by_ : Int) (len gone : Nat) (L0 : List (Int × List Int)) (ks : List Int) (L : List (Int × List Int)) (i : Nat) (left : Nat) : Prop where
  nodup : (keys L).Nodup
  rows : ∀ j, ∀ t ∈ row L j, ∃ n : Nat, t = n ∧ n < len ∧ (n : Int) % lists = j ∧ (n : Int) % by_ ≠ 0
  rising : ∀ j, (row L j).Pairwise (· < ·)
  stays : ∀ j k, i ≤ j → ks[j]? = some k → row L k = row L0 k
  left_ : ∀ k, row L k ≠ [] → ∃ j, i ≤ j ∧ ks[j]? = some k
  total : gone + left + total L = len

theorem row_ne_keys {L : List (Int × List Int)} {k : Int} (h : row L k ≠ []) : k ∈ keys L := by
  rcases hl : look L k with _ | v
  · simp [row, hl] at h
  · exact look_isSome.1 (by rw [hl]; rfl)

theorem Sift.ends {lists by_ : Int} {len : Nat} {L : List (Int × List Int)} {gone : Nat} {k : Int} (hl : 1 ≤ lists) (hk : lists ≤ k) (h : Sift lists by_ len L k gone) {ks : List Int} (hp : ks.Perm (keys L)) : Ends lists by_ len gone L ks L 0 0 :=
  ⟨h.nodup, fun j t ht => by
    obtain ⟨i, h1, h2, h3, h4⟩ := h.rows j t ht
    have := Int.emod_lt_of_pos (i : Int) (show 0 < lists by omega)
    exact ⟨i, h1, h2, h3, h4 (by omega)⟩, h.rising, fun _ _ _ _ => rfl, fun k hk => by
      obtain ⟨j, hj⟩ := List.getElem?_of_mem (hp.mem_iff.2 (row_ne_keys hk))
      exact ⟨j, Nat.zero_le _, hj⟩, by have := h.total; omega⟩
/-- While the list of place i is emptied. -/
structure Mid (lists by_ : Int) (len gone : Nat) (L0 : List (Int × List Int)) (ks : List Int) (L : List (Int × List Int)) (i : Nat) (k : Int) (left : Nat) : Prop where
  nodup : (keys L).Nodup
  rows : ∀ j, ∀ t ∈ row L j, ∃ n : Nat, t = n ∧ n < len ∧ (n : Int) % lists = j ∧ (n : Int) % by_ ≠ 0
  rising : ∀ j, (row L j).Pairwise (· < ·)
  stays : ∀ j k, i < j → ks[j]? = some k → row L k = row L0 k
  left_ : ∀ k', row L k' ≠ [] → k' = k ∨ ∃ j, i < j ∧ ks[j]? = some k'
  total : gone + left + total L = len
theorem Ends.mid {lists by_ : Int} {len gone : Nat} {L0 L : List (Int × List Int)} {ks : List Int} {i left : Nat} (h : Ends lists by_ len gone L0 ks L i left) {k : Int} (hk : ks[i]? = some k) : Mid lists by_ len gone L0 ks L i k left :=
  ⟨h.nodup, h.rows, h.rising, fun j k' hj hk' => h.stays j k' (by omega) hk', fun k' hk' => by
    obtain ⟨j, h1, h2⟩ := h.left_ k' hk'
    by_cases hj : j = i
    · subst hj; left; rw [hk] at h2; simpa using h2.symm
    · right; exact ⟨j, by omega, h2⟩, h.total⟩
theorem Mid.pop {lists by_ : Int} {len gone : Nat} {L0 L : List (Int × List Int)} {ks : List Int} {i left : Nat} {k : Int} (h : Mid lists by_ len gone L0 ks L i k left) (hn : ks.Nodup) (hk : ks[i]? = some k) {x : Int} {xs : List Int} (hr : row L k = x :: xs) :
    Mid lists by_ len gone L0 ks (store L k xs) i k (left + 1) ∧ (∀ t ∈ xs, x < t) ∧ ∃ n : Nat, x = n ∧ n < len ∧ (n : Int) % lists = k ∧ (n : Int) % by_ ≠ 0 := by
  have hri := h.rising k
  rw [hr, List.pairwise_cons] at hri
  refine ⟨⟨nodup_store h.nodup _ _, fun j t ht => ?_, fun j => ?_, fun j k' hij hj => ?_, fun k' hk' => ?_, by have := h.total; have := total_store hr; omega⟩, hri.1, h.rows k x (by rw [hr]; exact List.mem_cons_self)⟩
  · by_cases hj : j = k
    · subst hj; rw [row_store_same h.nodup] at ht; exact h.rows _ t (hr ▸ List.mem_cons_of_mem _ ht)
    · rw [row_store_other _ _ hj] at ht; exact h.rows j t ht
  · by_cases hj : j = k
    · subst hj; rw [row_store_same h.nodup]; exact hri.2
    · rw [row_store_other _ _ hj]; exact h.rising j
  · have hne : k' ≠ k := by
      rintro rfl
      have := (List.getElem?_inj ((List.getElem?_eq_some_iff.1 hk).1) hn).1 (hk.trans hj.symm)
      omega
    rw [row_store_other _ _ hne]; exact h.stays j k' hij hj
  · by_cases hj : k' = k
    · exact .inl hj
    · rw [row_store_other _ _ hj] at hk'; exact h.left_ k' hk'
theorem Mid.next {lists by_ : Int} {len gone : Nat} {L0 L : List (Int × List Int)} {ks : List Int} {i left : Nat} {k : Int} (h : Mid lists by_ len gone L0 ks L i k left) (hr : row L k = []) : Ends lists by_ len gone L0 ks L (i + 1) left :=
  ⟨h.nodup, h.rows, h.rising, fun j k' hj hk' => h.stays j k' (by omega) hk', fun k' hk' => by
    rcases h.left_ k' hk' with rfl | ⟨j, h1, h2⟩
    · exact absurd hr hk'
    · exact ⟨j, h1, h2⟩, h.total⟩
theorem Ends.done {lists by_ : Int} {len gone : Nat} {L0 L : List (Int × List Int)} {ks : List Int} {i left : Nat} (h : Ends lists by_ len gone L0 ks L i left) (hi : ks.length ≤ i) : gone + left = len ∧ ∀ k, row L k = [] := by
  have hr : ∀ k, row L k = [] := fun k => by
    by_cases hk : row L k = []
    · exact hk
    · obtain ⟨j, h1, h2⟩ := h.left_ k hk
      have := (List.getElem?_eq_some_iff.1 h2).1
      omega
  have := total_zero h.nodup hr
  have := h.total
  exact ⟨by omega, hr⟩
theorem Mid.left_le {lists by_ : Int} {len gone : Nat} {L0 L : List (Int × List Int)} {ks : List Int} {i left : Nat} {k : Int} (h : Mid lists by_ len gone L0 ks L i k left) : left ≤ len ∧ gone ≤ len ∧ LI.total L ≤ len := by have := h.total; omega

theorem RowsAt.pos {w : World} {M : Nat → Prop} : ∀ {m : List (Int × Value)} {L : List (Int × List Int)}, RowsAt w M m L → L.length ≤ total L ∧ ∀ k ∈ keys L, LI.row L k ≠ []
  | [], [], _ => ⟨Nat.le_refl _, fun k hk => by simp [keys] at hk⟩
  | p :: m, q :: L, h => by
    obtain ⟨h1, h2⟩ := RowsAt.pos (m := m) (L := L) h.2
    have h3 := h.1.2.1
    refine ⟨by simp only [total, List.map_cons, List.sum_cons, List.length_cons] at h1 ⊢; omega, fun k hk => ?_⟩
    by_cases hq : q.1 = k
    · simp only [LI.row, look, if_pos hq, Option.getD_some]
      intro h0; rw [h0] at h3; simp at h3
    · simp only [LI.row, look, if_neg hq]
      simp only [keys, List.map_cons, List.mem_cons] at hk
      rcases hk with hk | hk
      · exact absurd hk.symm hq
      · exact h2 k hk
  | [], _ :: _, h => h.elim
  | _ :: _, [], h => h.elim
theorem ListsAt.pos {w : World} {M : Nat → Prop} {p b : Nat} {most : Int} {L : List (Int × List Int)} (h : ListsAt w M p b most L) : L.length ≤ total L ∧ ∀ k ∈ keys L, LI.row L k ≠ [] := by
  obtain ⟨_, es, clock, m, _, _, hr⟩ := h
  exact hr.pos
theorem nil_of_rows {L : List (Int × List Int)} (h : ∀ k ∈ keys L, LI.row L k ≠ []) (h0 : ∀ k, row L k = []) : L = [] := by
  cases L with
  | nil => rfl
  | cons p L => exact absurd (h0 p.1) (h p.1 (by simp [keys]))
end Go.Proofs.Ythdnbdbnlbebeaa.LI
