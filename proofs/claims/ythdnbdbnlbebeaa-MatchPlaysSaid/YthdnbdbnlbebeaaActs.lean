/- A slice of acts that came in, as the seat's words have it. -/
import Derived.Test.YthdnbdbnlbebeaaPlays
import Derived.Test.YthdnbdbnlbebeaaRowOf
import Derived.Deep.Slices
import Derived.ChangeArms
import Derived.DataReads
namespace Go.Proofs.Ythdnbdbnlbebeaa
open Go Go.RowKit Go.ChangeShapes Go.WideShapes Go.Deep

section
variable {H : Type} {enc : TypeId × Value → H} {w : World} {base : Nat} {spare : Nat → Bool} {held : Bool}
theorem field_int {fs : Array Field} {n : Nat} {cs : List Value} {xs : List (DataW H × List MemPlace)} (hlen : xs.length = fs.size)
    (hf : ∀ (i : Nat) (f : Field), fs[i]? = some f → DataW.trod enc Try.prog w base spare held n f.type ((cs.drop f.offset).take (Try.prog.cellsOf f.type)) = xs[i]?)
    (j : Nat) (f : Field) (hj : fs[j]? = some f) (h3 : f.type = 3) : ∃ z, cs[f.offset]? = some (.int .i64 z) ∧ (Lit.int .i64 z).wf = true := by
  have h1 := hf j f hj
  have hjl : j < fs.size := (Array.getElem?_eq_some_iff.1 hj).1
  rw [List.getElem?_eq_getElem (by omega), h3] at h1
  obtain ⟨z, hz, _, hw⟩ := DataW.trod_int Try.underlying3 h1
  refine ⟨z, ?_, hw⟩
  have := congrArg (fun l => l[0]?) hz
  simp only [List.getElem?_take, List.getElem?_drop] at this
  split at this
  · simpa using this
  · simp at this
theorem act_of {fuel : Nat} {cs : List Value} {x : DataW H × List MemPlace} (h : DataW.trod enc Try.prog w base spare held fuel 42 cs = some x) :
    ∃ z : Act, (∀ (j : Nat) (u : Value), (acells [z])[j]? = some u → cs[j]? = some u) ∧ (Lit.int .i64 z.list).wf = true := by
  obtain ⟨xs, n, _, _, _, hl, hf⟩ := DataW.trod_struct Try.underlying42 h
  obtain ⟨z0, h0, _⟩ := field_int hl hf 0 _ rfl rfl
  obtain ⟨z1, h1, w1⟩ := field_int hl hf 1 _ rfl rfl
  obtain ⟨z2, h2, _⟩ := field_int hl hf 2 _ rfl rfl
  obtain ⟨z3, h3, _⟩ := field_int hl hf 3 _ rfl rfl
  obtain ⟨z4, h4, _⟩ := field_int hl hf 4 _ rfl rfl
  refine ⟨⟨z0, z1, z2, z3, z4⟩, fun j u hu => ?_, w1⟩
  have hj : j < 5 := by have := (List.getElem?_eq_some_iff.1 hu).1; simpa [acells] using this
  match j, hj with
  | 0, _ => simp [acells] at hu; subst hu; exact h0
  | 1, _ => simp [acells] at hu; subst hu; exact h1
  | 2, _ => simp [acells] at hu; subst hu; exact h2
  | 3, _ => simp [acells] at hu; subst hu; exact h3
  | 4, _ => simp [acells] at hu; subst hu; exact h4
theorem acells_of : ∀ (l : List Act) (c : Nat → Option Value), (∀ (i : Nat) (z : Act), l[i]? = some z → ∀ (j : Nat) (u : Value), (acells [z])[j]? = some u → c (i * 5 + j) = some u) → ∀ (j : Nat) (u : Value), (acells l)[j]? = some u → c j = some u
  | [], _, _, j, u, hu => by simp [acells] at hu
  | z :: l, c, h, j, u, hu => by
    by_cases hj : j < 5
    · have h1 := h 0 z rfl j u
      simp only [Nat.zero_mul, Nat.zero_add] at h1
      refine h1 ?_
      rw [← hu]
      match j, hj with
      | 0, _ => rfl
      | 1, _ => rfl
      | 2, _ => rfl
      | 3, _ => rfl
      | 4, _ => rfl
    · obtain ⟨k, rfl⟩ : ∃ k, j = k + 5 := ⟨j - 5, by omega⟩
      refine acells_of l (fun j => c (j + 5)) (fun i y hy j u hu => ?_) k u (by simpa [acells] using hu)
      have := h (i + 1) y (by simpa using hy) j u hu
      rw [show (i + 1) * 5 + j = i * 5 + j + 5 by omega] at this
      exact this
theorem acts_of {fuel : Nat} {cs : List Value} {x : DataW H × List MemPlace} (h : DataW.trod enc Try.prog w base spare held fuel 37 cs = some x) :
    ∃ a len cap zs, cs = [.slice a len cap] ∧ SliceAt w None 5 (.slice a len cap) len (acells zs) ∧ zs.length = len ∧ ∀ z ∈ zs, (Lit.int .i64 z.list).wf = true := by
  have hC : Try.prog.cellsOf 42 = 5 := by kernel_rfl
  rcases open_slice Try.underlying37 h with ⟨h0, _⟩ | ⟨a, len, cap, m, n, D, Pl, hcs, hb, hl, hm, hmm, _, hi⟩
  · exact ⟨none, 0, 0, [], h0, SliceAt.nil _ _ _, rfl, fun z hz => by cases hz⟩
  · rw [hC] at hi
    have hlm : len ≤ m := by rw [hmm]; split <;> omega
    have hz : ∀ i : Nat, ∃ z : Act, i < len → (∀ (j : Nat) (u : Value), (acells [z])[j]? = some u → w.cell? ((a.add (i * 5)).add j) = some u) ∧ (Lit.int .i64 z.list).wf = true := by
      intro i
      by_cases hil : i < len
      · obtain ⟨cs', hc, ht⟩ := hi i (by omega)
        obtain ⟨z, h1, h2⟩ := act_of ht
        obtain ⟨_, hcl, hat⟩ := World.cells?_some hc
        refine ⟨z, fun _ => ⟨fun j u hu => ?_, h2⟩⟩
        have := h1 j u hu
        rw [hat j (by have := (List.getElem?_eq_some_iff.1 this).1; omega)]
        exact this
      · exact ⟨⟨0, 0, 0, 0, 0⟩, fun h => absurd h hil⟩
    obtain ⟨f, hf⟩ := Classical.axiomOfChoice hz
    refine ⟨some a, len, cap, (List.range len).map f, hcs, ?_, by simp, fun z hz' => ?_⟩
    · refine ⟨by rw [acells_length]; simp, Nat.le_trans hl hm, .inr ⟨a, cap, rfl, hl, hm, fun h0 => ?_⟩⟩
      have hall : ∀ (j : Nat) (u : Value), (acells ((List.range len).map f))[j]? = some u → w.cell? (a.add j) = some u := by
        refine acells_of _ (fun j => w.cell? (a.add j)) (fun i z hz' j u hu => ?_)
        rw [List.getElem?_map, Option.map_eq_some_iff] at hz'
        obtain ⟨i', h1, rfl⟩ := hz'
        have hi' := (List.getElem?_eq_some_iff.1 h1)
        obtain ⟨hlt, h2⟩ := hi'
        simp at hlt h2
        subst h2
        have := (hf i hlt).1 j u hu
        rw [Go.Deep.add_add] at this
        exact this
      obtain ⟨u0, hu0⟩ : ∃ u0, (acells ((List.range len).map f))[0]? = some u0 := ⟨_, List.getElem?_eq_getElem (by rw [acells_length]; simp; omega)⟩
      have h1 := hall 0 u0 hu0
      rw [Addr.add_zero'] at h1
      obtain ⟨hs, c, T, fr, hb', _⟩ := spot_of_cell h1
      refine ⟨hs, fun h => h, c, T, fr, hb', fun j u hu => ?_⟩
      have h2 := hall j u hu
      obtain ⟨b, o, sp⟩ := a
      simp only at hs hb'
      subst hs
      rw [Addr.add_lit] at h2
      simp only [World.cell?, hb', Option.isSome_none, Bool.false_eq_true, if_false] at h2
      exact h2
    · rw [List.mem_map] at hz'
      obtain ⟨i, hi', rfl⟩ := hz'
      exact (hf i (List.mem_range.1 hi')).2
end
end Go.Proofs.Ythdnbdbnlbebeaa
