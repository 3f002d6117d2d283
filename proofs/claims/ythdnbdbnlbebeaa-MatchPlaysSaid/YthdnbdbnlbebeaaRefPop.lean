/- The reference's Pop. -/
import Derived.Test.YthdnbdbnlbebeaaRef
namespace Go.Proofs.Ythdnbdbnlbebeaa.R
open Go Go.RowKit Go.MapKept Go.Proofs.Ythdnbdbnlbebeaa

theorem _root_.Go.Proofs.Ythdnbdbnlbebeaa.Keeps.of_own1 {w w1 w' : World} (h : Keeps None w w1) (hg : w1.grownBy w' (Value.ownBlock (.slice (some ⟨w.heap.size, 0, none⟩) 0 0))) : Keeps None w w' :=
  h.grown hg (fun k hk => by simp [Value.ownBlock] at hk; left; omega)
theorem _root_.Go.Proofs.Ythdnbdbnlbebeaa.Keeps.of_own2 {w w1 w' : World} {e size : Nat} {v : Value} {n : Nat} {xs : List Value} (h : Keeps None w w1) (ho : w1.ownsRow w.heap.size e size v n xs) (hg : w1.grownBy w' v.ownBlock) : Keeps None w w' :=
  h.grown hg (fun k hk => .inl (ho.lt k hk).1)
theorem cells_after {w w1 : World} {base g n cap : Nat} {R : List (Int × Int)} (h : Keeps None w w1) (hr : Row w base (.slice (some ⟨g, 0, none⟩) n cap) R) (i : Nat) :
    ∀ j u, ((rcells R).drop ((i + 1) * 2))[j]? = some u → w1.cell? ((⟨g, (i + 1) * 2, none⟩ : Addr).add j) = some u := by
  intro j u hu
  rw [List.getElem?_drop] at hu
  have := World.ownsRow.cells (g := g) (hr.keeps h (fun _ _ h => h)) rfl _ u hu
  rw [Addr.add_lit] at this ⊢
  simpa using this
theorem frozen_after {w w1 : World} {p : Nat} {c : Array Value} {T : TypeId} (h : Keeps None w w1) (hb : w.heap[p]? = some (.cells c T)) : w1.frozen? ⟨p, 1, none⟩ = false := by
  have := h.at_ hb (fun h => h)
  simp [World.frozen?, this]

theorem rcells_take (R : List (Int × Int)) (i : Nat) : (rcells R).take (i * 2) = rcells (R.take i) := by
  induction R generalizing i with
  | nil => simp [rcells]
  | cons q R ih =>
    cases i with
    | zero => simp [rcells]
    | succ i =>
      have := ih i
      simp only [rcells, List.flatMap_cons, List.take_succ_cons] at this ⊢
      rw [show (i + 1) * 2 = i * 2 + 1 + 1 by omega]
      simpa using this
theorem rcells_drop (R : List (Int × Int)) (i : Nat) : (rcells R).drop (i * 2) = rcells (R.drop i) := by
  induction R generalizing i with
  | nil => simp [rcells]
  | cons q R ih =>
    cases i with
    | zero => simp [rcells]
    | succ i =>
      have := ih i
      simp only [rcells, List.flatMap_cons, List.drop_succ_cons] at this ⊢
      rw [show (i + 1) * 2 = i * 2 + 1 + 1 by omega]
      simpa using this
theorem pop_post {w w2 : World} {p n i : Nat} {v v2 : Value} {most : Int} {R : List (Int × Int)} (h : RefAt w p v most R) (hn : n = R.length) (hi : i < n) (hk : Keeps None w w2)
    (ho : w2.ownsRow w.heap.size 66 2 v2 (i + (n - (i + 1))) ((rcells R).take (i * 2) ++ (rcells R).drop ((i + 1) * 2))) :
    Keeps (One p) w (w2.setCell ⟨p, 1, none⟩ v2) ∧ ∃ v', RefAt (w2.setCell ⟨p, 1, none⟩ v2) p v' most (R.eraseIdx i) ∧ ∀ j, v'.ownBlock = some j → w.heap.size ≤ j := by
  have hlt := lt_of_block h.blk
  have hl : (R.eraseIdx i).length = i + (n - (i + 1)) := by rw [List.length_eraseIdx, if_pos (by omega)]; omega
  rw [rcells_take, rcells_drop, ← rcells_append, ← List.eraseIdx_eq_take_drop_succ, ← hl] at ho
  have hs := Keeps.setAt w2 p 1 v2
  refine ⟨(hk.of_none).then' hs, v2, ⟨heap_set_cells (hk.at_ h.blk (fun h => h)) v2, ?_, by have := h.small; omega⟩, fun j hj => (ho.lt j hj).1⟩
  have hr : Row w2 w.heap.size v2 (R.eraseIdx i) := ho
  have h2 := hr.keeps hs (fun j hj hp => by have := (ho.lt j hj).1; have : j = p := hp; omega)
  obtain ⟨k1, k2⟩ := h2
  refine ⟨k1, ?_⟩
  rcases k2 with k2 | ⟨g, cap, cur, k2, k3, k4⟩
  · exact .inl k2
  · exact .inr ⟨g, cap, cur, k2, by omega, k4⟩

set_option maxRecDepth 100000 in
set_option maxHeartbeats 1000000 in
theorem pop_some {w : World} {p : Nat} {v : Value} {most : Int} {R : List (Int × Int)} (h : RefAt w p v most R) (k : Int) {i1 : Nat} {t : Int} (hf : first R k = some (i1, t)) :
    Calls Try.prog 16 #[.pointer (some ⟨p, 0, none⟩), .int .i64 k] w fun e w' => e = .returned (.tuple #[.int .i64 t, .bool true]) ∧ Keeps (One p) w w' ∧ ∃ v', RefAt w' p v' most (R.eraseIdx i1) ∧ ∀ j, v'.ownBlock = some j → w.heap.size ≤ j := by
  obtain ⟨i0, hi0, hz0, hz1, hz2⟩ := info_parts infoE
  obtain ⟨c0, c1⟩ := h.cells
  have hlt := lt_of_block h.blk
  have HR := hid h
  have c2 : w.frozen? ⟨p, 1, none⟩ = false := by have := h.blk; simp [World.frozen?, this]
  obtain ⟨a, g, cap, rfl, hn, hc, ha, hcell⟩ := h.own.at_
  have hsm := h.small
  obtain ⟨n, hnn⟩ : ∃ n : Nat, n = R.length := ⟨_, rfl⟩
  rw [← hnn] at hn c1 hsm ha
  have HN := hid hnn; have HC := hid hcell; have HVA := hid ha; have HF := hid hf; have HLT := hid hlt
  clear hnn hcell ha h hc hf hlt
  go_enter Try.func16, Try.ntmps16
  go_wp2_with fail
  go_loop [6] (fun ix => ∃ i : Nat, i ≤ n ∧ ix = .int .i64 i ∧ ∀ j, j < i → ∀ q : Int × Int, R[j]? = some q → (q.1 == k) = false) (fun ix => n - (intOf ix).toNat)
  case atStart => exact ⟨0, Nat.zero_le _, rfl, fun j h => absurd h (by omega)⟩
  case round =>
    obtain ⟨i, hin, rfl, hno⟩ := hrel
    have HNO := hid hno
    clear hno
    by_cases hlt : i < n
    · have hva := HVA.out (by omega)
      subst hva
      obtain ⟨q, hq⟩ : ∃ q, R[i]? = some q := ⟨_, List.getElem?_eq_getElem (show i < R.length by rw [← HN.out]; exact hlt)⟩
      obtain ⟨h1, h2⟩ := HC.out i q hq
      have HQ := hid hq
      clear hq
      cases hd : q.1 == k with
      | true =>
        have hf := first_some HQ.out hd HNO.out
        rw [HF.out] at hf
        simp only [Option.some.injEq, Prod.mk.injEq] at hf
        obtain ⟨rfl, rfl⟩ := hf
        have hw : IntKind.i64.wrap ((i1 : Int) + 1) = (i1 : Int) + 1 := IntWalk.i64_in _ (by omega)
        have ht : ((i1 : Int) + 1).toNat = i1 + 1 := by omega
        have hi0' : (0 : Int) ≤ (i1 : Int) + 1 := by omega
        have hi1' : (i1 : Int) + 1 ≤ (n : Int) := by omega
        have hi2' : (i1 : Int) ≤ (cap : Int) := by omega
        have hsz : w.heap.size ≤ (w.alloc (.cells #[] 66)).drew.heap.size := by simp
        have hKA : Keeps None w (w.alloc (.cells #[] 66)).drew := ((Keeps.refl None w).alloc _).drew
        have cA : (w.alloc (.cells #[] 66)).cell? ⟨p, 1, none⟩ = some (.slice (some ⟨g, 0, none⟩) n cap) := hKA.cell c1 (fun h => h)
        have HA : Hid ((w.alloc (.cells #[] 66)).drew.ownsRow w.heap.size 66 2 (.slice (some ⟨w.heap.size, 0, none⟩) 0 0) 0 []) := World.ownsRow_made w.drew #[] 0 (Nat.le_refl _) (Nat.zero_le _) rfl
        have HRA : Hid (Row (w.alloc (.cells #[] 66)).drew (p + 1) (.slice (some ⟨g, 0, none⟩) R.length cap) R) := HR.out.own.keeps hKA (fun _ _ h => h)
        have HSZ := hid hsz
        have HKA := hid hKA
        have HX1 : Hid (∀ j u, ((rcells R).take (i1 * 2))[j]? = some u → (w.alloc (.cells #[] 66)).drew.cell? ((⟨g, 0, none⟩ : Addr).add j) = some u) := by
          intro j u hu
          rw [List.getElem?_take] at hu
          split at hu
          · exact World.ownsRow.cells (g := g) HRA.out rfl j u hu
          · cases hu
        have HLEN : Hid ((rcells R).length = n * 2) := by rw [HN.out]; exact rcells_length R
        clear hsz hKA
        by_cases hcap : cap = i1 + 1
        · subst hcap
          have hi3' : (i1 : Int) ≤ (i1 : Int) + 1 := by omega
          have hi4' : (n : Int) ≤ (i1 : Int) + 1 := by omega
          go_wp2_with fail
          go_region_law (first
            | (refine step_append_mine rfl (.tmp 36) (.tmp 42) 62 rfl w.heap.size 66 i0 _ 2 16 Try.underlying62 hi0 hz0 hz1 hz2 rfl (by decide) _ 0 [] rfl HA.out ⟨g, 0, none⟩ i1 (i1 + 1) ((rcells R).take (i1 * 2)) rfl (by have := HLEN.out; simp; omega) HX1.out (fun u hu => rcells_one R u (List.mem_of_mem_take hu)) (by unfold maxLen; omega) (by omega) HSZ.out ?_; intro v1 w1 hown1 hg1 _; rw [Nat.zero_add, List.nil_append] at hown1; obtain ⟨a1, cap1, hv1⟩ := slice_of_own hown1; subst hv1; have HK1 := hid (Keeps.of_own1 HKA.out hg1); have cB := HK1.out.cell c1 (fun h => h); have HO1 := hid hown1; have HS1 := hid (Nat.le_trans HSZ.out hg1.size); have HX2 := hid (cells_after HK1.out HR.out.own i1); clear hown1 hg1)
            | (refine step_append_mine rfl (.tmp 43) (.tmp 50) 62 rfl w.heap.size 66 i0 _ 2 16 Try.underlying62 hi0 hz0 hz1 hz2 rfl (by decide) _ i1 ((rcells R).take (i1 * 2)) rfl HO1.out ⟨g, 0, none⟩ 0 0 [] rfl rfl (by intro j u hu; simp at hu) (by intro u hu; cases hu) (by unfold maxLen; omega) (by omega) HS1.out ?_; intro v2 w2 hown2 hg2 _; obtain ⟨a2, cap2, hv2⟩ := slice_of_own hown2; subst hv2; have HK2 := hid (Keeps.of_own2 HK1.out HO1.out hg2); have cC := HK2.out.cell c1 (fun h => h); have cD := frozen_after HK2.out HR.out.blk; have HO2 := hid hown2; clear hown2 hg2))
          all_goals
            go_wp2
            go_ret2
            exact ⟨rfl, pop_post HR.out HN.out hlt HK2.out (by have h0 : n - (i1 + 1) = 0 := (by omega); rw [h0, List.drop_eq_nil_of_le (by have := HLEN.out; omega)]; exact HO2.out)⟩
        · go_wp2_with fail
          go_region_law (first
            | (refine step_append_mine rfl (.tmp 36) (.tmp 42) 62 rfl w.heap.size 66 i0 _ 2 16 Try.underlying62 hi0 hz0 hz1 hz2 rfl (by decide) _ 0 [] rfl HA.out ⟨g, 0, none⟩ i1 cap ((rcells R).take (i1 * 2)) rfl (by have := HLEN.out; simp; omega) HX1.out (fun u hu => rcells_one R u (List.mem_of_mem_take hu)) (by unfold maxLen; omega) (by omega) HSZ.out ?_; intro v1 w1 hown1 hg1 _; rw [Nat.zero_add, List.nil_append] at hown1; obtain ⟨a1, cap1, hv1⟩ := slice_of_own hown1; subst hv1; have HK1 := hid (Keeps.of_own1 HKA.out hg1); have cB := HK1.out.cell c1 (fun h => h); have HO1 := hid hown1; have HS1 := hid (Nat.le_trans HSZ.out hg1.size); have HX2 := hid (cells_after HK1.out HR.out.own i1); clear hown1 hg1)
            | (refine step_append_mine rfl (.tmp 43) (.tmp 50) 62 rfl w.heap.size 66 i0 _ 2 16 Try.underlying62 hi0 hz0 hz1 hz2 rfl (by decide) _ i1 ((rcells R).take (i1 * 2)) rfl HO1.out ⟨g, (i1 + 1) * 2, none⟩ (n - (i1 + 1)) (cap - (i1 + 1)) ((rcells R).drop ((i1 + 1) * 2)) rfl (by have := HLEN.out; simp; omega) HX2.out (fun u hu => rcells_one R u (List.mem_of_mem_drop hu)) (by unfold maxLen; omega) (by omega) HS1.out ?_; intro v2 w2 hown2 hg2 _; obtain ⟨a2, cap2, hv2⟩ := slice_of_own hown2; subst hv2; have HK2 := hid (Keeps.of_own2 HK1.out HO1.out hg2); have cC := HK2.out.cell c1 (fun h => h); have cD := frozen_after HK2.out HR.out.blk; have HO2 := hid hown2; clear hown2 hg2))
          all_goals
            go_wp2
            go_ret2
            exact ⟨rfl, pop_post HR.out HN.out hlt HK2.out HO2.out⟩
      | false =>
        go_wp2
        go_round
        case rel => exact ⟨i + 1, by omega, by go_num, fun j hj q' hq' => by
          rcases Nat.lt_or_eq_of_le (Nat.le_of_lt_succ hj) with h | rfl
          · exact HNO.out j h q' hq'
          · rw [HQ.out] at hq'; cases hq'; exact hd⟩
        case measure => simp [intOf]; omega
    · obtain rfl : i = n := by omega
      have hf := first_none (R := R) (k := k) (fun j q hq => HNO.out j (by rw [HN.out]; exact (List.getElem?_eq_some_iff.1 hq).1) q hq)
      rw [HF.out] at hf
      cases hf

set_option maxRecDepth 100000 in
set_option maxHeartbeats 1000000 in
theorem pop_none {w : World} {p : Nat} {v : Value} {most : Int} {R : List (Int × Int)} (h : RefAt w p v most R) (k : Int) (hf : first R k = none) :
    Calls Try.prog 16 #[.pointer (some ⟨p, 0, none⟩), .int .i64 k] w fun e w' => e = .returned (.tuple #[.int .i64 0, .bool false]) ∧ w = w' := by
  obtain ⟨c0, c1⟩ := h.cells
  obtain ⟨a, g, cap, rfl, hn, hc, ha, hcell⟩ := h.own.at_
  have hsm := h.small
  obtain ⟨n, hnn⟩ : ∃ n : Nat, n = R.length := ⟨_, rfl⟩
  rw [← hnn] at hn c1 hsm ha
  have HN := hid hnn; have HC := hid hcell; have HVA := hid ha; have HF := hid hf
  clear hnn hcell ha h hc hf hn
  go_enter Try.func16, Try.ntmps16
  go_wp2_with fail
  go_loop [6] (fun ix => ∃ i : Nat, i ≤ n ∧ ix = .int .i64 i ∧ ∀ j, j < i → ∀ q : Int × Int, R[j]? = some q → (q.1 == k) = false) (fun ix => n - (intOf ix).toNat)
  case atStart => exact ⟨0, Nat.zero_le _, rfl, fun j h => absurd h (by omega)⟩
  case round =>
    obtain ⟨i, hin, rfl, hno⟩ := hrel
    have HNO := hid hno
    clear hno
    by_cases hlt : i < n
    · have hva := HVA.out (by omega)
      subst hva
      obtain ⟨q, hq⟩ : ∃ q, R[i]? = some q := ⟨_, List.getElem?_eq_getElem (show i < R.length by rw [← HN.out]; exact hlt)⟩
      obtain ⟨h1, h2⟩ := HC.out i q hq
      have HQ := hid hq
      clear hq
      cases hd : q.1 == k with
      | true =>
        have hf := first_some HQ.out hd HNO.out
        rw [HF.out] at hf
        cases hf
      | false =>
        go_wp2
        go_round
        case rel => exact ⟨i + 1, by omega, by go_num, fun j hj q' hq' => by
          rcases Nat.lt_or_eq_of_le (Nat.le_of_lt_succ hj) with h | rfl
          · exact HNO.out j h q' hq'
          · rw [HQ.out] at hq'; cases hq'; exact hd⟩
        case measure => simp [intOf]; omega
    · obtain rfl : i = n := by omega
      go_wp2
      go_ret2
      exact ⟨rfl, rfl⟩
end Go.Proofs.Ythdnbdbnlbebeaa.R
