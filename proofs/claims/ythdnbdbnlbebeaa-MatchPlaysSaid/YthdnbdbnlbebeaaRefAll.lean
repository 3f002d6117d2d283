/- The reference's All. -/
import Derived.Test.YthdnbdbnlbebeaaRefNames
namespace Go.Proofs.Ythdnbdbnlbebeaa.R
open Go Go.RowKit Go.MapKept Go.Proofs.Ythdnbdbnlbebeaa

/-- All tasks, list by list. -/
def all (ks : List Int) (R : List (Int × Int)) : List (Int × Int) := ks.flatMap (fun k => R.filter (fun q => q.1 == k))
theorem all_snoc (ks : List Int) (R : List (Int × Int)) (j : Nat) (k : Int) (h : ks[j]? = some k) : all (ks.take (j + 1)) R = all (ks.take j) R ++ R.filter (fun q => q.1 == k) := by
  have hi := (List.getElem?_eq_some_iff.1 h).1
  have e : ks[j] = k := by rw [List.getElem?_eq_getElem hi] at h; simpa using h
  unfold all
  rw [List.take_succ_eq_append_getElem hi, List.flatMap_append, e]
  simp
/-- Of tasks those of one list, and the rest. -/
theorem all_length (ks : List Int) (hn : ks.Nodup) (R : List (Int × Int)) : (all ks R).length ≤ R.length := by
  induction ks generalizing R with
  | nil => simp [all]
  | cons k ks ih =>
    rw [List.nodup_cons] at hn
    have h1 := ih hn.2 (R.filter (fun q => !(q.1 == k)))
    have h2 : all ks (R.filter (fun q => !(q.1 == k))) = all ks R := by
      unfold all
      rw [List.flatMap_def, List.flatMap_def]
      congr 1
      refine List.map_congr_left (fun x hx => ?_)
      rw [List.filter_filter]
      refine List.filter_congr (fun q _ => ?_)
      by_cases hq : q.1 = x
      · subst hq
        have : q.1 ≠ k := fun e => hn.1 (e ▸ hx)
        simp [this]
      · simp [hq]
    have h3 : (all (k :: ks) R).length = (R.filter (fun q => q.1 == k)).length + (all ks R).length := by simp [all]
    have h4 : (R.filter (fun q => q.1 == k)).length + (R.filter (fun q => !(q.1 == k))).length = R.length := by
      have := List.length_eq_countP_add_countP (fun q : Int × Int => q.1 == k) (l := R)
      rw [List.countP_eq_length_filter, List.countP_eq_length_filter] at this
      have e : (fun q : Int × Int => !(q.1 == k)) = (fun q : Int × Int => decide ¬(q.1 == k) = true) := by
        funext q; cases (q.1 == k) <;> rfl
      rw [e]; omega
    rw [h2] at h1
    omega
theorem row_add {W : World} {b : Nat} {v : Value} {xs : List (Int × Int)} {q : Int × Int} (h : W.ownsRow b 66 2 v (xs.length + 1) (rcells xs ++ [.int .i64 q.1, .int .i64 q.2])) : Row W b v (xs ++ [q]) := by
  unfold Row
  rw [rcells_append, List.length_append]
  exact h
theorem nodup_rising {ks l : List Int} (h : Rising ks l) : ks.Nodup := h.rise.imp (fun h => by omega)

set_option maxRecDepth 100000 in
set_option maxHeartbeats 2000000 in
theorem all_ {w : World} {p : Nat} {v : Value} {most : Int} {R : List (Int × Int)} (h : RefAt w p v most R) :
    Calls Try.prog 37 #[.pointer (some ⟨p, 0, none⟩)] w fun e w' => ∃ v' ks, e = .returned v' ∧ Keeps None w w' ∧ Row w' w.heap.size v' (all ks R) ∧ Rising ks (R.map (·.1)) := by
  obtain ⟨i0, hi0, hz0, hz1, hz2⟩ := info_parts infoE
  have hnames := names h
  obtain ⟨c0, c1⟩ := h.cells
  obtain ⟨a, g, cap, rfl, hn, hc, ha, hcell⟩ := h.own.at_
  have hsm := h.small
  obtain ⟨n, hnn⟩ : ∃ n : Nat, n = R.length := ⟨_, rfl⟩
  rw [← hnn] at hn c1 hsm ha
  have HN := hid hnn; have HC := hid hcell; have HVA := hid ha; have HC1 := hid c1
  clear hnn hcell ha h hc c1 c0
  go_enter Try.func37, Try.ntmps37
  go_wp2_with (go_at_call 36; go_must (refine hnames.mono ?_); rintro e w1 ⟨v1, ks, rfl, hk1, hrow1, hrise⟩; have HK1 := hid hk1; have HROW1 := hid hrow1; have HRI := hid hrise; clear hk1 hrow1 hrise)
  obtain ⟨a4, g4, cap4, rfl, hcap4, hcm4, ha4, hcells4⟩ := HROW1.out.at_
  obtain ⟨m, hm⟩ : ∃ m : Nat, m = ks.length := ⟨_, rfl⟩
  rw [← hm] at hcap4
  rw [← hm]
  have hkl : m ≤ n := by have := HRI.out.length_le; rw [List.length_map, ← hm, ← HN.out] at this; exact this
  have HM := hid hm; have HA4 := hid ha4; have HC4 := hid hcells4
  clear hm ha4 hcells4
  go_loopw [3, 5] (fun o kx wr => ∃ k : Nat, k ≤ m ∧ kx = .int .i64 k ∧ Keeps None w1 wr ∧ Row wr w1.heap.size o (all (ks.take k) R)) (fun _ kx _ => m - (intOf kx).toNat)
  case atStart => exact ⟨0, Nat.zero_le _, rfl, Keeps.refl _ _, World.ownsRow_nil _ _ _ _⟩
  case round =>
    obtain ⟨k, hkm, rfl, hk, hrow⟩ := hrel
    have HK := hid hk; have HROW := hid hrow
    clear hk hrow
    by_cases hlt : k < m
    · obtain ⟨y, hy⟩ : ∃ y, ks[k]? = some y := ⟨_, List.getElem?_eq_getElem (show k < ks.length by rw [← HM.out]; exact hlt)⟩
      have ha4 : a4 = some ⟨g4, 0, none⟩ := by
        rcases HA4.out with ⟨_, hnil, _⟩ | h
        · rw [hnil] at hy; simp at hy
        · exact h
      subst ha4
      have HS := hid (all_snoc ks R k y hy)
      have HY := hid hy
      clear hy
      obtain ⟨wo, hwo⟩ : ∃ wo : World, wo = wr := ⟨_, rfl⟩
      subst hwo
      go_wp2_with fail
      go_loopw [3, 6] (fun o ix wr => ∃ i : Nat, i ≤ n ∧ ix = .int .i64 i ∧ Keeps None w1 wr ∧ Row wr w1.heap.size o (all (ks.take k) R ++ (R.take i).filter (fun q => q.1 == y))) (fun _ ix _ => n - (intOf ix).toNat)
      case atStart => exact ⟨0, Nat.zero_le _, rfl, HK.out, by simpa using HROW.out⟩
      case round =>
        obtain ⟨i, hin, rfl, hk2, hrow2⟩ := hrel
        have HK2 := hid hk2; have HROW2 := hid hrow2
        have c1 := (HK1.out.then' hk2).cell HC1.out (fun h => h)
        have h4 := hk2.cell (HC4.out k y HY.out) (fun h => h)
        clear hk2 hrow2
        by_cases hlt2 : i < n
        · have hva := HVA.out (by omega)
          subst hva
          obtain ⟨q, hq⟩ : ∃ q, R[i]? = some q := ⟨_, List.getElem?_eq_getElem (show i < R.length by rw [← HN.out]; exact hlt2)⟩
          have h1 := (HK1.out.then' HK2.out).cell (HC.out i q hq).1 (fun h => h)
          have h2 := (HK1.out.then' HK2.out).cell (HC.out i q hq).2 (fun h => h)
          have HS2 := hid (filter_snoc (fun q => q.1 == y) R i q hq)
          clear hq
          cases hd : q.1 == y with
          | true =>
            have hlen : (all (ks.take k) R ++ (R.take i).filter (fun q => q.1 == y)).length ≤ 2000000 := by
              have h1 := all_length (ks.take k) ((nodup_rising HRI.out).sublist (List.take_sublist _ _)) R
              have h2 := List.length_filter_le (fun q : Int × Int => q.1 == y) (R.take i)
              have h3 := List.length_take_le i R
              have h4 := HN.out
              rw [List.length_append]; omega
            have HLEN := hid hlen
            have hrowA : ∀ nq, Row ((wr.drewN nq).alloc (.cells #[.int .i64 q.1, .int .i64 q.2] 66)) w1.heap.size u3 (all (ks.take k) R ++ (R.take i).filter (fun q => q.1 == y)) := fun nq => HROW2.out.keeps (((Keeps.refl None wr).drewN nq).alloc _) (fun _ _ h => h)
            have HRA := hid hrowA
            clear hrowA hlen
            go_wp2_with fail
            go_quiet (fail)
            go_wp2_with (at_builtin; go_must (refine wpList_append_mine rfl _ _ 62 rfl w1.heap.size 66 i0 _ 2 16 Try.underlying62 hi0 hz0 hz1 hz2 rfl (by decide) u3 _ _ rfl (HRA.out _) ⟨wr.heap.size, 0, none⟩ 1 1 [.int .i64 q.1, .int .i64 q.2] rfl rfl (two_new _ _ _ _) (by intro u hu; simp at hu; rcases hu with rfl | rfl <;> rfl) (by have := HLEN.out; unfold maxLen; omega) (by have := HLEN.out; omega) (by have := HK2.out.size; have := HK1.out.size; simp; omega) ?_; intro v' w2 hown2 hg2 _; obtain ⟨a2, cap2, hv2⟩ := slice_of_own hown2; subst hv2; have HO2 := hid hown2; have HG2 := hid hg2; clear hown2 hg2))
            go_roundw
            case rel => exact ⟨i + 1, by omega, by go_num, ((HK2.out.drewN _).alloc _).grown HG2.out (fun j hj => .inl (World.ownsRow.lt HROW2.out j hj).1), by rw [HS2.out, hd, if_pos rfl, ← List.append_assoc, ← List.length_append]; exact row_add HO2.out⟩
            case measure => simp [intOf]; omega
          | false =>
            go_wp2_with fail
            go_quiet (fail)
            go_wp2_with fail
            go_roundw
            case rel => exact ⟨i + 1, by omega, by go_num, HK2.out.drewN _, by rw [HS2.out, hd]; simp only [Bool.false_eq_true, if_false, List.append_nil]; exact HROW2.out.keeps ((Keeps.refl None wr).drewN _) (fun _ _ h => h)⟩
            case measure => simp [intOf]; omega
        · obtain rfl : i = n := by omega
          go_wp2_with fail
          go_roundw
          case rel => exact ⟨k + 1, by omega, by go_num, HK2.out, by rw [HS.out]; have h := HROW2.out; rw [HN.out, List.take_length] at h; exact h⟩
          case measure => simp [intOf]; omega
    · obtain rfl : k = m := by omega
      have e1 : ks.take k = ks := by rw [HM.out, List.take_length]
      rw [e1] at HROW
      obtain ⟨a9, c9, hv9⟩ := slice_of_own HROW.out
      subst hv9
      go_wp2_with fail
      go_ret
      exact ⟨_, ks, rfl, HK1.out.then' HK.out, HROW.out.base HK1.out.size, HRI.out⟩
end Go.Proofs.Ythdnbdbnlbebeaa.R
