/- The reference's Keep. -/
import Derived.Test.YthdnbdbnlbebeaaRefPop
namespace Go.Proofs.Ythdnbdbnlbebeaa.R
open Go Go.RowKit Go.MapKept Go.Proofs.Ythdnbdbnlbebeaa

theorem filter_snoc (f : Int × Int → Bool) (R : List (Int × Int)) (i : Nat) (q : Int × Int) (h : R[i]? = some q) : (R.take (i + 1)).filter f = (R.take i).filter f ++ if f q then [q] else [] := by
  have hi := (List.getElem?_eq_some_iff.1 h).1
  have e : R[i] = q := by rw [List.getElem?_eq_getElem hi] at h; simpa using h
  rw [List.take_succ_eq_append_getElem hi, List.filter_append, e]
  cases hp : f q <;> simp [hp]

set_option maxRecDepth 100000 in
set_option maxHeartbeats 1000000 in
theorem keep {w : World} {p : Nat} {v : Value} {most : Int} {R : List (Int × Int)} (h : RefAt w p v most R) (k by_ rest : Int) (hby : 1 ≤ by_) :
    Calls Try.prog 18 #[.pointer (some ⟨p, 0, none⟩), .int .i64 k, .int .i64 by_, .int .i64 rest] w fun e w' =>
      let f := fun q : Int × Int => q.1 != k || q.2.tmod by_ == rest
      e = .returned (.int .i64 (R.length - (R.filter f).length)) ∧ Keeps (One p) w w' ∧ ∃ v', RefAt w' p v' most (R.filter f) ∧ ∀ j, v'.ownBlock = some j → w.heap.size ≤ j := by
  obtain ⟨f, hf⟩ : ∃ f : Int × Int → Bool, f = fun q : Int × Int => q.1 != k || q.2.tmod by_ == rest := ⟨_, rfl⟩
  simp only [← hf]
  obtain ⟨i0, hi0, hz0, hz1, hz2⟩ := info_parts infoE
  obtain ⟨c0, c1⟩ := h.cells
  have hlt := lt_of_block h.blk
  have HR := hid h
  obtain ⟨a, g, cap, rfl, hn, hc, ha, hcell⟩ := h.own.at_
  have hsm := h.small
  obtain ⟨n, hnn⟩ : ∃ n : Nat, n = R.length := ⟨_, rfl⟩
  rw [← hnn] at hn c1 hsm ha
  have HN := hid hnn; have HC := hid hcell; have HVA := hid ha; have HLT := hid hlt
  have HF := hid (fun q : Int × Int => congrFun hf q)
  have HC1 := hid c1
  clear hnn hcell ha h hc hlt hf c1 c0
  have hb0 : (by_ == 0) = false := by rw [beq_eq_false_iff_ne]; omega
  go_enter Try.func18, Try.ntmps18
  go_wp2_with fail
  go_loopw [9, 10] (fun l ix wr => ∃ i : Nat, i ≤ n ∧ ix = .int .i64 i ∧ Keeps None w wr ∧ Row wr w.heap.size l ((R.take i).filter f)) (fun _ ix _ => n - (intOf ix).toNat)
  case atStart => exact ⟨0, Nat.zero_le _, rfl, Keeps.refl _ _, World.ownsRow_nil _ _ _ _⟩
  case round =>
    obtain ⟨i, hin, rfl, hk, hrow⟩ := hrel
    have HK := hid hk; have HROW := hid hrow
    have c1 := hk.cell HC1.out (fun h => h)
    clear hk hrow
    by_cases hlt : i < n
    · have hva := HVA.out (by omega)
      subst hva
      obtain ⟨q, hq⟩ : ∃ q, R[i]? = some q := ⟨_, List.getElem?_eq_getElem (show i < R.length by rw [← HN.out]; exact hlt)⟩
      obtain ⟨h1, h2⟩ := HC.out i q hq
      have h1 := HK.out.cell h1 (fun h => h)
      have h2 := HK.out.cell h2 (fun h => h)
      have hs := filter_snoc f R i q hq
      have HS := hid hs
      have HQ := hid hq
      clear hq hs
      have hfq := HF.out q
      have hle : ((R.take i).filter f).length ≤ i := Nat.le_trans (List.length_filter_le _ _) (List.length_take_le _ _)
      have HLE := hid hle
      clear hle
      by_cases hfq2 : f q = true
      · have hadd : ∀ (v' : Value) (w2 : World), w2.ownsRow w.heap.size 66 2 v' (((R.take i).filter f).length + 1) (rcells ((R.take i).filter f) ++ [.int .i64 q.1, .int .i64 q.2]) → Row w2 w.heap.size v' ((R.take (i + 1)).filter f) := by
          intro v' w2 ho
          unfold Row
          rw [HS.out, hfq2, if_pos rfl, rcells_append, List.length_append]
          exact ho
        have HADD := hid hadd
        clear hadd
        have hrowA : Row (wr.alloc (.cells #[.int .i64 q.1, .int .i64 q.2] 66)) w.heap.size u9 ((R.take i).filter f) := HROW.out.keeps ((Keeps.refl None wr).alloc _) (fun _ _ h => h)
        have HRA := hid hrowA
        clear hrowA
        rw [hfq2] at hfq
        clear hfq2
        cases hd : q.1 != k with
        | true =>
          clear hfq
          go_wp2_with (at_builtin; go_must (refine wpList_append_mine rfl _ _ 62 rfl w.heap.size 66 i0 _ 2 16 Try.underlying62 hi0 hz0 hz1 hz2 rfl (by decide) _ _ _ rfl HRA.out ⟨wr.heap.size, 0, none⟩ 1 1 [.int .i64 q.1, .int .i64 q.2] rfl rfl (two_new _ _ _ _) (by intro u hu; simp at hu; rcases hu with rfl | rfl <;> rfl) (by have := HLE.out; unfold maxLen; omega) (by have := HLE.out; omega) (by have := HK.out.size; simp; omega) ?_; intro v' w2 hown2 hg2 _; obtain ⟨a2, cap2, hv2⟩ := slice_of_own hown2; subst hv2; have HO2 := hid hown2; have HG2 := hid hg2; clear hown2 hg2))
          go_roundw
          case rel => exact ⟨i + 1, by omega, by go_num, (HK.out.alloc _).grown HG2.out (fun j hj => .inl (World.ownsRow.lt HROW.out j hj).1), HADD.out _ _ HO2.out⟩
          case measure => simp [intOf]; omega
        | false =>
          rw [hd, Bool.false_or] at hfq
          have hd2 := hfq.symm
          clear hfq
          go_wp2_with (at_builtin; go_must (refine wpList_append_mine rfl _ _ 62 rfl w.heap.size 66 i0 _ 2 16 Try.underlying62 hi0 hz0 hz1 hz2 rfl (by decide) _ _ _ rfl HRA.out ⟨wr.heap.size, 0, none⟩ 1 1 [.int .i64 q.1, .int .i64 q.2] rfl rfl (two_new _ _ _ _) (by intro u hu; simp at hu; rcases hu with rfl | rfl <;> rfl) (by have := HLE.out; unfold maxLen; omega) (by have := HLE.out; omega) (by have := HK.out.size; simp; omega) ?_; intro v' w2 hown2 hg2 _; obtain ⟨a2, cap2, hv2⟩ := slice_of_own hown2; subst hv2; have HO2 := hid hown2; have HG2 := hid hg2; clear hown2 hg2))
          go_roundw
          case rel => exact ⟨i + 1, by omega, by go_num, (HK.out.alloc _).grown HG2.out (fun j hj => .inl (World.ownsRow.lt HROW.out j hj).1), HADD.out _ _ HO2.out⟩
          case measure => simp [intOf]; omega
      · have hfq3 : f q = false := by simpa using hfq2
        have hrow2 : Row wr w.heap.size u9 ((R.take (i + 1)).filter f) := by
          have := HROW.out
          rw [HS.out, hfq3]
          simpa using this
        have HR2 := hid hrow2
        clear hrow2 hfq2
        rw [hfq3] at hfq
        have hfq4 := hfq.symm
        rw [Bool.or_eq_false_iff] at hfq4
        obtain ⟨hd, hd2⟩ := hfq4
        clear hfq hfq3
        go_wp2_with fail
        go_roundw
        case rel => exact ⟨i + 1, by omega, by go_num, HK.out, HR2.out⟩
        case measure => simp [intOf]; omega
    · obtain rfl : i = n := by omega
      have e1 : R.take i = R := by rw [HN.out, List.take_length]
      rw [e1] at HROW
      obtain ⟨a9, c9, hv9⟩ := slice_of_own HROW.out
      subst hv9
      have c2 : wr.frozen? ⟨p, 1, none⟩ = false := frozen_after HK.out HR.out.blk
      have hle : (R.filter f).length ≤ i := by rw [HN.out]; exact List.length_filter_le _ _
      have hlen := HN.out
      go_wp2_with fail
      go_ret
      have hs := Keeps.setAt wr p 1 (.slice a9 (R.filter f).length c9)
      refine ⟨by rw [← HN.out]; rfl, (HK.out.of_none).then' hs, _, ⟨heap_set_cells (HK.out.at_ HR.out.blk (fun h => h)) _, ?_, by omega⟩, fun j hj => (World.ownsRow.lt HROW.out j hj).1⟩
      exact ((HROW.out.keeps hs (fun j hj hp => by have := (World.ownsRow.lt HROW.out j hj).1; have : j = p := hp; have := HLT.out; omega))).base (by have := HLT.out; omega)
end Go.Proofs.Ythdnbdbnlbebeaa.R
