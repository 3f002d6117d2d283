/- The iterator of match.Lists.All at int, as a range over it meets it. -/
import Derived.Test.YthdnbdbnlbebeaaAll
import Derived.RangeFuncNested
import Derived.RangeFuncBound
import Derived.RangeFuncCalls
import Derived.RangeFuncLeaves
import Derived.Shelf.Abstract
import Derived.Shelf.RegionOpen
import Derived.WalkKit
import Derived.OwnWalkIn
import Derived.TacticsInMore
import Derived.LoopNIn
import Derived.LoopIn
namespace Go.Proofs.Ythdnbdbnlbebeaa.LI
open Go Go.RowKit Go.MapKept Go.Shelf Go.Proofs.Ythdnbdbnlbebeaa
attribute [local go_sem] Oper.semAt_some

/-- All tasks with their lists' numbers, list by list. -/
def flat (ks : List Int) (L : List (Int × List Int)) : List (Int × Int) := ks.flatMap (fun k => (row L k).map (fun t => (k, t)))
theorem flat_snoc (ks : List Int) (L : List (Int × List Int)) (j : Nat) (k : Int) (h : ks[j]? = some k) : flat (ks.take (j + 1)) L = flat (ks.take j) L ++ (row L k).map (fun t => (k, t)) := by
  have hi := (List.getElem?_eq_some_iff.1 h).1
  have e : ks[j] = k := by rw [List.getElem?_eq_getElem hi] at h; simpa using h
  unfold flat
  rw [List.take_succ_eq_append_getElem hi, List.flatMap_append, e]
  simp
theorem flat_room (ks : List Int) (L : List (Int × List Int)) (j i : Nat) (k : Int) (h : ks[j]? = some k) (hi : i < (row L k).length) : (flat (ks.take j) L ++ ((row L k).take i).map (fun t => (k, t))).length < (flat ks L).length := by
  have h1 := flat_snoc ks L j k h
  have h2 : flat ks L = flat (ks.take (j + 1)) L ++ flat (ks.drop (j + 1)) L := by
    unfold flat
    rw [← List.flatMap_append, List.take_append_drop]
  rw [h2, h1]
  simp only [List.length_append, List.length_map, List.length_take]
  omega
theorem flat_pre (ks : List Int) (L : List (Int × List Int)) (j i : Nat) (k : Int) (h : ks[j]? = some k) : flat (ks.take j) L ++ ((row L k).take i).map (fun t => (k, t)) <+: flat ks L := by
  have h1 := flat_snoc ks L j k h
  have h2 : flat ks L = flat (ks.take (j + 1)) L ++ flat (ks.drop (j + 1)) L := by
    unfold flat
    rw [← List.flatMap_append, List.take_append_drop]
  rw [h2, h1, List.append_assoc]
  refine (List.prefix_append_right_inj _).2 ?_
  refine List.IsPrefix.trans ?_ (List.prefix_append _ _)
  exact (List.take_prefix _ _).map _
def encs (q : Int × Int) : Array Value := #[.int .i64 q.1, .int .i64 q.2]

set_option maxRecDepth 100000 in
set_option maxHeartbeats 2000000 in
theorem all1_stops (F : Fence) (n : Nat) (h45 : F.fn 45) (hro : F.round = none) (hn : 1 ≤ n) (S : Nat → Prop) (B4 B3 bw : Nat) (v : Value) (ks : List Int) (L : List (Int × List Int)) (w0 : World)
    (h4 : w0.cell? ⟨B4, 0, none⟩ = some v) (h3 : w0.cell? ⟨B3, 0, none⟩ = some (.map (some bw))) (_ : ¬ S B4) (hS3 : ¬ S B3) (hSb : ¬ S bw) (hsl : SliceAt w0 S 1 v ks.length (ks.map (.int .i64))) (hwas : Was w0 S bw L ks) :
    SeqStopsK F n Try.prog 45 #[.pointer (some ⟨B4, 0, none⟩), .pointer (some ⟨B3, 0, none⟩)] encs (Keeps S) (fun xs => xs = flat ks L) (fun pre => pre <+: flat ks L) (flat ks L).length w0 := fun l J Jx W hW hJ hJx hY h0 => by
  obtain ⟨a4, c4, hv4⟩ := hsl.lenOf
  subst hv4
  obtain ⟨m, hm⟩ : ∃ m : Nat, m = ks.length := ⟨_, rfl⟩
  rw [← hm] at hsl h4
  obtain ⟨bb, off, hva⟩ : ∃ bb off, 0 < m → a4 = some ⟨bb, off, none⟩ := by
    rcases Nat.eq_zero_or_pos m with h | h
    · exact ⟨0, 0, fun h => by omega⟩
    · obtain ⟨b', off, h1, _⟩ := hsl.addr h; exact ⟨b', off, fun _ => h1⟩
  have hmax : m ≤ 9223372036854775807 := hsl.2.1
  have HK0 := hid (Keeps.of_below hW)
  have hwas1 : Was W S bw L ks := hwas.keeps HK0.out (fun h => h) (fun _ _ h => h.elim) (fun _ _ h => h)
  have hsl1 : SliceAt W S 1 (.slice a4 m c4) m (ks.map (.int .i64)) := hsl.keeps HK0.out (fun _ _ h => h.elim) (fun _ _ h => h)
  have h4 := HK0.out.cell h4 (fun h => h)
  have h3 := HK0.out.cell h3 (fun h => h)
  have HVA := hid hva; have HWAS := hid hwas1; have HSL := hid hsl1; have HMM := hid hm
  have HY : Hid (∀ pre x W1, J pre W1 → pre.length < (flat ks L).length → YieldAt F (n - 1) Try.prog l (encs x) W1 fun e W' =>
      (e = .returned (.bool true) ∧ J (pre ++ [x]) W' ∧ Keeps S W1 W') ∨ (e = .returned (.bool false) ∧ Jx (pre ++ [x]) W')) := hY
  have H3 := hid h3
  clear hwas hsl hva hm hwas1 hsl1 hY hW
  refine callsIn_of_wp Try.func45 rfl h45 ?_ hro
  simp only [Try.ntmps45, List.size_toArray, List.length_cons, List.length_nil, Nat.reduceAdd, Nat.reduceSub, Array.replicate_succ, Array.replicate_zero, List.push_toArray, List.append_toArray, List.nil_append, List.cons_append]
  gi_wp2
  gi_loopw [10] (fun ix wr => ∃ j : Nat, j ≤ m ∧ ix = .int .i64 j ∧ Keeps S W wr ∧ J (flat (ks.take j) L) wr) (fun ix _ => m - (intOf ix).toNat)
  case atStart => exact ⟨0, Nat.zero_le _, rfl, Keeps.refl _ _, h0⟩
  case round =>
    obtain ⟨j, hjm, rfl, hk, hJs⟩ := hrel
    have HK := hid hk
    clear hk
    by_cases hlt : j < m
    · have hva := HVA.out (by omega)
      subst hva
      obtain ⟨k, hk⟩ : ∃ k, ks[j]? = some k := ⟨_, List.getElem?_eq_getElem (show j < ks.length by rw [← HMM.out]; exact hlt)⟩
      have hcj : wr.cell? ⟨bb, off + j, none⟩ = some (.int .i64 k) := by
        have h := HSL.out.keeps (M' := S) HK.out (fun _ _ h => h) (fun _ _ h => h)
        obtain ⟨b', off', h1, hr⟩ := h.addr (by omega)
        simp only [Option.some.injEq, Addr.mk.injEq, and_true] at h1
        obtain ⟨rfl, rfl⟩ := h1
        exact hr.cell j _ (by simp [List.getElem?_map, hk])
      have HTK := hid (flat_snoc ks L j k hk)
      have HH := hid hk
      have c3 := HK.out.cell H3.out hS3
      obtain ⟨es, clock, m0, hb, hm, hrows⟩ := HWAS.out
      obtain ⟨v0, hv0, hs0⟩ := hrows k (List.mem_of_getElem? hk)
      have hs1 := hs0.keeps (M' := S) HK.out (fun _ _ h => h) (fun _ _ h => h)
      obtain ⟨a0, cp0, hv⟩ := hs1.lenOf
      subst hv
      have hl := run_look (P := Try.prog) Try.underlying53 Try.underlying3 (HK.out.at_ hb hSb) hm (zeroS wr) k false
      rw [hv0] at hl
      simp only [Bool.false_eq_true, if_false, Option.getD_some] at hl
      obtain ⟨r, hr⟩ : ∃ r : Nat, r = (row L k).length := ⟨_, rfl⟩
      rw [← hr] at hl hs1
      have hrmax : r ≤ 9223372036854775807 := hs1.2.1
      obtain ⟨rb, ro, hra⟩ : ∃ rb ro, 0 < r → a0 = some ⟨rb, ro, none⟩ := by
        rcases Nat.eq_zero_or_pos r with h | h
        · exact ⟨0, 0, fun h => by omega⟩
        · obtain ⟨b', off, h1, _⟩ := hs1.addr h; exact ⟨b', off, fun _ => h1⟩
      have HRA := hid hra; have HS1 := hid hs1; have HR := hid hr
      clear hk hb hm hrows hs0 hs1 hv0 hra hr
      gi_wp2
      obtain ⟨wo, hwo⟩ : ∃ wo : World, wo = wr := ⟨_, rfl⟩
      subst hwo
      gi_loopw [18] (fun ix wr => ∃ i : Nat, i ≤ r ∧ ix = .int .i64 i ∧ Keeps S wo wr ∧ J (flat (ks.take j) L ++ ((row L k).take i).map (fun t => (k, t))) wr) (fun ix _ => r - (intOf ix).toNat)
      case atStart => exact ⟨0, Nat.zero_le _, rfl, Keeps.refl _ _, by simpa using hJs⟩
      case round =>
        obtain ⟨i, hir, rfl, hk2, hJ2⟩ := hrel
        have HK2 := hid hk2
        clear hk2
        by_cases hlt2 : i < r
        · have hra := HRA.out (by omega)
          subst hra
          obtain ⟨t, ht⟩ : ∃ t, (row L k)[i]? = some t := ⟨_, List.getElem?_eq_getElem (show i < (row L k).length by rw [← HR.out]; exact hlt2)⟩
          have hci : wr.cell? ⟨rb, ro + i, none⟩ = some (.int .i64 t) := by
            have h := HS1.out.keeps (M' := S) HK2.out (fun _ _ h => h) (fun _ _ h => h)
            obtain ⟨b', off', h1, hr⟩ := h.addr (by omega)
            simp only [Option.some.injEq, Addr.mk.injEq, and_true] at h1
            obtain ⟨rfl, rfl⟩ := h1
            exact hr.cell i _ (by simp [List.getElem?_map, ht, enc])
          have htk : ((row L k).take (i + 1)).map (fun t => (k, t)) = ((row L k).take i).map (fun t => (k, t)) ++ [(k, t)] := by
            have hi := (List.getElem?_eq_some_iff.1 ht).1
            have e : (row L k)[i] = t := by rw [List.getElem?_eq_getElem hi] at ht; simpa using ht
            rw [List.take_succ_eq_append_getElem hi, List.map_append, e]
            rfl
          have HT := hid htk
          obtain ⟨fn, tmps, assign, body, hy, hR⟩ := HY.out _ (k, t) wr hJ2 (flat_room ks L j i k HH.out (by rw [← HR.out]; exact hlt2))
          dsimp only [encs] at hy
          clear ht htk
          gi_wp2
          refine hR.mono ?_
          rintro e W3 (⟨rfl, hJ3, hk3⟩ | ⟨rfl, hJx3⟩)
          · have HK3 := hid hk3
            clear hk3
            gi_wp2
            go_roundw
            case rel => exact ⟨i + 1, by omega, by go_num, HK2.out.then' HK3.out, by rw [HT.out, ← List.append_assoc]; exact hJ3⟩
            case measure => simp [intOf]; omega
          · gi_wp2
            refine bodyPost_ret (results_none rfl _ _ _) rfl ?_
            exact ⟨⟨_, rfl⟩, .inr ⟨_, by rw [List.append_assoc, ← HT.out]; exact flat_pre ks L j (i + 1) k HH.out, hJx3⟩⟩
        · obtain rfl : i = r := by omega
          gi_wp2
          go_roundw
          case rel => exact ⟨j + 1, by omega, by go_num, HK.out.then' HK2.out, by rw [HTK.out]; rw [HR.out, List.take_length] at hJ2; exact hJ2⟩
          case measure => simp [intOf]; omega
    · obtain rfl : j = m := by omega
      have e1 : ks.take j = ks := by rw [HMM.out, List.take_length]
      rw [e1] at hJs
      gi_wp2
      go_end0
      exact ⟨⟨_, rfl⟩, .inl ⟨_, rfl, hJs⟩⟩
end Go.Proofs.Ythdnbdbnlbebeaa.LI
