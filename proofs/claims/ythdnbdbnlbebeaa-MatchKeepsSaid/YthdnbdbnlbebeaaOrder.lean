/- MatchOrder: what the walk comes to. -/
import Derived.Test.YthdnbdbnlbebeaaLI
import Derived.Test.YthdnbdbnlbebeaaKnown
namespace Go.Proofs.Ythdnbdbnlbebeaa
open Go Go.RowKit Go.MapKept
namespace LI

def total (L : List (Int × List Int)) : Nat := (L.map (fun p => p.2.length)).sum

theorem total_put (L : List (Int × List Int)) (k x : Int) : total (put L k (row L k ++ [x])) = total L + 1 := by
  unfold row total
  induction L with
  | nil => simp [put, look]
  | cons p L ih =>
    by_cases h : p.1 = k
    · simp [put, look, h]; omega
    · simp only [put, look, if_neg h, List.map_cons, List.sum_cons] at ih ⊢; omega
theorem total_store {L : List (Int × List Int)} {k x : Int} {xs : List Int} (h : row L k = x :: xs) : total (store L k xs) + 1 = total L := by
  unfold row at h
  unfold total store
  induction L with
  | nil => simp [look] at h
  | cons p L ih =>
    by_cases hp : p.1 = k
    · simp only [look, if_pos hp, Option.getD_some] at h
      split
      · rename_i h0
        simp [del, hp, h, h0]; omega
      · simp [put, hp, h]; omega
    · simp only [look, if_neg hp] at h
      have := ih h
      split
      · rename_i h0
        rw [if_pos h0] at this
        simp only [del, if_neg hp, List.map_cons, List.sum_cons]; omega
      · rename_i h0
        rw [if_neg h0] at this
        simp only [put, if_neg hp, List.map_cons, List.sum_cons]; omega
theorem row_put_same (L : List (Int × List Int)) (k : Int) (xs : List Int) : row (put L k xs) k = xs := by simp [row, look_put_same]
theorem row_put_other (L : List (Int × List Int)) {k j : Int} (xs : List Int) (h : j ≠ k) : row (put L k xs) j = row L j := by simp [row, look_put_other L xs h]
theorem row_store_same {L : List (Int × List Int)} (hn : (keys L).Nodup) (k : Int) (xs : List Int) : row (store L k xs) k = xs := by
  unfold store
  split
  · rename_i h0; simp [row, look_del_same hn]; exact List.eq_nil_of_length_eq_zero h0
  · exact row_put_same _ _ _
theorem row_store_other (L : List (Int × List Int)) {k j : Int} (xs : List Int) (h : j ≠ k) : row (store L k xs) j = row L j := by
  unfold store
  split
  · simp [row, look_del_other L h]
  · exact row_put_other _ _ h
theorem nodup_store {L : List (Int × List Int)} (hn : (keys L).Nodup) (k : Int) (xs : List Int) : (keys (store L k xs)).Nodup := by
  unfold store
  split
  · exact nodup_del hn k
  · exact nodup_put hn k xs
theorem total_zero {L : List (Int × List Int)} (hn : (keys L).Nodup) (h : ∀ k, row L k = []) : total L = 0 := by
  unfold total
  induction L with
  | nil => rfl
  | cons p L ih =>
    have h1 := h p.1
    simp [row, look] at h1
    simp only [keys, List.map_cons, List.nodup_cons] at hn
    have h2 : ∀ k, row L k = [] := fun k => by
      by_cases hk : p.1 = k
      · subst hk; simp [row, look_none hn.1]
      · have := h k; simpa [row, look, hk] using this
    simp [h1, ih hn.2 h2]

theorem row_total (L : List (Int × List Int)) (k : Int) : (row L k).length ≤ total L := by
  unfold row total
  induction L with
  | nil => simp [look]
  | cons p L ih =>
    by_cases hp : p.1 = k
    · simp [look, hp]
    · simp only [look, if_neg hp, List.map_cons, List.sum_cons]; omega

/-- Before the pops: c have been put. -/
structure Put (zs : List Int) (lists : Int) (L : List (Int × List Int)) (c : Nat) : Prop where
  nodup : (keys L).Nodup
  rows : ∀ k, ∀ t ∈ row L k, ∃ j : Nat, t = j ∧ j < c ∧ (zs[j]?.getD 0).tmod lists = k
  rising : ∀ k, (row L k).Pairwise (· < ·)
  total : total L = c

theorem Put.start (zs : List Int) (lists : Int) : Put zs lists [] 0 := ⟨by simp [keys], fun k t h => by simp [row, look] at h, fun k => by simp [row, look], rfl⟩
theorem Put.step {zs : List Int} {lists : Int} {L : List (Int × List Int)} {c : Nat} (h : Put zs lists L c) : Put zs lists (put L ((zs[c]?.getD 0).tmod lists) (row L ((zs[c]?.getD 0).tmod lists) ++ [(c : Int)])) (c + 1) := by
  refine ⟨nodup_put h.nodup _ _, fun k t ht => ?_, fun k => ?_, by rw [total_put, h.total]⟩
  · by_cases hk : k = (zs[c]?.getD 0).tmod lists
    · subst hk
      rw [row_put_same, List.mem_append, List.mem_singleton] at ht
      rcases ht with ht | rfl
      · obtain ⟨j, h1, h2, h3⟩ := h.rows _ t ht; exact ⟨j, h1, by omega, h3⟩
      · exact ⟨c, rfl, by omega, rfl⟩
    · rw [row_put_other _ _ hk] at ht
      obtain ⟨j, h1, h2, h3⟩ := h.rows _ t ht; exact ⟨j, h1, by omega, h3⟩
  · by_cases hk : k = (zs[c]?.getD 0).tmod lists
    · subst hk
      rw [row_put_same, List.pairwise_append]
      refine ⟨h.rising _, by simp, fun a ha b hb => ?_⟩
      simp at hb; subst hb
      obtain ⟨j, rfl, h2, _⟩ := h.rows _ a ha
      omega
    · rw [row_put_other _ _ hk]; exact h.rising k
theorem Put.row_le {zs : List Int} {lists : Int} {L : List (Int × List Int)} {c : Nat} (h : Put zs lists L c) (k : Int) : (row L k).length ≤ c := by
  have ht := h.total
  rw [← ht]
  unfold row LI.total
  clear ht h
  induction L with
  | nil => simp [look]
  | cons p L ih =>
    by_cases hp : p.1 = k
    · simp [look, hp]
    · simp only [look, if_neg hp, List.map_cons, List.sum_cons]; omega

/-- Among the pops: the lists ahead of k are empty. -/
structure Pops (zs : List Int) (lists : Int) (len : Nat) (L : List (Int × List Int)) (k : Int) (n : Nat) : Prop where
  nodup : (keys L).Nodup
  rows : ∀ k, ∀ t ∈ row L k, ∃ j : Nat, t = j ∧ j < len ∧ (zs[j]?.getD 0).tmod lists = k
  rising : ∀ k, (row L k).Pairwise (· < ·)
  left : ∀ j, row L j ≠ [] → k ≤ j ∧ j < lists
  total : total L + n = len

theorem Put.pops {zs : List Int} {lists : Int} {L : List (Int × List Int)} {len : Nat} (hl : 1 ≤ lists) (h : Put zs lists L len) : Pops zs lists len L (0 - lists) 0 :=
  ⟨h.nodup, h.rows, h.rising, fun j hj => by
    obtain ⟨t, ht⟩ := List.exists_mem_of_ne_nil _ hj
    obtain ⟨i, _, _, h3⟩ := h.rows j t ht
    have h1 := Int.tmod_lt_of_pos (zs[i]?.getD 0) (show 0 < lists by omega)
    have h2 : -lists < (zs[i]?.getD 0).tmod lists := by
      have := Int.lt_tmod_of_pos (zs[i]?.getD 0) (show 0 < lists by omega)
      omega
    omega, by have := h.total; omega⟩
theorem Pops.pop {zs : List Int} {lists : Int} {len : Nat} {L : List (Int × List Int)} {k : Int} {n : Nat} (h : Pops zs lists len L k n) {x : Int} {xs : List Int} (hr : row L k = x :: xs) :
    Pops zs lists len (store L k xs) k (n + 1) ∧ ∀ t ∈ xs, x < t := by
  have hri := h.rising k
  rw [hr, List.pairwise_cons] at hri
  refine ⟨⟨nodup_store h.nodup _ _, fun j t ht => ?_, fun j => ?_, fun j hj => ?_, by have := total_store hr; have := h.total; omega⟩, hri.1⟩
  · by_cases hk : j = k
    · subst hk; rw [row_store_same h.nodup] at ht; exact h.rows _ t (hr ▸ List.mem_cons_of_mem _ ht)
    · rw [row_store_other _ _ hk] at ht; exact h.rows _ t ht
  · by_cases hk : j = k
    · subst hk; rw [row_store_same h.nodup]; exact hri.2
    · rw [row_store_other _ _ hk]; exact h.rising j
  · by_cases hk : j = k
    · subst hk; exact h.left j (by rw [hr]; simp)
    · rw [row_store_other _ _ hk] at hj; exact h.left j hj
theorem Pops.next {zs : List Int} {lists : Int} {len : Nat} {L : List (Int × List Int)} {k : Int} {n : Nat} (h : Pops zs lists len L k n) (hr : row L k = []) : Pops zs lists len L (k + 1) n :=
  ⟨h.nodup, h.rows, h.rising, fun j hj => by
    have := h.left j hj
    have : j ≠ k := by rintro rfl; exact hj hr
    omega, h.total⟩
theorem Pops.done {zs : List Int} {lists : Int} {len : Nat} {L : List (Int × List Int)} {k : Int} {n : Nat} (h : Pops zs lists len L k n) (hk : lists ≤ k) : n = len := by
  have := total_zero h.nodup (fun j => by
    by_cases hj : row L j = []
    · exact hj
    · have := h.left j hj; omega)
  have := h.total
  omega
end LI

theorem rest_of {z d : Int} : z.tmod d = z.tmod d := rfl

set_option maxRecDepth 100000 in
set_option maxHeartbeats 1000000 in
theorem order_any (a : Option Addr) (len cap : Nat) (zs : List Int) (lists : Int) (W : World) (hs : SliceAt W None 1 (.slice a len cap) len (zs.map (.int .i64)))
    (hz : ∀ z ∈ zs, -9223372036854775808 ≤ z ∧ z ≤ 9223372036854775807) :
    Calls Try.prog 3 #[.slice a len cap, .int .i64 lists] W fun e w' => e = .returned (.bool true) ∧ Keeps None W w' := by
  have hlen : zs.length = len := by simpa using hs.1
  by_cases hbig : 300 < len ∨ lists < 1 ∨ 20 < lists
  · have h1 : len ≤ 9223372036854775807 := hs.2.1
    clear hlen hs hz
    by_cases hl : 300 < len
    · clear hbig
      go_enter Try.func3, Try.ntmps3
      go_wp2_with (go_at_call 6; refine (known_any W).mono ?_; rintro e w1 ⟨rfl, hk1⟩; have HK1 := hid hk1; clear hk1)
      go_ret
      exact ⟨rfl, HK1.out⟩
    · by_cases hl2 : lists < 1
      · clear hbig
        go_enter Try.func3, Try.ntmps3
        go_wp2_with (go_at_call 6; refine (known_any W).mono ?_; rintro e w1 ⟨rfl, hk1⟩; have HK1 := hid hk1; clear hk1)
        go_ret
        exact ⟨rfl, HK1.out⟩
      · have hl3 : 20 < lists := by omega
        clear hbig
        go_enter Try.func3, Try.ntmps3
        go_wp2_with (go_at_call 6; refine (known_any W).mono ?_; rintro e w1 ⟨rfl, hk1⟩; have HK1 := hid hk1; clear hk1)
        go_ret
        exact ⟨rfl, HK1.out⟩
  have h1 : len ≤ 300 := by omega
  have h2 : 1 ≤ lists := by omega
  have h3 : lists ≤ 20 := by omega
  clear hbig
  have hcap := hs.capOf
  obtain ⟨sb, so, ha⟩ : ∃ sb so, 0 < len → a = some ⟨sb, so, none⟩ := by
    rcases Nat.eq_zero_or_pos len with h | h
    · exact ⟨0, 0, fun h => by omega⟩
    · obtain ⟨b, off, h1, _⟩ := hs.addr h; exact ⟨b, off, fun _ => h1⟩
  have hcell : ∀ wr : World, ∀ b, Keeps (One b) W wr → W.heap.size ≤ b → ∀ j, j < len → wr.cell? ⟨sb, so + j, none⟩ = some (.int .i64 (zs[j]?.getD 0)) := by
    intro wr b hk hb j hj
    have h := hs.keeps (M' := None) hk (fun k hk h => by cases h; omega) (fun k _ h => h)
    rw [ha (by omega)] at h
    have := h.cells j (.int .i64 (zs[j]?.getD 0)) (by simp [List.getElem?_map, List.getElem?_eq_getElem (show j < zs.length by omega)])
    rwa [Addr.add_lit] at this
  have HA := hid ha; have HC := hid hcell; have HZ := hid hz; have HL := hid hlen; have HS := hid hs; have HCAP := hid hcap
  clear ha hcell hz hlen hs hcap
  go_enter Try.func3, Try.ntmps3
  go_wp2_with fail
  refine (known_any W).mono ?_
  rintro e w1 ⟨rfl, hk1⟩
  have HK1 := hid hk1; clear hk1
  go_wp2_with fail
  refine (LI.new_any 300 w1 (by omega) (by omega)).mono ?_
  rintro e w2 ⟨p, b, rfl, hk2, hp2, hb2, hne, hpl, hbl, hL⟩
  have HL2 := hid (hL (One b)); have HK2 := hid hk2
  clear hL hk2
  have HB : Hid (W.heap.size ≤ b) := Nat.le_trans HK1.out.size hb2
  go_wp2_with fail
  go_loopw [7] (fun i wr => ∃ c : Nat, c ≤ len ∧ i = .int .i64 c ∧ Keeps (One b) w2 wr ∧ ∃ L, LI.ListsAt wr (One b) p b 300 L ∧ LI.Put zs lists L c) (fun i _ => len - (intOf i).toNat)
  case atStart => exact ⟨0, Nat.zero_le _, rfl, Keeps.refl _ _, [], HL2.out, LI.Put.start zs lists⟩
  case round =>
    obtain ⟨c, hc, rfl, hk, L, hL, hP⟩ := hrel
    have HKr := hid hk; have HLr := hid hL; have HP := hid hP
    clear hk hL hP
    have hkW : Hid (Keeps (One b) W wr) := ((Keeps.of_none HK1.out).then' (Keeps.of_none HK2.out)).then' HKr.out
    by_cases hlt : c < len
    · have hcc := HC.out wr b hkW.out HB.out c hlt
      have hae := HA.out (by omega)
      subst hae
      go_wp2_with fail
      refine (LI.push_room HLr.out (One_lt (Nat.lt_of_lt_of_le hbl HKr.out.size)) rfl (by omega) ((zs[c]?.getD 0).tmod lists) (c : Int) (by have := HP.out.row_le ((zs[c]?.getD 0).tmod lists); omega)).mono ?_
      rintro e w3 ⟨rfl, hk3, hL3⟩
      have HK3 := hid hk3; have HL3 := hid hL3
      clear hk3 hL3
      go_wp2_with fail
      go_roundw
      case rel => exact ⟨c + 1, by omega, by go_num, HKr.out.then' HK3.out, _, HL3.out, HP.out.step⟩
      case measure => simp [intOf]; omega
    · obtain rfl : c = len := by omega
      go_wp2_with fail
      go_loopw [8, 9] (fun n k wx => ∃ (kn : Int) (cn : Nat), 0 - lists ≤ kn ∧ k = .int .i64 kn ∧ n = .int .i64 cn ∧ Keeps (One b) w2 wx ∧ ∃ L, LI.ListsAt wx (One b) p b 300 L ∧ LI.Pops zs lists c L kn cn) (fun _ k _ => (lists - intOf k).toNat)
      case atStart => exact ⟨0 - lists, 0, by omega, by go_num, rfl, HKr.out, L, HLr.out, HP.out.pops h2⟩
      case round =>
        obtain ⟨kn, cn, hkn, rfl, rfl, hk, L', hL', hP'⟩ := hrel
        have HKr' := hid hk; have HLr' := hid hL'; have HP' := hid hP'
        clear hk hL' hP'
        by_cases hlt : kn < lists
        · go_wp2_with fail
          obtain ⟨wo, hwo⟩ : ∃ wo : World, wo = wr := ⟨_, rfl⟩
          subst hwo
          go_loopw [8, 10] (fun n l wx => ∃ (cn : Nat) (lv : Int), -1 ≤ lv ∧ l = .int .i64 lv ∧ n = .int .i64 cn ∧ Keeps (One b) w2 wx ∧ ∃ L, LI.ListsAt wx (One b) p b 300 L ∧ LI.Pops zs lists c L kn cn ∧ ∀ t ∈ LI.row L kn, lv < t) (fun n _ _ => c - (intOf n).toNat)
          case atStart => exact ⟨cn, -1, by omega, rfl, rfl, HKr'.out, L', HLr'.out, HP'.out, fun t ht => by obtain ⟨j, rfl, _⟩ := HP'.out.rows kn t ht; omega⟩
          case round =>
            obtain ⟨cn2, lv, hlv, rfl, rfl, hk, L2, hL2, hP2, hlast⟩ := hrel
            have HK4 := hid hk; have HL4 := hid hL2; have HP4 := hid hP2; have HLAST := hid hlast
            clear hk hL2 hP2 hlast
            have hlenc := LI.len HL4.out kn
            cases hrow : LI.row L2 kn with
            | nil =>
              rw [hrow] at hlenc
              have HROW := hid hrow
              clear hrow
              go_wp2_with (go_at_call 9; refine hlenc.mono ?_; rintro e w5 ⟨rfl, rfl⟩)
              go_roundw
              case rel => exact ⟨kn + 1, cn2, by omega, by go_num, rfl, HK4.out, L2, HL4.out, HP4.out.next HROW.out⟩
              case measure => simp [intOf]; omega
            | cons x xs =>
              rw [hrow] at hlenc
              obtain ⟨hP5, hxs⟩ := HP4.out.pop hrow
              obtain ⟨j, hj, hjl, hjr⟩ := HP4.out.rows kn x (by rw [hrow]; exact List.mem_cons_self)
              subst hj
              have hlvj : lv < j := HLAST.out _ (by rw [hrow]; exact List.mem_cons_self)
              have hpop := LI.pop_some HL4.out (One_lt (Nat.lt_of_lt_of_le hbl HK4.out.size)) rfl kn (by have := HP4.out.total; have := LI.total_store hrow; have h0 := LI.row_total L2 kn; omega) j xs hrow
              have hae := HA.out (by omega)
              subst hae
              have hcn : cn2 < c := by have := HP4.out.total; have := LI.total_store hrow; omega
              have hne2 : ((zs[j]?.getD 0).tmod lists != kn) = false := by rw [hjr]; simp
              have HROW := hid hrow; have HP5 := hid hP5; have HXS := hid hxs; have HJR := hid hjr
              clear hrow hP5 hxs hjr
              simp only [List.length_cons] at hlenc
              unfold LI.enc at hpop
              go_wp2_with (first | (go_at_call 9; refine hlenc.mono ?_; rintro e w5 ⟨rfl, rfl⟩) | (go_at_call 10; refine hpop.mono ?_; rintro e w6 ⟨rfl, hk6, hL6⟩; have HK6 := hid hk6; have HL6 := hid hL6; clear hk6 hL6; have hcell6 := HC.out w6 b ((((Keeps.of_none HK1.out).then' (Keeps.of_none HK2.out)).then' HK4.out).then' HK6.out) HB.out j hjl))
              go_roundw
              case rel => exact ⟨cn2 + 1, j, by omega, rfl, by go_num, HK4.out.then' HK6.out, _, HL6.out, HP5.out, fun t ht => by rw [LI.row_store_same HP4.out.nodup] at ht; exact HXS.out t ht⟩
              case measure => have := HP5.out.total; simp [intOf]; omega
        · have := HP'.out.done (by omega)
          subst this
          go_wp2_with fail
          go_ret
          refine ⟨rfl, ?_⟩
          exact (((Keeps.of_none HK1.out).then' (Keeps.of_none HK2.out)).then' HKr'.out).mono (fun i hi h => by cases h; have := HB.out; omega)

end Go.Proofs.Ythdnbdbnlbebeaa
