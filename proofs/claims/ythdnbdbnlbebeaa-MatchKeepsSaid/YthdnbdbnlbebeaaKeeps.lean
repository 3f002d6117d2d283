/- MatchKeeps: what the walk comes to. -/
import Derived.Test.YthdnbdbnlbebeaaKeepsPlain
import Derived.Test.YthdnbdbnlbebeaaNames
namespace Go.Proofs.Ythdnbdbnlbebeaa
open Go Go.RowKit Go.MapKept

set_option maxHeartbeats 400000 in
theorem sift_any (w : World) (t by_ : Int) (b : Nat) (h0 : 0 ≤ t) (h1 : t ≤ 300) (h2 : 1 ≤ by_) (h3 : by_ ≤ 10) (hc : w.cell? ⟨b, 0, none⟩ = some (.int .i64 by_)) :
    Calls Try.prog 12 #[.int .i64 t, .pointer (some ⟨b, 0, none⟩)] w fun e w' => e = .returned (.bool (t % by_ != 0)) ∧ ∃ n, w' = w.drewN n := by
  go_enter Try.func12, Try.ntmps12
  go_wp2
  go_ret
  exact ⟨rfl, 0, rfl⟩

theorem ent12 (args : Array Value) (W : World) : (callFunc 12 args).run Try.prog W = .ok (.enter 12 args) W := by kernel_rfl

set_option maxRecDepth 100000 in
set_option maxHeartbeats 2000000 in
theorem keeps_any (a : Option Addr) (len cap : Nat) (lists by_ : Int) (W : World) (hcap : len ≤ 9223372036854775807) :
    Calls Try.prog 4 #[.slice a len cap, .int .i64 lists, .int .i64 by_] W fun e w' => e = .returned (.bool true) ∧ Keeps None W w' := by
  have hkn := fun w => known_any w
  have HKN := hid hkn
  clear hkn
  have hby0 : (W.alloc (.cells #[.int .i64 by_] 3)).cell? ⟨W.heap.size, 0, none⟩ = some (.int .i64 by_) := by simp
  have HBY : Hid (∀ (S : Nat → Prop) (w : World), Keeps S (W.alloc (.cells #[.int .i64 by_] 3)) w → ¬ S W.heap.size → w.cell? ⟨W.heap.size, 0, none⟩ = some (.int .i64 by_)) := fun S w hk hs => hk.cell hby0 hs
  clear hby0
  by_cases hg : len ≤ 300 ∧ 1 ≤ lists ∧ lists ≤ 10 ∧ 1 ≤ by_ ∧ by_ ≤ 10
  · obtain ⟨h1, h2, h3, h4, h5⟩ := hg
    go_enter Try.func4, Try.ntmps4
    go_wp2_with (first
      | (go_at_call 6; refine (HKN.out _).mono ?_; rintro e w1 ⟨rfl, hk1⟩; have HK1 := hid hk1; have hby := HBY.out _ _ hk1 (fun h => h); clear hk1)
      | fail)
    refine (LI.new_any 300 w1 (by omega) (by omega)).mono ?_
    rintro e w2 ⟨p, b, rfl, hk2, hp2, hb2, hne, hpl, hbl, hL⟩
    have HL2 := hid (hL (One b)); have HK2 := hid hk2
    clear hL hk2 hby
    have HB : Hid (W.heap.size < b) := by have := HK1.out.size; simp at this; show W.heap.size < b; omega
    have HW2 : Hid (Keeps (One b) (W.alloc (.cells #[.int .i64 by_] 3)) w2) := (Keeps.of_none HK1.out).then' (Keeps.of_none HK2.out)
    go_wp2_with fail
    go_loopw [9] (fun i wr => ∃ c : Nat, c ≤ len ∧ i = .int .i64 c ∧ Keeps (One b) w2 wr ∧ ∃ L, LI.ListsAt wr (One b) p b 300 L ∧ LI.Put2 lists L c) (fun i _ => len - (intOf i).toNat)
    case atStart => exact ⟨0, Nat.zero_le _, rfl, Keeps.refl _ _, [], HL2.out, LI.Put2.start lists⟩
    case round =>
      obtain ⟨c, hc, rfl, hk, L, hL, hP⟩ := hrel
      have HKr := hid hk; have HLr := hid hL; have HP := hid hP
      clear hk hL hP
      by_cases hlt : c < len
      · go_wp2_with fail
        refine (LI.push_room HLr.out (One_lt (Nat.lt_of_lt_of_le hbl HKr.out.size)) rfl (by omega) ((c : Int) % lists) (c : Int) (by have := LI.row_total L ((c : Int) % lists); have := HP.out.total; omega)).mono ?_
        rintro e w3 ⟨rfl, hk3, hL3⟩
        have HK3 := hid hk3; have HL3 := hid hL3
        clear hk3 hL3
        go_wp2_with fail
        go_roundw
        case rel => exact ⟨c + 1, by omega, by go_num, HKr.out.then' HK3.out, _, HL3.out, HP.out.step⟩
        case measure => simp [intOf]; omega
      · obtain rfl : c = len := by omega
        go_wp2_with fail
        obtain ⟨wo, hwo⟩ : ∃ wo : World, wo = wr := ⟨_, rfl⟩
        subst hwo
        go_loopw [10, 11] (fun g k wx => ∃ (kn : Int) (gn : Nat), 0 ≤ kn ∧ gn ≤ c ∧ k = .int .i64 kn ∧ g = .int .i64 gn ∧ Keeps (One b) w2 wx ∧ ∃ L, LI.ListsAt wx (One b) p b 300 L ∧ LI.Sift lists by_ c L kn gn) (fun _ k _ => (lists - intOf k).toNat)
        case atStart => exact ⟨0, 0, by omega, Nat.zero_le _, rfl, rfl, HKr.out, L, HLr.out, HP.out.sift h2⟩
        case round =>
          obtain ⟨kn, gn, hkn, hgn, rfl, rfl, hk, L', hL', hS'⟩ := hrel
          have HK4 := hid hk; have HL4 := hid hL'; have HS4 := hid hS'
          clear hk hL' hS'
          have hby := HBY.out (One b) wr (HW2.out.then' HK4.out) (by have := HB.out; intro h; cases h; omega)
          by_cases hlt2 : kn < lists
          · have hkeep := LI.keep HL4.out (One_lt (Nat.lt_of_lt_of_le hbl HK4.out.size)) rfl kn (by have := LI.row_total L' kn; have := HS4.out.total; omega) 12 #[.pointer (some ⟨W.heap.size, 0, none⟩)] (fun t => t % by_ != 0) ent12
              (fun W' hW' x hx => by
                obtain ⟨i, rfl, hi, _⟩ := HS4.out.rows kn x hx
                have h := sift_any W' i by_ W.heap.size (by omega) (by omega) h4 h5 (hW'.cell hby (fun h => h))
                simpa using h)
            have hle := List.length_filter_le (fun t : Int => t % by_ != 0) (LI.row L' kn)
            have hS5 := HS4.out.step
            have htot := hS5.total
            have HS5 := hid hS5
            clear hS5
            generalize hn1 : (LI.row L' kn).length = n1 at *
            generalize hn2 : ((LI.row L' kn).filter (fun t : Int => t % by_ != 0)).length = n2 at *
            have HN1 := hid hn1; have HN2 := hid hn2
            clear hn1 hn2
            have hgl : gn + (n1 - n2) ≤ c := by omega
            clear htot
            go_wp2_with (go_at_call 11; refine hkeep.mono ?_; rintro e w5 ⟨rfl, hk5, hL5⟩; have HK5 := hid hk5; have HL5 := hid hL5; clear hk5 hL5)
            go_roundw
            case rel => exact ⟨kn + 1, gn + (n1 - n2), by omega, hgl, by go_num, by refine congrArg _ ?_; omega, HK4.out.then' HK5.out, _, HL5.out, HS5.out⟩
            case measure => simp [intOf]; omega
          · obtain ⟨hlp, hrp⟩ := HL4.out.pos
            have htot := HS4.out.total
            have hnames := LI.names HL4.out (One_lt (Nat.lt_of_lt_of_le hbl HK4.out.size)) (fun k hk => by
              obtain ⟨t, ht⟩ := List.exists_mem_of_ne_nil _ (hrp k hk)
              obtain ⟨i, _, _, h, _⟩ := HS4.out.rows k t ht
              have h6 := Int.emod_lt_of_pos (i : Int) (show 0 < lists by omega)
              have h7 := Int.emod_nonneg (i : Int) (show lists ≠ 0 by omega)
              simp [Lit.wf, show IntKind.i64.min = -9223372036854775808 from by decide]
              omega) (by omega) HS4.out.nodup
            have HRP := hid hrp
            clear hrp htot
            go_wp2_with (go_at_call 13; refine hnames.mono ?_; rintro e w5 ⟨v, ks, rfl, hk5, hperm, hri, hsl⟩; have HK5 := hid hk5; have HPERM := hid hperm; have HRI := hid hri; have HSL := hid hsl; clear hk5 hperm hri hsl)
            obtain ⟨va, vc, hv⟩ := HSL.out.lenOf
            subst hv
            obtain ⟨m, hm⟩ : ∃ m : Nat, m = ks.length := ⟨_, rfl⟩
            rw [← hm] at HSL
            have hmc : m ≤ c := by have h1 := HPERM.out.length_eq; simp only [keys, List.length_map] at h1; have := HS4.out.total; omega
            have HMM := hid hm
            clear hm
            rw [← HMM.out]
            have HEnd0 := hid (HS4.out.ends h2 (by omega) HPERM.out)
            have HNK := hid (show ks.Nodup from HRI.out.imp (fun h => by omega))
            obtain ⟨bb, off, hva⟩ : ∃ bb off, 0 < m → va = some ⟨bb, off, none⟩ := by
              rcases Nat.eq_zero_or_pos m with h | h
              · exact ⟨0, 0, fun h => by omega⟩
              · obtain ⟨b', off, h1, _⟩ := HSL.out.addr h; exact ⟨b', off, fun _ => h1⟩
            have HVA := hid hva
            clear hva
            have HCELL : Hid (∀ (w : World), Keeps (One b) w5 w → ∀ j, j < m → w.cell? ⟨bb, off + j, none⟩ = some (.int .i64 (ks[j]?.getD 0))) := by
              intro w hk j hj
              have h := HSL.out.keeps (M' := One b) hk (fun _ _ h => h) (fun _ _ h => h)
              rw [HVA.out (by omega)] at h
              obtain ⟨b', off', h1, hr⟩ := h.addr (by omega)
              simp only [Option.some.injEq, Addr.mk.injEq, and_true] at h1
              obtain ⟨rfl, rfl⟩ := h1
              exact hr.cell j _ (by simp [List.getElem?_map, List.getElem?_eq_getElem (show j < ks.length by rw [← HMM.out]; exact hj)])
            have HK25 : Hid (Keeps (One b) w2 w5) := HK4.out.then' (Keeps.of_none HK5.out)
            have HL5 : Hid (LI.ListsAt w5 (One b) p b 300 L') := HL4.out.keeps (M' := One b) HK5.out (fun _ _ h => h.elim) (fun _ _ h => h) (fun h => h) (fun h => h)
            obtain ⟨wo2, hwo2⟩ : ∃ wo2 : World, wo2 = wr := ⟨_, rfl⟩
            subst hwo2
            go_loopw [13, 14] (fun lf ix wx => ∃ (l i : Nat), i ≤ m ∧ l ≤ c ∧ lf = .int .i64 l ∧ ix = .int .i64 i ∧ Keeps (One b) w5 wx ∧ ∃ L2, LI.ListsAt wx (One b) p b 300 L2 ∧ LI.Ends lists by_ c gn L' ks L2 i l) (fun _ ix _ => m - (intOf ix).toNat)
            case atStart => exact ⟨0, 0, Nat.zero_le _, Nat.zero_le _, rfl, rfl, Keeps.refl _ _, L', HL5.out, HEnd0.out⟩
            case round =>
              obtain ⟨l, i, him, hlc, rfl, rfl, hk, L2, hL2, hE⟩ := hrel
              have HK6 := hid hk; have HL6 := hid hL2; have HE := hid hE
              clear hk hL2 hE hby
              by_cases hlt3 : i < m
              · have hcs := HCELL.out wr HK6.out
                have hva := HVA.out (by omega)
                subst hva
                obtain ⟨k, hk⟩ : ∃ k, ks[i]? = some k := ⟨_, List.getElem?_eq_getElem (show i < ks.length by rw [← HMM.out]; exact hlt3)⟩
                have hci := hcs i hlt3
                rw [hk, Option.getD_some] at hci
                have hrow : LI.row L2 k ≠ [] := by
                  rw [HE.out.stays i k (Nat.le_refl _) hk]
                  exact HRP.out k (HPERM.out.mem_iff.1 (List.mem_of_getElem? hk))
                have hpos : 0 < (LI.row L2 k).length := List.length_pos_iff.2 hrow
                have hlen := fun q => (LI.len (w := wr.drewN q) HL6.out k).mono fun _ _ h => And.intro h.1 h.2.symm
                have hne0 : (((LI.row L2 k).length : Int) == 0) = false := by rw [beq_eq_false_iff_ne]; omega
                by_cases h0 : 0 < i
                have hd : decide ((0 : Int) < (i : Int)) = true := by simp; omega
                obtain ⟨k1, hk1⟩ : ∃ k1, ks[i - 1]? = some k1 := ⟨_, List.getElem?_eq_getElem (show i - 1 < ks.length by rw [← HMM.out]; omega)⟩
                have hci1 := hcs (i - 1) (by omega)
                rw [hk1, Option.getD_some] at hci1
                have hlt4 : k1 < k := by
                  have h := List.pairwise_iff_getElem.1 HRI.out (i - 1) i (by rw [← HMM.out]; omega) (by rw [← HMM.out]; omega) (by omega)
                  rw [List.getElem?_eq_getElem (show i - 1 < ks.length by rw [← HMM.out]; omega)] at hk1
                  rw [List.getElem?_eq_getElem (show i < ks.length by rw [← HMM.out]; exact hlt3)] at hk
                  simp only [Option.some.injEq] at hk1 hk
                  rwa [hk1, hk] at h
                have hw : IntKind.i64.wrap ((i : Int) - 1) = (i : Int) - 1 := IntWalk.i64_in _ (by omega)
                have ht : ((i : Int) - 1).toNat = i - 1 := by omega
                have hd2 : decide (k ≤ k1) = false := by simp; omega
                have hi0 : (0 : Int) ≤ (i : Int) - 1 := by omega
                have hi1 : (i : Int) - 1 < (m : Int) := by omega
                have HH := hid hk; have HCS := hid hcs; have HROW := hid hrow; have HH1 := hid hk1
                clear hk hcs hrow hk1
                rotate_left
                have hd : decide ((0 : Int) < (i : Int)) = false := by simp; omega
                have HH := hid hk; have HCS := hid hcs; have HROW := hid hrow
                clear hk hcs hrow
                rotate_left
                go_wp2_with fail
                all_goals go_quiet ((go_at_call 9; exact Calls.quiet_of_same (hlen _)))
                all_goals (clear hd; (try clear hw ht hd2))
                go_wp2_with fail
                all_goals
                  clear hlen hne0 hpos
                  have HK7 : Hid (Keeps (One b) w5 (wr.drewN nq)) := HK6.out.drewN nq
                  have HL7 : Hid (LI.ListsAt (wr.drewN nq) (One b) p b 300 L2) := HL6.out.keeps (M' := One b) ((Keeps.refl None wr).drewN nq) (fun _ _ h => h.elim) (fun _ _ h => h) (fun h => h) (fun h => h)
                  have HM7 := hid (HE.out.mid HH.out)
                  obtain ⟨wo3, hwo3⟩ : ∃ wo3 : World, wo3 = wr.drewN nq := ⟨_, rfl⟩
                  rw [← hwo3] at HK7 HL7 ⊢
                  clear hwo3 hci
                  go_loopw [13, 15] (fun lf lv wx => ∃ (l2 : Nat) (z : Int), -1 ≤ z ∧ lf = .int .i64 l2 ∧ lv = .int .i64 z ∧ Keeps (One b) w5 wx ∧ ∃ L3, LI.ListsAt wx (One b) p b 300 L3 ∧ LI.Mid lists by_ c gn L' ks L3 i k l2 ∧ ∀ t ∈ LI.row L3 k, z < t) (fun lf _ _ => c - (intOf lf).toNat)
                  case atStart => exact ⟨l, -1, by omega, rfl, rfl, HK7.out, L2, HL7.out, HM7.out, fun t ht => by obtain ⟨n, rfl, _⟩ := HE.out.rows k t ht; omega⟩
                  case round =>
                    obtain ⟨l2, z, hz, rfl, rfl, hk8, L3, hL8, hM8, hlast⟩ := hrel
                    have HK8 := hid hk8; have HL8 := hid hL8; have HM8 := hid hM8; have HLAST := hid hlast
                    clear hk8 hL8 hM8 hlast
                    have hci := HCELL.out wr HK8.out i hlt3
                    rw [HH.out, Option.getD_some] at hci
                    have hlenc := LI.len HL8.out k
                    have hby := HBY.out (One b) wr ((HW2.out.then' HK25.out).then' HK8.out) (by have := HB.out; intro h; cases h; omega)
                    cases hrow3 : LI.row L3 k with
                    | nil =>
                      rw [hrow3] at hlenc
                      have HR3 := hid hrow3
                      clear hrow3
                      have hl2 : l2 ≤ c := HM8.out.left_le.1
                      go_wp2_with (go_at_call 9; refine hlenc.mono ?_; rintro e w9 ⟨rfl, rfl⟩)
                      go_roundw
                      case rel => exact ⟨l2, i + 1, by omega, hl2, rfl, by go_num, HK8.out, L3, HL8.out, HM8.out.next HR3.out⟩
                      case measure => simp [intOf]; omega
                    | cons x xs =>
                      rw [hrow3] at hlenc
                      obtain ⟨hM9, hxs, n, hxn, hnc, hnl, hnb⟩ := HM8.out.pop HNK.out HH.out hrow3
                      subst hxn
                      have hzn : z < n := HLAST.out _ (by rw [hrow3]; exact List.mem_cons_self)
                      have hpop := LI.pop_some HL8.out (One_lt (Nat.lt_of_lt_of_le (Nat.lt_of_lt_of_le hbl HK25.out.size) HK8.out.size)) rfl k (by have := HM8.out.total; have := LI.total_store hrow3; have h0 := LI.row_total L3 k; omega) n xs hrow3
                      have hl2 : l2 < c := by have := HM8.out.total; have := LI.total_store hrow3; omega
                      have hd1 : decide ((n : Int) ≤ z) = false := by simp; omega
                      have hd2 : (((n : Int) % by_) == 0) = false := by rw [beq_eq_false_iff_ne]; exact hnb
                      have hd3 : (((n : Int) % lists) != k) = false := by rw [hnl]; simp
                      have HR3 := hid hrow3; have HM9 := hid hM9; have HXS := hid hxs
                      clear hrow3 hM9 hxs hnl hnb
                      simp only [List.length_cons] at hlenc
                      unfold LI.enc at hpop
                      go_wp2_with (first
                        | (go_at_call 9; refine hlenc.mono ?_; rintro e w9 ⟨rfl, rfl⟩)
                        | (go_at_call 10; go_must (refine hpop.mono ?_; rintro e w9 ⟨rfl, hk9, hL9⟩; have HK9 := hid hk9; have HL9 := hid hL9; have hci9 := HCELL.out w9 (HK8.out.then' hk9) i hlt3; rw [HH.out, Option.getD_some] at hci9; have hby9 := hk9.cell hby (Nat.ne_of_lt HB.out); clear hk9 hL9))
                        | fail)
                      have ht1 : (n : Int).tmod by_ = (n : Int) % by_ := Int.tmod_eq_emod_of_nonneg (by omega)
                      have ht2 : (n : Int).tmod lists = (n : Int) % lists := Int.tmod_eq_emod_of_nonneg (by omega)
                      go_quiet (fail)
                      clear ht1 ht2
                      go_wp2_with fail
                      go_roundw
                      case rel => exact ⟨l2 + 1, n, by omega, by go_num, rfl, (HK8.out.then' HK9.out).drewN _, _, HL9.out, HM9.out, fun t ht => by rw [LI.row_store_same HM8.out.nodup] at ht; exact HXS.out t ht⟩
                      case measure => simp [intOf]; omega
              · obtain rfl : i = m := by omega
                obtain ⟨hsum, hempty⟩ := HE.out.done (by rw [HMM.out]; exact Nat.le_refl _)
                obtain ⟨hlp2, hrp2⟩ := HL6.out.pos
                have hnil := LI.nil_of_rows hrp2 hempty
                subst hnil
                have hnames := LI.names HL6.out (One_lt (Nat.lt_of_lt_of_le (Nat.lt_of_lt_of_le hbl HK25.out.size) HK6.out.size)) (fun k hk => by simp [keys] at hk) (by simp) (by simp [keys])
                have hsum2 : (((gn : Int) + (l : Int)) == (c : Int)) = true := by rw [beq_iff_eq]; omega
                clear hsum
                have HSUM := hid hempty
                clear hempty hrp2 hlp2
                go_wp2_with (go_at_call 13; refine hnames.mono ?_; rintro e w9 ⟨v, ks9, rfl, hk9, hperm9, hri9, hsl9⟩; obtain rfl : ks9 = [] := List.perm_nil.1 (by simpa [keys] using hperm9); obtain ⟨v9, c9, hv9⟩ := hsl9.lenOf; subst hv9; have HK9 := hid hk9; clear hk9 hperm9 hri9 hsl9)
                go_ret
                refine ⟨by simp, ?_⟩
                have h6 : Keeps (One b) W w9 := (((((Keeps.refl (One b) W).alloc _).then' HW2.out).then' HK25.out).then' HK6.out).then' (Keeps.of_none HK9.out)
                exact h6.mono (fun k hk h => by cases h; have := HB.out; omega)
  · by_cases hl : 300 < len
    · clear hg
      go_enter Try.func4, Try.ntmps4
      go_wp2_with (go_at_call 6; refine (HKN.out _).mono ?_; rintro e w1 ⟨rfl, hk1⟩; have HK1 := hid hk1; have hby := HBY.out _ _ hk1 (fun h => h); clear hk1)
      go_ret
      exact ⟨rfl, ((Keeps.refl None W).alloc _).then' HK1.out⟩
    · by_cases hl2 : lists < 1
      · clear hg
        go_enter Try.func4, Try.ntmps4
        go_wp2_with (go_at_call 6; refine (HKN.out _).mono ?_; rintro e w1 ⟨rfl, hk1⟩; have HK1 := hid hk1; have hby := HBY.out _ _ hk1 (fun h => h); clear hk1)
        go_ret
        exact ⟨rfl, ((Keeps.refl None W).alloc _).then' HK1.out⟩
      · by_cases hl3 : 10 < lists
        · clear hg
          go_enter Try.func4, Try.ntmps4
          go_wp2_with (go_at_call 6; refine (HKN.out _).mono ?_; rintro e w1 ⟨rfl, hk1⟩; have HK1 := hid hk1; have hby := HBY.out _ _ hk1 (fun h => h); clear hk1)
          go_ret
          exact ⟨rfl, ((Keeps.refl None W).alloc _).then' HK1.out⟩
        · by_cases hl4 : by_ < 1
          · clear hg
            go_enter Try.func4, Try.ntmps4
            go_wp2_with (go_at_call 6; refine (HKN.out _).mono ?_; rintro e w1 ⟨rfl, hk1⟩; have HK1 := hid hk1; have hby := HBY.out _ _ hk1 (fun h => h); clear hk1)
            go_ret
            exact ⟨rfl, ((Keeps.refl None W).alloc _).then' HK1.out⟩
          · have hl5 : 10 < by_ := by omega
            clear hg
            go_enter Try.func4, Try.ntmps4
            go_wp2_with (go_at_call 6; refine (HKN.out _).mono ?_; rintro e w1 ⟨rfl, hk1⟩; have HK1 := hid hk1; have hby := HBY.out _ _ hk1 (fun h => h); clear hk1)
            go_ret
            exact ⟨rfl, ((Keeps.refl None W).alloc _).then' HK1.out⟩

end Go.Proofs.Ythdnbdbnlbebeaa
