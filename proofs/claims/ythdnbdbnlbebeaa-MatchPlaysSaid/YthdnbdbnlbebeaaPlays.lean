/- MatchPlays: what the walk comes to. -/
import Derived.Test.YthdnbdbnlbebeaaPlaysPlain
import Derived.Test.YthdnbdbnlbebeaaKnown
import Derived.Deep.RegionHeld3
namespace Go.Proofs.Ythdnbdbnlbebeaa
open Go Go.RowKit Go.MapKept

set_option maxHeartbeats 400000 in
theorem sift2 (w : World) (t by_ rest : Int) (b c : Nat) (h2 : 1 ≤ by_) (hb : w.cell? ⟨b, 0, none⟩ = some (.int .i64 by_)) (hc : w.cell? ⟨c, 4, none⟩ = some (.int .i64 rest)) :
    Calls Try.prog 17 #[.int .i64 t, .pointer (some ⟨b, 0, none⟩), .pointer (some ⟨c, 0, none⟩)] w fun e w' => e = .returned (.bool (t.tmod by_ == rest)) ∧ ∃ n, w' = w.drewN n := by
  have h0 : (by_ == 0) = false := by rw [beq_eq_false_iff_ne]; omega
  have h3 : ¬ by_ = 0 := by omega
  go_enter Try.func17, Try.ntmps17
  go_wp2_with fail
  go_quiet (fail)
  go_wp2_with fail
  go_ret
  exact ⟨rfl, _, rfl⟩

structure Act where
  op : Int
  list : Int
  t : Int
  by_ : Int
  rest : Int
def acells (l : List Act) : List Value := l.flatMap (fun a => [.int .i64 a.op, .int .i64 a.list, .int .i64 a.t, .int .i64 a.by_, .int .i64 a.rest])
theorem acells_length (l : List Act) : (acells l).length = l.length * 5 := by
  induction l with
  | nil => rfl
  | cons a l ih => simp only [acells, List.flatMap_cons, List.length_append, List.length_cons, List.length_nil] at ih ⊢; omega
theorem acells_get (l : List Act) (i : Nat) (a : Act) (h : l[i]? = some a) :
    (acells l)[i * 5]? = some (.int .i64 a.op) ∧ (acells l)[i * 5 + 1]? = some (.int .i64 a.list) ∧ (acells l)[i * 5 + 2]? = some (.int .i64 a.t) ∧ (acells l)[i * 5 + 3]? = some (.int .i64 a.by_) ∧ (acells l)[i * 5 + 4]? = some (.int .i64 a.rest) := by
  induction l generalizing i with
  | nil => simp at h
  | cons q l ih =>
    cases i with
    | zero => simp at h; subst h; simp [acells]
    | succ i =>
      simp at h
      have := ih i h
      simp only [acells, List.flatMap_cons] at this ⊢
      rw [show (i + 1) * 5 = i * 5 + 5 by omega]
      obtain ⟨h0, h1, h2, h3, h4⟩ := this
      exact ⟨by simpa using h0, by simpa using h1, by simpa using h2, by simpa using h3, by simpa using h4⟩

/-- How many tasks the reference's lists have, read off the world. -/
def lenAt (w : World) (p' : Nat) : Nat := match w.cell? ⟨p', 1, none⟩ with
  | some (.slice _ n _) => n
  | _ => 0
theorem lenAt_eq {w : World} {p' : Nat} {v' : Value} {most : Int} {Z : List (Int × Int)} (h : R.RefAt w p' v' most Z) : lenAt w p' = Z.length := by
  obtain ⟨a, c, hv⟩ := R.slice_of_own h.own
  subst hv
  unfold lenAt
  rw [h.cells.2]
theorem ent17 (args : Array Value) (W : World) : (callFunc 17 args).run Try.prog W = .ok (.enter 17 args) W := by kernel_rfl
theorem held_pair {wa w : World} {B : Nat} {x y : Value} (h1 : wa.cell? ⟨B, 1, none⟩ = some x) (h2 : wa.cell? ⟨B, 2, none⟩ = some y) (hk : Keeps None wa w) : w.cell? ⟨B, 1, none⟩ = some x ∧ w.cell? ⟨B, 2, none⟩ = some y :=
  ⟨hk.cell h1 (fun h => h), hk.cell h2 (fun h => h)⟩
theorem cell_of {w : World} {B j : Nat} {c : Array Value} {T : TypeId} {u : Value} (h : w.heap[B]? = some (.cells c T)) (hj : c[j]? = some u) : w.cell? ⟨B, j, none⟩ = some u := by
  simp only [World.cell?, h]
  exact hj

set_option maxRecDepth 100000 in
set_option maxHeartbeats 4000000 in
theorem plays_any (most : Int) (a : Option Addr) (len cap : Nat) (zs : List Act) (W : World) (hs : SliceAt W None 5 (.slice a len cap) len (acells zs)) (hz : zs.length = len) (hw : ∀ z ∈ zs, (Lit.int .i64 z.list).wf = true) :
    Calls Try.prog 5 #[.int .i64 most, .slice a len cap] W fun e w' => e = .returned (.bool true) ∧ Keeps None W w' := by
  have hkn := known_any W
  have hlen63 : len ≤ 9223372036854775807 := hs.2.1
  have HW := hid hw; have HS := hid hs; have HZ := hid hz
  clear hs hz hw
  by_cases hlen : 300 < len
  · go_enter Try.func5, Try.ntmps5
    go_wp2_with (go_at_call 6; go_must (refine hkn.mono ?_); rintro e w1 ⟨rfl, hk1⟩; have HK1 := hid hk1; clear hk1)
    go_ret
    exact ⟨rfl, HK1.out⟩
  · by_cases hmo : most < 1 ∨ 65536 < most
    · have hn1 := fun w => LI.new_no most w hmo
      have hn2 := fun w => R.new_no most w hmo
      clear hmo
      go_enter Try.func5, Try.ntmps5
      go_wp2_with (first
        | (go_at_call 6; go_must (refine hkn.mono ?_); rintro e w1 ⟨rfl, hk1⟩; have HK1 := hid hk1; clear hk1)
        | (go_at_call 7; go_must (refine (hn1 _).mono ?_); rintro e w2 ⟨rfl, rfl⟩)
        | (go_at_call 14; go_must (refine (hn2 _).mono ?_); rintro e w2 ⟨rfl, rfl⟩))
      go_ret
      exact ⟨rfl, HK1.out⟩
    · have hm1 : 1 ≤ most := by omega
      have hm2 : most ≤ 65536 := by omega
      clear hmo
      obtain ⟨sb, so, ha⟩ : ∃ sb so, 0 < len → a = some ⟨sb, so, none⟩ := by
        rcases Nat.eq_zero_or_pos len with h | h
        · exact ⟨0, 0, fun h => by omega⟩
        · obtain ⟨b', off, h1, _⟩ := HS.out.addr h; exact ⟨b', off, fun _ => h1⟩
      have HA := hid ha
      clear ha
      go_enter Try.func5, Try.ntmps5
      go_wp2_with (first
        | (go_at_call 6; go_must (refine hkn.mono ?_); rintro e w1 ⟨rfl, hk1⟩; have HK1 := hid hk1; clear hk1)
        | (go_at_call 7; go_must (refine (LI.new_any most _ hm1 hm2).mono ?_); rintro e w2 ⟨p, b, rfl, hk2, hp2, hb2, hne, hpl, hbl, hL⟩; have HK2 := hid hk2; have HL2 := hid hL; clear hk2 hL)
        | (go_at_call 14; go_must (refine (R.new_any most _ hm1 hm2).mono ?_); rintro e w3 ⟨rfl, hk3, hsz3, hR⟩; have HK3 := hid hk3; have HR3 := hid hR; clear hk3 hR))
      have HST : Hid (St W w3 p b w2.heap.size most [] [] (.slice none 0 0)) := ⟨(HL2.out (Mof b w2.heap.size (.slice none 0 0))).keeps HK3.out (fun _ _ h => h.elim) (fun _ _ h => h) (fun h => h) (fun h => h), HR3.out, (HK1.out.then' HK2.out).then' HK3.out, by have := HK1.out.size; omega⟩
      clear hp2 hb2 hpl hbl hsz3
      go_loopw [9] (fun ix wr => ∃ i : Nat, i ≤ len ∧ ix = .int .i64 i ∧ ∃ L Z v', St W wr p b w2.heap.size most L Z v' ∧ Agree L Z ∧ Z.length ≤ i) (fun ix _ => len - (intOf ix).toNat)
      case atStart => exact ⟨0, Nat.zero_le _, rfl, [], [], _, HST.out, Agree.start, Nat.le_refl _⟩
      case round =>
        obtain ⟨i, hil, rfl, L, Z, v', hst, hag, hzl⟩ := hrel
        have HSTr := hid hst; have HAG := hid hag
        clear hst hag
        by_cases hlt : i < len
        · have hae := HA.out (by omega)
          subst hae
          obtain ⟨z, hz⟩ : ∃ z, zs[i]? = some z := ⟨_, List.getElem?_eq_getElem (show i < zs.length by rw [HZ.out]; exact hlt)⟩
          have hcells := acells_get zs i z hz
          have hcl : ∀ j u, (acells zs)[j]? = some u → wr.cell? ⟨sb, so + j, none⟩ = some u := fun j u hu => by
            have h := HS.out.keeps (M' := None) HSTr.out.keeps (fun _ _ h => h) (fun _ _ h => h)
            have := h.cells j u hu
            rwa [Addr.add_lit] at this
          have d0 := hcl _ _ hcells.1
          have d1 := hcl _ _ hcells.2.1
          rw [← Nat.add_assoc] at d1
          have d2 := hcl _ _ hcells.2.2.1
          rw [← Nat.add_assoc] at d2
          have d3 := hcl _ _ hcells.2.2.2.1
          rw [← Nat.add_assoc] at d3
          have d4 := hcl _ _ hcells.2.2.2.2
          rw [← Nat.add_assoc] at d4
          have hwf := HW.out z (List.mem_of_getElem? hz)
          have HWF := hid hwf
          clear hcells hcl hz hwf
          -- the act's own copy
          have hBst : p < wr.heap.size ∧ b < wr.heap.size ∧ w2.heap.size < wr.heap.size := HSTr.out.lt
          have hBrow : ∀ j, v'.ownBlock = some j → j < wr.heap.size := fun j hj => (HSTr.out.row j hj).2
          have HBX : Hid (∀ (S : Nat → Prop) w', Keeps S (wr.alloc (.cells #[.int .i64 z.op, .int .i64 z.list, .int .i64 z.t, .int .i64 z.by_, .int .i64 z.rest] 42)) w' → ¬ S wr.heap.size → w'.heap[wr.heap.size]? = some (.cells #[.int .i64 z.op, .int .i64 z.list, .int .i64 z.t, .int .i64 z.by_, .int .i64 z.rest] 42)) :=
            fun S w' hk hS => hk.at_ (heap_alloc_new wr _) hS
          have HSTa : Hid (St W (wr.alloc (.cells #[.int .i64 z.op, .int .i64 z.list, .int .i64 z.t, .int .i64 z.by_, .int .i64 z.rest] 42)) p b w2.heap.size most L Z v') := HSTr.out.same ((Keeps.refl None wr).alloc _)
          have HBR := hid hBrow
          have HBS := hid hBst
          clear hBrow hBst
          have HNB : Hid (¬ One b wr.heap.size) := fun h => by have := HBS.out; have h : wr.heap.size = b := h; omega
          have HNI : Hid (¬ R.In w2.heap.size v' wr.heap.size) := fun h => h.elim (fun h => by have := HBS.out; omega) (fun h => by have := HBR.out _ h; omega)
          cases hop1 : z.op == 1 with
          | true =>
            have hsmall : Z.length < 300 := by omega
            go_wp2_with fail
            obtain ⟨wa, hwa⟩ : ∃ wa, wa = wr.alloc (.cells #[.int .i64 z.op, .int .i64 z.list, .int .i64 z.t, .int .i64 z.by_, .int .i64 z.rest] 42) := ⟨_, rfl⟩
            rw [← hwa] at HBX HSTa ⊢
            clear hwa d0 d1 d2 d3 d4
            have hb0 := HBX.out None wa (Keeps.refl _ _) (fun h => h)
            have e1 := cell_of (u := .int .i64 z.list) (j := 1) hb0 rfl
            have e2 := cell_of (u := .int .i64 z.t) (j := 2) hb0 rfl
            have HE1 := hid e1; have HE2 := hid e2
            clear hb0
            by_cases hf : most ≤ (LI.row L z.list).length
            · have hf2 : most ≤ (R.row Z z.list).length := by rw [← HAG.out.rows]; exact hf
              have hm8 := fun W' (hW : Keeps None wa W') => LI.push_full (HSTa.out.same hW).lists z.list z.t hf
              have hr15 := fun W' (hW : Keeps None wa W') => R.push_full (HSTa.out.same hW).ref z.list z.t hf2
              have H8 := hid hm8; have H15 := hid hr15
              clear hf hf2 hm8 hr15
              go_region_held3 (fun W => W.cell? ⟨wr.heap.size, 1, none⟩ = some (.int .i64 z.list) ∧ W.cell? ⟨wr.heap.size, 2, none⟩ = some (.int .i64 z.t)) (exact held_pair HE1.out HE2.out (by repeat (first | assumption | apply Keeps.drewN | apply Keeps.drew | exact Keeps.refl _ _)))
                (first
                  | (go_at_call 8; go_must (refine (H8.out _ (by repeat (first | assumption | apply Keeps.drewN | apply Keeps.drew | exact Keeps.refl _ _))).mono ?_); rintro e w8 ⟨rfl, q, rfl⟩)
                  | (go_at_call 15; go_must (refine (H15.out _ (by repeat (first | assumption | apply Keeps.drewN | apply Keeps.drew | exact Keeps.refl _ _))).mono ?_); rintro e w9 ⟨rfl, q2, hq2⟩; have hk9 : Keeps None wa w9 := (by rw [hq2]; repeat (first | assumption | apply Keeps.drewN | apply Keeps.drew | exact Keeps.refl _ _)); have e19 := hk9.cell HE1.out (fun h => h); have HSTn := hid (HSTa.out.same hk9); have HAGn := HAG; clear hq2))
              all_goals
                have hlk := looks HSTn.out.lists HSTn.out.ref HSTn.out.M HAGn.out z.list
                go_wp2_with (go_at_call 21; go_must (refine hlk.mono ?_); rintro e w19 ⟨rfl, hk19⟩; have HK19 := hid hk19; clear hk19)
                go_roundw
                case rel => exact ⟨i + 1, by omega, by go_num, _, _, _, HSTn.out.same HK19.out, HAGn.out, by omega⟩
                case measure => simp [intOf]; omega
            · have hf2 : ¬ most ≤ (R.row Z z.list).length := by rw [← HAG.out.rows]; exact hf
              have hm8 := fun W' (hW : Keeps None wa W') => LI.push_room (HSTa.out.same hW).lists (HSTa.out.same hW).M (.inl rfl) hm2 z.list z.t hf
              have H8 := hid hm8; have HF2 := hid hf2
              clear hf hf2 hm8
              go_region_held3 (fun W => W.cell? ⟨wr.heap.size, 1, none⟩ = some (.int .i64 z.list) ∧ W.cell? ⟨wr.heap.size, 2, none⟩ = some (.int .i64 z.t)) (first | assumption | exact held_pair HE1.out HE2.out (by repeat (first | assumption | apply Keeps.drewN | apply Keeps.drew | exact Keeps.refl _ _)))
                (first
                  | (go_at_call 8; go_must (refine (H8.out _ (by repeat (first | assumption | apply Keeps.drewN | apply Keeps.drew | exact Keeps.refl _ _))).mono ?_); rintro e w8 ⟨rfl, hk8, hL8⟩; have hs8 := (HSTa.out.same (by repeat (first | assumption | apply Keeps.drewN | apply Keeps.drew | exact Keeps.refl _ _))).lset hk8 hL8; have hk8' := (Keeps.of_none (S := One b) (by repeat (first | assumption | apply Keeps.drewN | apply Keeps.drew | exact Keeps.refl _ _))).then' hk8; have hh8 := And.intro (hk8'.cell HE1.out HNB.out) (hk8'.cell HE2.out HNB.out); have hr15 := R.push_room hs8.ref z.list z.t HF2.out (by omega); have HK8' := hid hk8'; have HS8 := hid hs8; clear hk8 hk8' hs8 hL8)
                  | (go_at_call 15; go_must (refine hr15.mono ?_); rintro e w9 ⟨rfl, hk9, v9, hR9, hv9⟩; have HSTn := hid (HS8.out.rset hk9 hR9 hv9); have HAGn := hid (HAG.out.push z.list z.t HWF.out hsmall); have hh9 := And.intro (hk9.cell hh8.1 HNI.out) (hk9.cell hh8.2 HNI.out); have e19 := hh9.1; clear hk9 hR9 hv9))
              all_goals
                have hlk := looks HSTn.out.lists HSTn.out.ref HSTn.out.M HAGn.out z.list
                go_wp2_with (go_at_call 21; go_must (refine hlk.mono ?_); rintro e w19 ⟨rfl, hk19⟩; have HK19 := hid hk19; clear hk19)
                go_roundw
                case rel => exact ⟨i + 1, by omega, by go_num, _, _, _, HSTn.out.same HK19.out, HAGn.out, by simp; omega⟩
                case measure => simp [intOf]; omega
          | false =>
            cases hop2 : z.op == 2 with
            | true =>
              have hc1 := HBX.out None _ (Keeps.refl _ _) (fun h => h)
              have e1 := cell_of (u := .int .i64 z.list) (j := 1) hc1 rfl
              have HE1 := hid e1
              clear hc1
              cases hf : R.first Z z.list with
              | none =>
                have hm : LI.row L z.list = [] := by
                  have h := (HAG.out.first z.list).2
                  rw [hf] at h
                  exact List.eq_nil_of_length_eq_zero (by simpa using h)
                have hm10 := LI.pop_none HSTa.out.lists z.list hm
                have hr16 := R.pop_none HSTa.out.ref z.list hf
                have HF := hid hf
                clear hf hm
                go_wp2_with (first
                  | (go_at_call 10; go_must (refine hm10.mono ?_); rintro e w8 ⟨rfl, rfl⟩)
                  | (go_at_call 16; go_must (refine hr16.mono ?_); rintro e w9 ⟨rfl, rfl⟩; have HSTn := HSTa; have HAGn := HAG; have hlk := looks HSTn.out.lists HSTn.out.ref HSTn.out.M HAGn.out z.list)
                  | (go_at_call 21; go_must (refine hlk.mono ?_); rintro e w19 ⟨rfl, hk19⟩; have HK19 := hid hk19; clear hk19))
                go_roundw
                case rel => exact ⟨i + 1, by omega, by go_num, _, _, _, HSTn.out.same HK19.out, HAGn.out, by omega⟩
                case measure => simp [intOf]; omega
              | some q =>
                obtain ⟨i1, tt⟩ := q
                obtain ⟨xs, hrow, hag2⟩ := HAG.out.pop hf
                have hm10 := LI.pop_some HSTa.out.lists HSTa.out.M (.inl rfl) z.list (by have := HAG.out.rowlen z.list; omega) tt xs hrow
                have hzl2 : (Z.eraseIdx i1).length ≤ Z.length := by rw [List.length_eraseIdx]; split <;> omega
                have HF := hid hf; have HAGn := hid hag2; have HZL := hid hzl2
                clear hf hrow hag2 hzl2
                unfold LI.enc at hm10
                go_wp2_with (first
                  | (go_at_call 10; go_must (refine hm10.mono ?_); rintro e w8 ⟨rfl, hk8, hL8⟩; have hs8 := HSTa.out.lset hk8 hL8; have e18 := hk8.cell HE1.out HNB.out; have hr16 := R.pop_some hs8.ref z.list HF.out; have HS8 := hid hs8; clear hk8 hL8 hs8)
                  | (go_at_call 16; go_must (refine hr16.mono ?_); rintro e w9 ⟨rfl, hk9, v9, hR9, hv9⟩; have hk9' := hk9.mono (S' := R.In w2.heap.size v') (fun i _ h => One_In i h); have HSTn := hid (HS8.out.rset hk9' hR9 (fun j hj => .inr (hv9 j hj))); have e19 := hk9'.cell e18 HNI.out; have hlk := looks HSTn.out.lists HSTn.out.ref HSTn.out.M HAGn.out z.list; clear hk9 hk9' hR9 hv9)
                  | (go_at_call 21; go_must (refine hlk.mono ?_); rintro e w19 ⟨rfl, hk19⟩; have HK19 := hid hk19; clear hk19))
                go_roundw
                case rel => exact ⟨i + 1, by omega, by go_num, _, _, _, HSTn.out.same HK19.out, HAGn.out, by have := HZL.out; omega⟩
                case measure => simp [intOf]; omega
            | false =>
              cases hop3 : z.op == 3 with
              | true =>
                by_cases hby : z.by_ < 1
                · go_wp2_with fail
                  obtain ⟨wb, hwb⟩ : ∃ wb, wb = (wr.alloc (.cells #[.int .i64 z.op, .int .i64 z.list, .int .i64 z.t, .int .i64 z.by_, .int .i64 z.rest] 42)).alloc (.cells #[.int .i64 1] 3) := ⟨_, rfl⟩
                  have hab : Keeps None (wr.alloc (.cells #[.int .i64 z.op, .int .i64 z.list, .int .i64 z.t, .int .i64 z.by_, .int .i64 z.rest] 42)) wb := by rw [hwb]; exact (Keeps.refl _ _).alloc _
                  have hb15 : wb.heap[wr.heap.size + 1]? = some (.cells #[.int .i64 1] 3) := by rw [hwb]; have := heap_alloc_new (wr.alloc (.cells #[.int .i64 z.op, .int .i64 z.list, .int .i64 z.t, .int .i64 z.by_, .int .i64 z.rest] 42)) (.cells #[.int .i64 1] 3); rwa [World.size_alloc] at this
                  rw [← hwb]
                  have HSTb := hid (HSTa.out.same hab)
                  have hb10 := HBX.out None wb hab (fun h => h)
                  have e1 := cell_of (u := .int .i64 z.list) (j := 1) hb10 rfl
                  have e4 := cell_of (u := .int .i64 z.rest) (j := 4) hb10 rfl
                  have e15 := cell_of (u := .int .i64 1) (j := 0) hb15 rfl
                  have hm11 := LI.keep HSTb.out.lists HSTb.out.M (.inl rfl) z.list (by have := HAG.out.rowlen z.list; omega) 17 #[.pointer (some ⟨wr.heap.size + 1, 0, none⟩), .pointer (some ⟨wr.heap.size, 0, none⟩)] (fun t => t.tmod (1) == z.rest) ent17 (fun W' hW x _ => sift2 W' x (1) z.rest _ _ (Int.le_refl 1) (hW.cell e15 (fun h => h)) (hW.cell e4 (fun h => h)))
                  have hg := keep_gone Z z.list (fun t => t.tmod (1) == z.rest)
                  rw [← HAG.out.rows z.list] at hg
                  have HG := hid hg
                  have HAGn := hid (HAG.out.keep z.list (fun t => t.tmod (1) == z.rest))
                  have hzl2 : (Z.filter (fun q => q.1 != z.list || q.2.tmod (1) == z.rest)).length ≤ Z.length := List.length_filter_le _ _
                  have HZL := hid hzl2
                  have HE1 := hid e1; have HE4 := hid e4; have HE15 := hid e15
                  have HNB2 : Hid (¬ One b (wr.heap.size + 1)) := fun h => by have := HBS.out; have h : wr.heap.size + 1 = b := h; omega
                  clear hwb hab hb15 hb10 e1 e4 e15 hg hzl2
                  go_wp2_with (first
                    | (go_at_call 11; go_must (refine hm11.mono ?_); rintro e w8 ⟨rfl, hk8, hL8⟩; have hs8 := HSTb.out.lset hk8 hL8; have e18 := hk8.cell HE1.out HNB.out; have e48 := hk8.cell HE4.out HNB.out; have e158 := hk8.cell HE15.out HNB2.out; have hr18 := R.keep hs8.ref z.list (1) z.rest (Int.le_refl 1); simp only [HG.out] at hr18; have HS8 := hid hs8; clear hk8 hL8 hs8)
                    | (go_at_call 18; go_must (refine hr18.mono ?_); rintro e w9 ⟨rfl, hk9, v9, hR9, hv9⟩; have hk9' := hk9.mono (S' := R.In w2.heap.size v') (fun i _ h => One_In i h); have HSTn := hid (HS8.out.rset hk9' hR9 (fun j hj => .inr (hv9 j hj))); have e19 := hk9'.cell e18 HNI.out; have hlk := looks HSTn.out.lists HSTn.out.ref HSTn.out.M HAGn.out z.list; clear hk9 hk9' hR9 hv9)
                    | (go_at_call 21; go_must (refine hlk.mono ?_); rintro e w19 ⟨rfl, hk19⟩; have HK19 := hid hk19; clear hk19))
                  go_roundw
                  case rel => exact ⟨i + 1, by omega, by go_num, _, _, _, HSTn.out.same HK19.out, HAGn.out, by have := HZL.out; omega⟩
                  case measure => simp [intOf]; omega
                · go_wp2_with fail
                  obtain ⟨wb, hwb⟩ : ∃ wb, wb = (wr.alloc (.cells #[.int .i64 z.op, .int .i64 z.list, .int .i64 z.t, .int .i64 z.by_, .int .i64 z.rest] 42)).alloc (.cells #[.int .i64 z.by_] 3) := ⟨_, rfl⟩
                  have hab : Keeps None (wr.alloc (.cells #[.int .i64 z.op, .int .i64 z.list, .int .i64 z.t, .int .i64 z.by_, .int .i64 z.rest] 42)) wb := by rw [hwb]; exact (Keeps.refl _ _).alloc _
                  have hb15 : wb.heap[wr.heap.size + 1]? = some (.cells #[.int .i64 z.by_] 3) := by rw [hwb]; have := heap_alloc_new (wr.alloc (.cells #[.int .i64 z.op, .int .i64 z.list, .int .i64 z.t, .int .i64 z.by_, .int .i64 z.rest] 42)) (.cells #[.int .i64 z.by_] 3); rwa [World.size_alloc] at this
                  rw [← hwb]
                  have HSTb := hid (HSTa.out.same hab)
                  have hb10 := HBX.out None wb hab (fun h => h)
                  have e1 := cell_of (u := .int .i64 z.list) (j := 1) hb10 rfl
                  have e4 := cell_of (u := .int .i64 z.rest) (j := 4) hb10 rfl
                  have e15 := cell_of (u := .int .i64 z.by_) (j := 0) hb15 rfl
                  have hm11 := LI.keep HSTb.out.lists HSTb.out.M (.inl rfl) z.list (by have := HAG.out.rowlen z.list; omega) 17 #[.pointer (some ⟨wr.heap.size + 1, 0, none⟩), .pointer (some ⟨wr.heap.size, 0, none⟩)] (fun t => t.tmod (z.by_) == z.rest) ent17 (fun W' hW x _ => sift2 W' x (z.by_) z.rest _ _ (show 1 ≤ z.by_ by omega) (hW.cell e15 (fun h => h)) (hW.cell e4 (fun h => h)))
                  have hg := keep_gone Z z.list (fun t => t.tmod (z.by_) == z.rest)
                  rw [← HAG.out.rows z.list] at hg
                  have HG := hid hg
                  have HAGn := hid (HAG.out.keep z.list (fun t => t.tmod (z.by_) == z.rest))
                  have hzl2 : (Z.filter (fun q => q.1 != z.list || q.2.tmod (z.by_) == z.rest)).length ≤ Z.length := List.length_filter_le _ _
                  have HZL := hid hzl2
                  have HE1 := hid e1; have HE4 := hid e4; have HE15 := hid e15
                  have HNB2 : Hid (¬ One b (wr.heap.size + 1)) := fun h => by have := HBS.out; have h : wr.heap.size + 1 = b := h; omega
                  clear hwb hab hb15 hb10 e1 e4 e15 hg hzl2
                  go_wp2_with (first
                    | (go_at_call 11; go_must (refine hm11.mono ?_); rintro e w8 ⟨rfl, hk8, hL8⟩; have hs8 := HSTb.out.lset hk8 hL8; have e18 := hk8.cell HE1.out HNB.out; have e48 := hk8.cell HE4.out HNB.out; have e158 := hk8.cell HE15.out HNB2.out; have hr18 := R.keep hs8.ref z.list (z.by_) z.rest (show 1 ≤ z.by_ by omega); simp only [HG.out] at hr18; have HS8 := hid hs8; clear hk8 hL8 hs8)
                    | (go_at_call 18; go_must (refine hr18.mono ?_); rintro e w9 ⟨rfl, hk9, v9, hR9, hv9⟩; have hk9' := hk9.mono (S' := R.In w2.heap.size v') (fun i _ h => One_In i h); have HSTn := hid (HS8.out.rset hk9' hR9 (fun j hj => .inr (hv9 j hj))); have e19 := hk9'.cell e18 HNI.out; have hlk := looks HSTn.out.lists HSTn.out.ref HSTn.out.M HAGn.out z.list; clear hk9 hk9' hR9 hv9)
                    | (go_at_call 21; go_must (refine hlk.mono ?_); rintro e w19 ⟨rfl, hk19⟩; have HK19 := hid hk19; clear hk19))
                  go_roundw
                  case rel => exact ⟨i + 1, by omega, by go_num, _, _, _, HSTn.out.same HK19.out, HAGn.out, by have := HZL.out; omega⟩
                  case measure => simp [intOf]; omega
              | false =>
                cases hop4 : z.op == 4 with
                | true =>
                  have hc1 := HBX.out None _ (Keeps.refl _ _) (fun h => h)
                  have e1 := cell_of (u := .int .i64 z.list) (j := 1) hc1 rfl
                  have HE1 := hid e1
                  clear hc1
                  have hr19 := R.len HSTa.out.ref z.list
                  have hm20 := LI.clear' HSTa.out.lists (.inl rfl) z.list
                  rw [HAG.out.rows z.list] at hm20
                  go_wp2_with (first
                    | (go_at_call 19; go_must (refine hr19.mono ?_); clear hr19; rintro e w8 ⟨rfl, rfl⟩)
                    | (go_at_call 20; go_must (refine hm20.mono ?_); clear hm20; rintro e w8 ⟨rfl, hk8, hL8⟩; have hs8 := HSTa.out.lset hk8 hL8; have e18 := hk8.cell HE1.out HNB.out; have HS8 := hid hs8; have HE18 := hid e18; clear hk8 hL8 hs8 e18))
                  obtain ⟨wo, hwo⟩ : ∃ wo : World, wo = wr := ⟨_, rfl⟩
                  subst hwo
                  go_loopw [131] (fun _ wx => ∃ Zc vc, St W wx p b w2.heap.size most (del L z.list) Zc vc ∧ (∀ j, j ≠ z.list → R.row Zc j = R.row Z j) ∧ (∀ q ∈ Zc, q ∈ Z) ∧ Zc.length ≤ Z.length ∧ wx.cell? ⟨wo.heap.size, 1, none⟩ = some (.int .i64 z.list) ∧ (∀ j, vc.ownBlock = some j → j ≠ wo.heap.size)) (fun _ wx => lenAt wx w2.heap.size)
                  case atStart => exact ⟨Z, v', HS8.out, fun _ _ => rfl, fun _ h => h, Nat.le_refl _, HE18.out, fun j hj => by have := HBR.out j hj; omega⟩
                  case round =>
                    obtain ⟨Zc, vc, hst, hoth, hsub, hzc, e1x, hvc⟩ := hrel
                    have HSTc := hid hst; have HOTH := hid hoth; have HSUB := hid hsub; have HVC := hid hvc
                    clear hst hoth hsub hvc
                    have hr19 := R.len HSTc.out.ref z.list
                    cases hf : R.first Zc z.list with
                    | none =>
                      have hrow : R.row Zc z.list = [] := by
                        have h := first_head Zc z.list
                        rw [hf] at h
                        exact List.head?_eq_none_iff.1 h.symm
                      have hag2 : Agree (del L z.list) Zc := HAG.out.store z.list [] hrow HOTH.out HSUB.out hzc
                      rw [hrow] at hr19
                      have HAGn := hid hag2
                      have hlk := looks HSTc.out.lists HSTc.out.ref HSTc.out.M HAGn.out z.list
                      clear hf hrow hag2
                      go_wp2_with (first
                        | (go_at_call 19; go_must (refine hr19.mono ?_); rintro e w9 ⟨rfl, rfl⟩)
                        | (go_at_call 21; go_must (refine hlk.mono ?_); rintro e w19 ⟨rfl, hk19⟩; have HK19 := hid hk19; clear hk19))
                      go_roundw
                      case rel => exact ⟨i + 1, by omega, by go_num, _, _, _, HSTc.out.same HK19.out, HAGn.out, by omega⟩
                      case measure => simp [intOf]; omega
                    | some q =>
                      obtain ⟨i1, tt⟩ := q
                      obtain ⟨⟨xs, hx1, hx2⟩, hx3, hx4⟩ := row_erase hf
                      rw [hx1] at hr19
                      have hr16 := R.pop_some HSTc.out.ref z.list hf
                      have HX3 := hid hx3
                      have hl1 := lenAt_eq HSTc.out.ref
                      have HL1 := hid hl1
                      have hNr : Hid (¬ One w2.heap.size wo.heap.size) := fun h => by have := HBS.out; have h : wo.heap.size = w2.heap.size := h; omega
                      have hpos : (0 : Int) < ((tt :: xs).length : Int) := by simp only [List.length_cons]; omega
                      clear hf hx1 hx2 hx3 hl1
                      go_wp2_with (first
                        | (go_at_call 19; go_must (refine hr19.mono ?_); rintro e w9 ⟨rfl, rfl⟩)
                        | (go_at_call 16; go_must (refine hr16.mono ?_); rintro e w9 ⟨rfl, hk9, v9, hR9, hv9⟩; have hk9' := hk9.mono (S' := R.In w2.heap.size vc) (fun i _ h => One_In i h); have HST9 := hid (HSTc.out.rset hk9' hR9 (fun j hj => .inr (hv9 j hj))); have HE19 := hid (hk9.cell e1x hNr.out); have HV9 := hid hv9; clear hk9 hk9' hR9 hv9))
                      go_roundw
                      case rel => exact ⟨_, _, HST9.out, fun j hj => by rw [HX3.out j hj]; exact HOTH.out j hj, fun q hq => HSUB.out q (List.mem_of_mem_eraseIdx hq), by rw [List.length_eraseIdx]; split <;> omega, HE19.out, fun j hj => by have h1 := HV9.out j hj; have h2 := World.block_lt_of_cell? wr _ e1x; simp at h2; omega⟩
                      case measure => rw [lenAt_eq HST9.out.ref, HL1.out, List.length_eraseIdx, if_pos hx4]; omega
                | false =>
                  have hc1 := HBX.out None _ (Keeps.refl _ _) (fun h => h)
                  have e1 := cell_of (u := .int .i64 z.list) (j := 1) hc1 rfl
                  clear hc1
                  have hlk := looks HSTa.out.lists HSTa.out.ref HSTa.out.M HAG.out z.list
                  go_wp2_with (go_at_call 21; go_must (refine hlk.mono ?_); rintro e w19 ⟨rfl, hk19⟩; have HK19 := hid hk19; clear hk19)
                  go_roundw
                  case rel => exact ⟨i + 1, by omega, by go_num, _, _, _, HSTa.out.same HK19.out, HAG.out, by omega⟩
                  case measure => simp [intOf]; omega
        · obtain rfl : i = len := by omega
          go_wp2_with fail
          go_ret
          exact ⟨rfl, HSTr.out.keeps⟩
end Go.Proofs.Ythdnbdbnlbebeaa
