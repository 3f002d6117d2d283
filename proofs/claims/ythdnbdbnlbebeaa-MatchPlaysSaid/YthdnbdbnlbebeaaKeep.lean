/- Contracts of match.Lists at int: Keep, Clear. -/
import Derived.Test.YthdnbdbnlbebeaaLI
namespace Go.Proofs.Ythdnbdbnlbebeaa.LI
open Go Go.RowKit Go.MapKept Go.Proofs.Ythdnbdbnlbebeaa
open Go.ChangeMaps (setBlock heap_setBlock_same heap_setBlock_other)

theorem take_filter_snoc (p : Int → Bool) (xs : List Int) (i : Nat) (h : i < xs.length) : (xs.take (i + 1)).filter p = (xs.take i).filter p ++ (if p (xs.getD i 0) then [xs.getD i 0] else []) := by
  have e : xs[i]?.getD 0 = xs[i] := by rw [List.getElem?_eq_getElem h]; rfl
  rw [List.take_succ_eq_append_getElem h, List.filter_append, List.getD_eq_getElem?_getD, e]
  congr 1
  cases hp : p xs[i] <;> simp [hp]

section
variable {w : World} {M : Nat → Prop} {p b : Nat} {most : Int} {L : List (Int × List Int)} (h : ListsAt w M p b most L)
include h
set_option maxRecDepth 100000 in
set_option maxHeartbeats 1000000 in
theorem keep (hM : ∀ i, M i → i < w.heap.size) (hMb : M b) (k : Int) (hmost : (row L k).length ≤ 65536) (c : FuncId) (cap : Array Value) (q : Int → Bool)
    (hent : ∀ args W, (callFunc c args).run Try.prog W = .ok (.enter c args) W)
    (hf : ∀ (W : World), Keeps None w W → ∀ x ∈ row L k, Calls Try.prog c (#[.int .i64 x] ++ cap) W fun e w' => e = .returned (.bool (q x)) ∧ ∃ n, w' = W.drewN n) :
    Calls Try.prog 11 #[.pointer (some ⟨p, 0, none⟩), .int .i64 k, .func (.func c) #[] cap] w fun e w' =>
      e = .returned (.int .i64 ((row L k).length - ((row L k).filter q).length)) ∧ Keeps (One b) w w' ∧ ListsAt w' M p b most (store L k ((row L k).filter q)) := by
  obtain ⟨i0, hi, hz0, hz1, hz2⟩ := info_parts infoE
  have h1 : ListsAt w M p b most L := h
  obtain ⟨hp, es, clock, m, hb, hm, hr⟩ := h1
  have hs := hr.row k
  obtain ⟨a, cp, hv⟩ := hs.lenOf
  have hset := fun (W : World) (hK : Keeps None w W) (v : Value) (xs : List Int) (hv : SliceAt W M 1 v xs.length (xs.map enc)) =>
    set (h.keeps (M' := M) hK (fun _ _ h => h.elim) (fun _ _ h => h) (fun h => h) (fun h => h)) hMb k hv
  have hl : ∀ W : World, W.heap[b]? = some (.map es clock) → (Instr.lookup 53 (.map (some b)) (.int .i64 k) false).run Try.prog W = .ok (.slice a (row L k).length cp) W := fun W hW => by
    have := run_look Try.underlying53 Try.underlying3 hW hm (zeroS W) k false
    rw [hv] at this
    simpa only [Bool.false_eq_true, if_false] using this
  obtain ⟨c0, c1⟩ := h.cells
  rw [hv] at hs
  generalize hrow : row L k = xs at *
  obtain ⟨n, hnn⟩ : ∃ n : Nat, n = xs.length := ⟨_, rfl⟩
  have hcell : ∀ W, Keeps None w W → ∀ i, i < n → ∃ bb off, a = some ⟨bb, off, none⟩ ∧ W.cell? ⟨bb, off + i, none⟩ = some (.int .i64 (xs.getD i 0)) := by
    intro W hK i hi
    obtain ⟨bb, off, ha, hrr⟩ := hs.addr (by omega)
    refine ⟨bb, off, ha, ?_⟩
    have := (hrr.keeps (M' := M) hK (fun _ _ h => h.elim) (fun _ _ h => h)).cell i (.int .i64 (xs.getD i 0)) (by simp [enc, List.getElem?_map, List.getElem?_eq_getElem (show i < xs.length by omega)])
    exact this
  rw [← hnn] at hl hmost ⊢
  have HS := hid hs; have HV := hid hv; have HSET := hid hset; have HF := hid hf; have HM := hid hM; have HROW := hid hrow; have HN := hid hnn; have HCELL := hid hcell
  have HL := hid hm; have HR := hid hr
  clear hs hv hset hf hM hrow hnn hcell hm hr h hp
  obtain ⟨ad, had⟩ : ∃ ad : Option Addr, ad = a := ⟨_, rfl⟩
  go_enter Try.func11, Try.ntmps11
  go_wp2_with fail
  go_loopw [8, 19] (fun v ix wr => ∃ i : Nat, i ≤ n ∧ ix = .int .i64 i ∧ Keeps None w wr ∧ wr.ownsRow w.heap.size 3 1 v ((xs.take i).filter q).length (((xs.take i).filter q).map enc)) (fun _ ix _ => n - (intOf ix).toNat)
  case atStart => exact ⟨0, Nat.zero_le _, rfl, Keeps.refl _ _, World.ownsRow_nil _ _ _ _⟩
  case round =>
    obtain ⟨i, hin, rfl, hk, hown⟩ := hrel
    have HK := hid hk; have HOWN := hid hown
    clear hk hown
    by_cases hlt : i < n
    · obtain ⟨bb, off, ha, hc⟩ := HCELL.out wr HK.out i hlt
      subst ha
      have hcall := HF.out wr HK.out (xs.getD i 0) (by rw [List.getD_eq_getElem?_getD, List.getElem?_eq_getElem (show i < xs.length by rw [← HN.out]; exact hlt)]; exact List.getElem_mem _)
      have hstep := take_filter_snoc q xs i (by rw [← HN.out]; exact hlt)
      have HSTEP := hid hstep; clear hstep
      have hle : ((xs.take i).filter q).length ≤ i := Nat.le_trans (List.length_filter_le _ _) (List.length_take_le _ _)
      have HLE := hid hle; clear hle
      simp only [List.getD_eq_getElem?_getD] at hcall hc
      cases hq : q (xs[i]?.getD 0) with
      | true =>
        rw [hq] at hcall
        have HQ := hid hq; clear hq
        go_wp2_with fail
        refine hcall.mono ?_
        rintro e w1 ⟨rfl, nd, rfl⟩
        go_wp2_with (at_builtin; go_must (refine wpList_append_own _ rfl _ _ 22 rfl w.heap.size 3 i0 (.int .i64 0) 1 8 Try.underlying22 hi hz0 hz1 hz2 rfl (by decide) _ _ _ rfl ((HOWN.out.kept (World.grownBy_drewN wr nd none) (by cases u8.ownBlock <;> simp)).alloc _) ⟨wr.heap.size, 0, none⟩ 1 1 [.int .i64 (xs[i]?.getD 0)] rfl rfl (cell_one_new _ _ _) (by simp [Value.oneCell']) (by have := HLE.out; unfold maxLen; omega) (by have := HLE.out; omega) (by have := HK.out.size; simp; omega) ?_); intro v' w2 hown2 hgrow _; have HOWN2 := hid hown2; have HG := hid hgrow; clear hown2 hgrow)
        go_roundw
        case rel =>
          refine ⟨i + 1, by omega, by go_num, ((HK.out.drewN nd).alloc _).grown HG.out (fun j hj => ?_), ?_⟩
          · left
            have := HOWN.out.lt j hj
            exact this.1
          · have e1 : (xs.take (i + 1)).filter q = (xs.take i).filter q ++ [xs[i]?.getD 0] := by
              have := HSTEP.out
              simp only [List.getD_eq_getElem?_getD, HQ.out, if_true] at this
              exact this
            rw [e1, List.length_append, List.map_append]
            exact HOWN2.out
        case measure => simp [intOf]; omega
      | false =>
        rw [hq] at hcall
        have HQ := hid hq; clear hq
        go_wp2_with fail
        refine hcall.mono ?_
        rintro e w1 ⟨rfl, nd, rfl⟩
        go_wp2_with fail
        go_roundw
        case rel =>
          refine ⟨i + 1, by omega, by go_num, HK.out.drewN nd, ?_⟩
          have e1 : (xs.take (i + 1)).filter q = (xs.take i).filter q := by
            have := HSTEP.out
            simp only [List.getD_eq_getElem?_getD, HQ.out, Bool.false_eq_true, if_false, List.append_nil] at this
            exact this
          rw [e1]
          exact HOWN.out.kept (World.grownBy_drewN wr nd none) (by cases u8.ownBlock <;> simp)
        case measure => simp [intOf]; omega
    · obtain rfl : i = n := by omega
      have e1 : (xs.take i).filter q = xs.filter q := by rw [HN.out, List.take_length]
      rw [e1] at HOWN
      have hv : SliceAt wr M 1 u8 (xs.filter q).length ((xs.filter q).map enc) := SliceAt.of_owns HOWN.out (fun k hk hM => by have := HM.out k hM; omega)
      obtain ⟨a8, c8, hv8⟩ := hv.lenOf
      subst hv8
      have hsetc := HSET.out wr HK.out _ (xs.filter q) hv
      have hle : (xs.filter q).length ≤ i := by rw [HN.out]; exact List.length_filter_le _ _
      clear hv
      go_wp2_with (go_at_call 29; refine hsetc.mono ?_; rintro e w2 ⟨rfl, hk2, hL2⟩; have HK2 := hid hk2; have HL2 := hid hL2; clear hk2 hL2)
      go_ret
      refine ⟨?_, (Keeps.of_none HK.out).trans HK2.out (fun _ _ h => h) (fun _ _ h => h), HL2.out⟩
      rfl
end

section
variable {w : World} {M : Nat → Prop} {p b : Nat} {most : Int} {L : List (Int × List Int)} (h : ListsAt w M p b most L)
include h
set_option maxHeartbeats 1000000 in
theorem clear' (hMb : M b) (k : Int) : Calls Try.prog 20 #[.pointer (some ⟨p, 0, none⟩), .int .i64 k] w fun e w' => e = .returned (.int .i64 (row L k).length) ∧ Keeps (One b) w w' ∧ ListsAt w' M p b most (del L k) := by
  have h1 := len h k
  have h2 := set h hMb k (v := .slice none 0 0) (xs := []) (SliceAt.nil _ _ _)
  simp only [store, List.length_nil, if_true] at h2
  go_enter Try.func20, Try.ntmps20
  go_wp2_with (first
    | (go_at_call 9; refine h1.mono ?_; rintro e w' ⟨rfl, rfl⟩)
    | (go_at_call 29; refine h2.mono ?_; rintro e w' ⟨rfl, hk, hL⟩; have HK := hid hk; have HL := hid hL; clear hk hL))
  go_ret
  exact ⟨rfl, HK.out, HL.out⟩
end

end Go.Proofs.Ythdnbdbnlbebeaa.LI
