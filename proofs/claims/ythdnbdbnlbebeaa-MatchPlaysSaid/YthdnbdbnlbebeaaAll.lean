/- match.Lists.All at int: the function; the iterator that it makes. -/
import Derived.Test.YthdnbdbnlbebeaaNames
import Derived.Deep.RegionWith
import Derived.Deep.DeepMust
namespace Go.Proofs.Ythdnbdbnlbebeaa.LI
open Go Go.RowKit Go.MapKept Go.Proofs.Ythdnbdbnlbebeaa
open Go.ChangeMaps (setBlock heap_setBlock_same heap_setBlock_other)

/-- A map of rows that holds the rows of these lists. -/
def Was (w : World) (M : Nat → Prop) (bw : Nat) (L : List (Int × List Int)) (ks : List Int) : Prop :=
  ∃ es clock m, w.heap[bw]? = some (.map es clock) ∧ IsMap es clock m ∧ ∀ k ∈ ks, ∃ v, look m k = some v ∧ SliceAt w M 1 v (row L k).length ((row L k).map enc)

theorem Was.keeps {w w' : World} {M M' S : Nat → Prop} {bw : Nat} {L : List (Int × List Int)} {ks : List Int} (h : Was w M bw L ks) (hk : Keeps S w w') (hb : ¬ S bw)
    (hS : ∀ k, k < w.heap.size → S k → M k) (hM : ∀ k, k < w.heap.size → M' k → M k) : Was w' M' bw L ks := by
  obtain ⟨es, clock, m, h1, h2, h3⟩ := h
  exact ⟨es, clock, m, hk.at_ h1 hb, h2, fun k hk' => by obtain ⟨v, h4, h5⟩ := h3 k hk'; exact ⟨v, h4, h5.keeps hk hS hM⟩⟩

theorem Was.step {w w5 : World} {M : Nat → Prop} {bw : Nat} {L : List (Int × List Int)} {ks : List Int} {k : Int} {v5 : Value} {es es6 : Array MapEntry} {clock clock6 : Nat} {m : List (Int × Value)}
    (hk : Keeps None w w5) (hb : w.heap[bw]? = some (.map es clock)) (hm : IsMap es6 clock6 (put m k v5))
    (hw : ∀ k' ∈ ks, ∃ v, look m k' = some v ∧ SliceAt w (fun i => M i ∨ i = bw) 1 v (row L k').length ((row L k').map enc)) (hs : SliceAt w5 (fun i => M i ∨ i = bw) 1 v5 (row L k).length ((row L k).map enc)) :
    Was (setBlock w5 bw (.map es6 clock6)) (fun i => M i ∨ i = bw) bw L (ks ++ [k]) := by
  have hS : Keeps (One bw) w5 (setBlock w5 bw (.map es6 clock6)) := (Keeps.refl (One bw) w5).setBlock (r := bw) (.inr rfl) _
  refine ⟨es6, clock6, _, heap_setBlock_same (hk.at_ hb (fun h => h)) _, hm, fun k' hk' => ?_⟩
  by_cases e : k' = k
  · subst e
    exact ⟨v5, look_put_same _ _ _, hs.keeps hS (fun _ _ h => .inr h) (fun _ _ h => h)⟩
  · have hk'' : k' ∈ ks := by
      rcases List.mem_append.1 hk' with h | h
      · exact h
      · simp at h; exact absurd h e
    obtain ⟨v, h1, h2⟩ := hw k' hk''
    exact ⟨v, by rw [look_put_other _ _ e]; exact h1, (h2.keeps hk (fun _ _ h => h.elim) (fun _ _ h => h)).keeps hS (fun _ _ h => .inr h) (fun _ _ h => h)⟩

set_option maxRecDepth 100000 in
set_option maxHeartbeats 2000000 in
theorem all_ {w : World} {M : Nat → Prop} {p b : Nat} {most : Int} {L : List (Int × List Int)} (h : ListsAt w M p b most L) (hM : ∀ i, M i → i < w.heap.size)
    (hw : ∀ k ∈ keys L, (Lit.int .i64 k).wf = true) (hs : L.length ≤ 65536) (hn : (keys L).Nodup) (hrows : ∀ k, (row L k).length ≤ 65536) :
    Calls Try.prog 38 #[.pointer (some ⟨p, 0, none⟩)] w fun e w' => ∃ (B4 B3 bw : Nat) (v : Value) (ks : List Int),
      e = .returned (.func (.func 45) #[] #[.pointer (some ⟨B4, 0, none⟩), .pointer (some ⟨B3, 0, none⟩)]) ∧ Keeps None w w' ∧ w.heap.size ≤ B4 ∧ w.heap.size ≤ B3 ∧ w.heap.size ≤ bw ∧
      w'.cell? ⟨B4, 0, none⟩ = some v ∧ w'.cell? ⟨B3, 0, none⟩ = some (.map (some bw)) ∧ ks.Perm (keys L) ∧ ks.Pairwise (· < ·) ∧ SliceAt w' M 1 v ks.length (ks.map (.int .i64)) ∧ Was w' M bw L ks := by
  have hmm := @run_makeMap Try.prog
  have hK0 : Keeps None w ((w.alloc (.map #[] 0)).alloc (.cells #[.map (some w.heap.size)] 53)) := ((Keeps.refl _ _).alloc _).alloc _
  have hnames := names (h.keeps (M' := fun k => M k ∨ k = w.heap.size) hK0 (fun _ _ h => h.elim) (fun k hk h => h.elim id (fun h => by omega)) (fun h => h) (fun h => h)) (fun i hi => hi.elim (fun hi => by have := hM i hi; simp; omega) (fun hi => by simp; omega)) hw hs hn
  have H := hid h; have HM := hid hM; have HR := hid hrows
  clear h hM hw hs hn hK0 hrows
  go_enter Try.func38, Try.ntmps38
  go_wp2_with (go_at_call 13; go_must (refine hnames.mono ?_); rintro e w1 ⟨v1, ks, rfl, hk1, hperm, hrise, hsl⟩; obtain ⟨a4, c4, hv4⟩ := hsl.lenOf; subst hv4; obtain ⟨m, hm⟩ : ∃ m : Nat, m = ks.length := ⟨_, rfl⟩; rw [← hm] at hsl ⊢; have HMM := hid hm; clear hm; have HK1 := hid hk1; have HP := hid hperm; have HRI := hid hrise; have HSL := hid hsl; clear hk1 hperm hrise hsl)
  obtain ⟨bb, off, hva⟩ : ∃ bb off, 0 < m → a4 = some ⟨bb, off, none⟩ := by
    rcases Nat.eq_zero_or_pos m with h | h
    · exact ⟨0, 0, fun h => by omega⟩
    · obtain ⟨b', off, h1, _⟩ := HSL.out.addr h; exact ⟨b', off, fun _ => h1⟩
  have HVA := hid hva
  clear hva
  have hmax : m ≤ 9223372036854775807 := HSL.out.2.1
  -- the world in which the loop begins
  have HB : Hid ((w1.alloc (.cells #[.slice a4 m c4] 22)).heap[w.heap.size]? = some (.map #[] 0)) :=
    (((Keeps.refl None w1).alloc _).at_ (HK1.out.at_ (Below.heap_alloc _ _ _ (by simp) |>.trans (heap_alloc_new w _)) (fun h => h)) (fun h => h))
  have HK : Hid (Keeps None w (w1.alloc (.cells #[.slice a4 m c4] 22))) := ((((Keeps.refl _ _).alloc _).alloc _).then' HK1.out).alloc _
  have HC3 : Hid ((w1.alloc (.cells #[.slice a4 m c4] 22)).cell? ⟨w.heap.size + 1, 0, none⟩ = some (.map (some w.heap.size))) :=
    ((Keeps.refl None w1).alloc _).cell (HK1.out.cell (by have := heap_alloc_new (w.alloc (.map #[] 0)) (.cells #[.map (some w.heap.size)] 53); rw [World.size_alloc] at this; simp only [World.cell?, this]; rfl) (fun h => h)) (fun h => h)
  have HC4 : Hid ((w1.alloc (.cells #[.slice a4 m c4] 22)).cell? ⟨w1.heap.size, 0, none⟩ = some (.slice a4 m c4)) := by have := heap_alloc_new w1 (.cells #[.slice a4 m c4] 22); show World.cell? _ _ = _; simp only [World.cell?, this]; rfl
  have HSL3 : Hid (SliceAt (w1.alloc (.cells #[.slice a4 m c4] 22)) (fun k => M k ∨ k = w.heap.size) 1 (.slice a4 m c4) m (ks.map (.int .i64))) := HSL.out.keeps ((Keeps.refl None w1).alloc _) (fun _ _ h => h.elim) (fun _ _ h => h)
  have hsz1 : w.heap.size + 2 ≤ w1.heap.size := by have := HK1.out.size; simpa using this
  obtain ⟨wn, hwn⟩ : ∃ wn, wn = w1.alloc (.cells #[.slice a4 m c4] 22) := ⟨_, rfl⟩
  rw [← hwn] at HB HK HC3 HC4 HSL3 ⊢
  have hszn : wn.heap.size = w1.heap.size + 1 := by rw [hwn]; simp
  clear hwn hnames HSL HK1
  go_loopw [12] (fun ix wr => ∃ j : Nat, j ≤ m ∧ ix = .int .i64 j ∧ Keeps (One w.heap.size) wn wr ∧ Was wr (fun k => M k ∨ k = w.heap.size) w.heap.size L (ks.take j)) (fun ix _ => m - (intOf ix).toNat)
  case atStart => exact ⟨0, Nat.zero_le _, rfl, Keeps.refl _ _, #[], 0, [], HB.out, ⟨rfl, stamped_empty 0⟩, fun k hk => by simp at hk⟩
  case round =>
    obtain ⟨j, hjm, rfl, hk, hwas⟩ := hrel
    have HKr := hid hk; have HW := hid hwas
    clear hk hwas
    by_cases hlt : j < m
    · have hva := HVA.out (by omega)
      subst hva
      obtain ⟨k, hk⟩ : ∃ k, ks[j]? = some k := ⟨_, List.getElem?_eq_getElem (show j < ks.length by rw [← HMM.out]; exact hlt)⟩
      have htk : ks.take (j + 1) = ks.take j ++ [k] := by
        have hi := (List.getElem?_eq_some_iff.1 hk).1
        have e : ks[j] = k := by rw [List.getElem?_eq_getElem hi] at hk; simpa using hk
        rw [List.take_succ_eq_append_getElem hi, e]
      have HTK := hid htk
      have hcj : wr.cell? ⟨bb, off + j, none⟩ = some (.int .i64 k) := by
        have h := HSL3.out.keeps (M' := fun k => M k ∨ k = w.heap.size) HKr.out (fun _ _ h => .inr h) (fun _ _ h => h)
        rw [show (some ⟨bb, off, none⟩ : Option Addr) = some ⟨bb, off, none⟩ from rfl] at h
        obtain ⟨b', off', h1, hr⟩ := h.addr (by omega)
        simp only [Option.some.injEq, Addr.mk.injEq, and_true] at h1
        obtain ⟨rfl, rfl⟩ := h1
        exact hr.cell j _ (by simp [List.getElem?_map, hk])
      have hlt1 := lt_of_block H.out.1
      have hlt2 : b < w.heap.size := by obtain ⟨_, es, clock, m, hb, _⟩ := H.out; exact lt_of_block hb
      have hKw : Keeps (One w.heap.size) w wr := (HK.out.of_none).then' HKr.out
      have HKw := hid hKw
      have hL : ListsAt wr (fun k => M k ∨ k = w.heap.size) p b most L := H.out.keeps hKw (fun k hk h => absurd (show k = w.heap.size from h) (by omega)) (fun k hk h => h.elim id (fun h => by omega)) (fun h => by have h : p = w.heap.size := h; omega) (fun h => by have h : b = w.heap.size := h; omega)
      have hM2 : ∀ i, (M i ∨ i = w.heap.size) → i < wr.drew.heap.size := fun i hi => by
        have := HKr.out.size
        show i < wr.heap.size
        rcases hi with hi | hi
        · have := HM.out i hi; omega
        · omega
      obtain ⟨c0, c1⟩ := hL.cells
      obtain ⟨hp, es, clock, m0, hb, hm, hr⟩ := hL
      have hs := hr.row k
      obtain ⟨a0, cp0, hv⟩ := hs.lenOf
      have hl : ∀ W : World, W.heap[b]? = some (.map es clock) → (Instr.lookup 53 (.map (some b)) (.int .i64 k) false).run Try.prog W = .ok (.slice a0 (row L k).length cp0) W := fun W hW => by
        have := run_look Try.underlying53 Try.underlying3 hW hm (zeroS W) k false
        rw [hv] at this
        simpa only [Bool.false_eq_true, if_false] using this
      rw [hv] at hs
      have hl1 := hl wr.drew hb
      clear hl
      have hclone := clone_any (w := wr.drew) (hs.keeps (M' := fun k => M k ∨ k = w.heap.size) ((Keeps.refl None wr).drew) (fun _ _ h => h.elim) (fun _ _ h => h)) (by have := HR.out k; omega) hM2
      have c3 : wr.cell? ⟨w.heap.size + 1, 0, none⟩ = some (.map (some w.heap.size)) := HKr.out.cell HC3.out (by intro h; have h : w.heap.size + 1 = w.heap.size := h; omega)
      obtain ⟨es2, clock2, m2, hb2, hm2, hwas2⟩ := HW.out
      have HH := hid hk; have HM2 := hid hm2; have HB2 := hid hb2; have HWAS := hid hwas2; have HMM2 := hid hM2
      clear hk hp hm hr hv hs hlt1 hlt2 hKw c0 hm2 hb2 hwas2 hM2 htk
      go_wp2_with fail
      go_region_with (first
        | (go_at_call 32; go_must (refine hclone.mono ?_); rintro e w5 ⟨v5, rfl, hk5, hs5⟩; have HK5 := hid hk5; have HS5 := hid hs5; have c35 := hk5.cell c3 (fun h => h); obtain ⟨es6, clock6, hr6, hm6⟩ := run_put Try.underlying53 Try.underlying3 (hk5.at_ HB2.out (fun h => h)) HM2.out k v5; have HM6 := hid hm6; clear hk5 hs5 hm6))
      all_goals
        go_wp2
        go_roundw
        case rel => exact ⟨j + 1, by omega, by go_num, ((HKr.out.drew).then' (Keeps.of_none HK5.out)).setBlock (r := w.heap.size) (.inr rfl) _, by rw [HTK.out]; exact Was.step (w := wr.drew) HK5.out HB2.out HM6.out (fun k' hk' => by obtain ⟨v, h1, h2⟩ := HWAS.out k' hk'; exact ⟨v, h1, h2.keeps ((Keeps.refl None wr).drew) (fun _ _ h => h.elim) (fun _ _ h => h)⟩) HS5.out⟩
        case measure => simp [intOf]; omega
    · obtain rfl : j = m := by omega
      have e1 : ks.take j = ks := by rw [HMM.out, List.take_length]
      rw [e1] at HW
      go_wp2_with fail
      go_ret
      refine ⟨w1.heap.size, w.heap.size + 1, w.heap.size, _, ks, rfl, ?_, by omega, by omega, Nat.le_refl _, HKr.out.cell HC4.out (by intro h; have h : w1.heap.size = w.heap.size := h; omega), HKr.out.cell HC3.out (by intro h; have h : w.heap.size + 1 = w.heap.size := h; omega), HP.out, HRI.out, ?_, HW.out.keeps (Keeps.refl None _) (fun h => h) (fun _ _ h => h.elim) (fun _ _ h => .inl h)⟩
      · exact HK.out.trans HKr.out (fun _ _ h => h) (fun k hk h => by have h : k = w.heap.size := h; omega)
      · rw [← HMM.out]; exact HSL3.out.keeps HKr.out (fun _ _ h => .inr h) (fun _ _ h => .inl h)
end Go.Proofs.Ythdnbdbnlbebeaa.LI
