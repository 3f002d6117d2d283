/- looks: the two tell the same. -/
import Derived.Test.YthdnbdbnlbebeaaAllSeq
import Derived.Test.YthdnbdbnlbebeaaRefAll
namespace Go.Proofs.Ythdnbdbnlbebeaa
open Go Go.RowKit Go.MapKept Go.Shelf
attribute [local go_sem] Oper.semAt_some

/-- The two hold the same tasks. -/
structure Agree (L : List (Int × List Int)) (Z : List (Int × Int)) : Prop where
  rows : ∀ k, LI.row L k = R.row Z k
  nodup : (keys L).Nodup
  pos : ∀ k ∈ keys L, LI.row L k ≠ []
  wf : ∀ q ∈ Z, (Lit.int .i64 q.1).wf = true
  small : Z.length ≤ 300

theorem mem_row_ne {Z : List (Int × Int)} {k : Int} : R.row Z k ≠ [] ↔ k ∈ Z.map (·.1) := by
  unfold R.row
  rw [Ne, List.map_eq_nil_iff, List.filter_eq_nil_iff]
  constructor
  · intro h
    simp only [Classical.not_forall] at h
    obtain ⟨q, hq, hk⟩ := h
    simp at hk
    exact List.mem_map.2 ⟨q, hq, hk⟩
  · intro h hn
    obtain ⟨q, hq, rfl⟩ := List.mem_map.1 h
    exact hn q hq (by simp)
theorem Agree.mem {L : List (Int × List Int)} {Z : List (Int × Int)} (h : Agree L Z) (k : Int) : k ∈ keys L ↔ k ∈ Z.map (·.1) := by
  rw [← mem_row_ne, ← h.rows]
  constructor
  · exact h.pos k
  · intro hne
    refine Classical.byContradiction fun hk => hne ?_
    simp only [LI.row, look_none hk, Option.getD_none]
theorem Agree.wfk {L : List (Int × List Int)} {Z : List (Int × Int)} (h : Agree L Z) : ∀ k ∈ keys L, (Lit.int .i64 k).wf = true := by
  intro k hk
  obtain ⟨q, hq, rfl⟩ := List.mem_map.1 ((h.mem k).1 hk)
  exact h.wf q hq
theorem Agree.len {L : List (Int × List Int)} {Z : List (Int × Int)} (h : Agree L Z) : L.length ≤ 300 := by
  have := R.nodup_le h.nodup (fun x hx => (h.mem x).1 hx)
  simp only [keys, List.length_map] at this
  have := h.small
  omega
theorem Agree.rowlen {L : List (Int × List Int)} {Z : List (Int × Int)} (h : Agree L Z) (k : Int) : (LI.row L k).length ≤ 300 := by
  rw [h.rows]
  have := R.row_length_le Z k
  have := h.small
  omega
theorem rising_ext : ∀ {a b : List Int}, a.Pairwise (· < ·) → b.Pairwise (· < ·) → (∀ x, x ∈ a ↔ x ∈ b) → a = b
  | [], [], _, _, _ => rfl
  | [], y :: b, _, _, h => by have := (h y).2 List.mem_cons_self; simp at this
  | x :: a, [], _, _, h => by have := (h x).1 List.mem_cons_self; simp at this
  | x :: a, y :: b, ha, hb, h => by
    rw [List.pairwise_cons] at ha hb
    have hxy : x = y := by
      have h1 := (h x).1 List.mem_cons_self
      have h2 := (h y).2 List.mem_cons_self
      rcases List.mem_cons.1 h1 with e | e
      · exact e
      · rcases List.mem_cons.1 h2 with e' | e'
        · exact e'.symm
        · have := hb.1 x e; have := ha.1 y e'; omega
    subst hxy
    rw [rising_ext ha.2 hb.2 (fun z => ?_)]
    have hz := h z
    simp only [List.mem_cons] at hz
    constructor
    · intro hz'
      rcases hz.1 (.inr hz') with e | e
      · subst e; have := ha.1 z hz'; omega
      · exact e
    · intro hz'
      rcases hz.2 (.inr hz') with e | e
      · subst e; have := hb.1 z hz'; omega
      · exact e
theorem Agree.names {L : List (Int × List Int)} {Z : List (Int × Int)} (h : Agree L Z) {ks ks' : List Int} (h1 : ks.Perm (keys L)) (h2 : ks.Pairwise (· < ·)) (h3 : R.Rising ks' (Z.map (·.1))) : ks' = ks :=
  rising_ext h3.rise h2 (fun x => by rw [h3.mem, h1.mem_iff, h.mem])
theorem Agree.flat {L : List (Int × List Int)} {Z : List (Int × Int)} (h : Agree L Z) (ks : List Int) : R.all ks Z = LI.flat ks L := by
  unfold R.all LI.flat
  rw [List.flatMap_def, List.flatMap_def]
  congr 1
  refine List.map_congr_left fun k _ => ?_
  rw [h.rows k]
  unfold R.row
  rw [List.map_map]
  conv => lhs; rw [← List.map_id (Z.filter _)]
  refine List.map_congr_left fun q hq => ?_
  have := (List.mem_filter.1 hq).2
  simp at this
  simp [← this]
theorem first_head (Z : List (Int × Int)) (k : Int) : (R.first Z k).map (·.2) = (R.row Z k).head? := by
  induction Z with
  | nil => rfl
  | cons q Z ih =>
    by_cases hk : q.1 = k
    · have : R.first (q :: Z) k = some (0, q.2) := R.first_some (i := 0) (q := q) rfl (by simp [hk]) (fun j h => absurd h (by omega))
      rw [this]
      simp [R.row, hk]
    · have e : R.row (q :: Z) k = R.row Z k := by simp [R.row, hk]
      rw [e, ← ih]
      unfold R.first
      rw [List.findIdx?_cons, if_neg (by simp [hk])]
      cases h : Z.findIdx? (fun p => p.1 == k) with
      | none => simp
      | some i => simp; cases Z[i]? <;> rfl
theorem Agree.first {L : List (Int × List Int)} {Z : List (Int × Int)} (h : Agree L Z) (k : Int) : ((LI.row L k).map LI.enc).headD (.int .i64 0) = .int .i64 ((R.first Z k).elim 0 (·.2)) ∧ decide (0 < (LI.row L k).length) = (R.first Z k).isSome := by
  rw [h.rows k]
  have h1 := first_head Z k
  cases hf : R.first Z k with
  | none =>
    rw [hf] at h1
    have : R.row Z k = [] := List.head?_eq_none_iff.1 h1.symm
    rw [this]
    exact ⟨rfl, rfl⟩
  | some q =>
    rw [hf] at h1
    cases hr : R.row Z k with
    | nil => rw [hr] at h1; cases h1
    | cons x xs =>
      rw [hr] at h1
      simp only [Option.map_some, List.head?_cons, Option.some.injEq] at h1
      refine ⟨?_, by simp⟩
      simp [LI.enc, h1]

section
variable {w : World} {M : Nat → Prop} {p b p' : Nat} {most : Int} {L : List (Int × List Int)} {v' : Value} {Z : List (Int × Int)}
set_option maxRecDepth 100000 in
set_option maxHeartbeats 4000000 in
theorem looks (h : LI.ListsAt w M p b most L) (hr : R.RefAt w p' v' most Z) (hM : ∀ i, M i → i < w.heap.size) (ha : Agree L Z) (k : Int) :
    Calls Try.prog 21 #[.pointer (some ⟨p, 0, none⟩), .pointer (some ⟨p', 0, none⟩), .int .i64 k] w fun e w' => e = .returned (.bool true) ∧ Keeps None w w' := by
  have HL : Hid (∀ (M' : Nat → Prop) W, (∀ i, i < w.heap.size → M' i → M i) → Keeps None w W → LI.ListsAt W M' p b most L) := fun M' W hM' hW => h.keeps hW (fun _ _ h => h.elim) hM' (fun h => h) (fun h => h)
  have HR : Hid (∀ W, Keeps None w W → R.RefAt W p' v' most Z) := fun W hW => hr.keeps hW (fun h => h) (fun _ _ h => h)
  obtain ⟨hf1, hf2⟩ := ha.first k
  have HA := hid ha; have HM := hid hM
  have hK0 : Keeps None w (w.alloc (.cells #[.bool false] 4)) := (Keeps.refl _ _).alloc _
  have hpk := LI.peek (HL.out M _ (fun _ _ h => h) hK0) k
  rw [hf1, hf2] at hpk
  have hpr := R.peek (HR.out _ hK0) k
  have hnm := LI.names (HL.out M _ (fun _ _ h => h) hK0) (fun i hi => by have := hM i hi; simp; omega) ha.wfk (by have := ha.len; omega) ha.nodup
  clear h hr hM ha hf1 hf2
  refine (callsIn_wide (n := 9)).1 ?_
  refine callsIn_of_wp_marks Try.func21 rfl trivial ?_ rfl
  refine wpIn_wide.2 ?_
  simp only [Try.ntmps21, List.size_toArray, List.length_cons, List.length_nil, Nat.reduceAdd, Nat.reduceSub, Array.replicate_succ, Array.replicate_zero, List.push_toArray, List.append_toArray, List.nil_append, List.cons_append]
  go_wp2_with (first
    | (go_at_call 31; go_must (refine hpk.mono ?_); rintro e w1 ⟨rfl, rfl⟩)
    | (go_at_call 35; go_must (refine hpr.mono ?_); rintro e w1 ⟨rfl, rfl⟩)
    | (go_at_call 13; go_must (refine hnm.mono ?_); rintro e w1 ⟨v1, ks, rfl, hk1, hperm, hrise, hsl⟩; obtain ⟨a4, c4, hv4⟩ := hsl.lenOf; subst hv4; obtain ⟨m, hm⟩ : ∃ m : Nat, m = ks.length := ⟨_, rfl⟩; rw [← hm] at hsl ⊢; have HMM := hid hm; clear hm; have hnr := R.names (HR.out w1 (hK0.then' hk1)); have HK1 := hid hk1; have HP := hid hperm; have HRI := hid hrise; have HSL := hid hsl; clear hk1 hperm hrise hsl)
    | (go_at_call 36; go_must (refine hnr.mono ?_); rintro e w2 ⟨v2, ks2, rfl, hk2, hrow2, hrise2⟩; obtain rfl := HA.out.names HP.out HRI.out hrise2; obtain ⟨a2, g2, cap2, hv2, hc2, hm2, ha2, hcell2⟩ := hrow2.at_; subst hv2; rw [← HMM.out] at hc2 ⊢; have HK2 := hid hk2; have HA2 := hid ha2; have HC2 := hid hcell2; clear hk2 hrow2 hrise2 ha2 hcell2))
  have hK2 : Keeps None w w2 := (hK0.then' HK1.out).then' HK2.out
  have hlm := fun q => (LI.len (HL.out M (w2.drewN q) (fun _ _ h => h) (hK2.drewN q)) k).mono fun _ _ h => And.intro h.1 h.2.symm
  have hlr := fun q => (R.len (HR.out (w2.drewN q) (hK2.drewN q)) k).mono fun _ _ h => And.intro h.1 h.2.symm
  have hfu := fun q => LI.full (HL.out M (w2.drewN q) (fun _ _ h => h) (hK2.drewN q)) k
  obtain ⟨r, hr⟩ : ∃ r : Nat, r = (R.row Z k).length := ⟨_, rfl⟩
  rw [HA.out.rows k, ← hr] at hlm hfu
  rw [← hr] at hlr
  have c0 := (HR.out w2 hK2).cells.1
  have HK := hid hK2
  clear hr hpk hpr hnm hnr hK2 hK0
  go_quiet (first
    | (go_at_call 9; exact Calls.quiet_of_same (hlm _))
    | (go_at_call 19; exact Calls.quiet_of_same (hlr _))
    | (go_at_call 28; exact Calls.quiet_of (hfu _)))
  clear hlm hlr hfu
  go_wp2
  obtain ⟨w3, hw3⟩ : ∃ w3, w3 = w2.drewN nq := ⟨_, rfl⟩
  rw [← hw3]
  have HK3 : Hid (Keeps None w w3) := by rw [hw3]; exact HK.out.drewN _
  have HK23 : Hid (Keeps None w2 w3) := by rw [hw3]; exact (Keeps.refl _ _).drewN _
  obtain ⟨bb, off, hva⟩ : ∃ bb off, 0 < m → a4 = some ⟨bb, off, none⟩ := by
    rcases Nat.eq_zero_or_pos m with h | h
    · exact ⟨0, 0, fun h => by omega⟩
    · obtain ⟨b', off, h1, _⟩ := HSL.out.addr h; exact ⟨b', off, fun _ => h1⟩
  have HVA := hid hva
  have hmax : m ≤ 300 := by have h1 := HP.out.length_eq; have h2 := HA.out.len; rw [← HMM.out] at h1; simp only [keys, List.length_map] at h1; omega
  clear hva hw3 c0
  go_loopw [13] (fun ix wr => ∃ i nq : Nat, i ≤ m ∧ ix = .int .i64 i ∧ wr = w3.drewN nq) (fun ix _ => m - (intOf ix).toNat)
  case atStart => exact ⟨0, 0, Nat.zero_le _, rfl, rfl⟩
  case round =>
    obtain ⟨i, nq2, him, rfl, rfl⟩ := hrel
    by_cases hlt : i < m
    · have hva := HVA.out (by omega)
      subst hva
      obtain ⟨x, hx⟩ : ∃ x, ks2[i]? = some x := ⟨_, List.getElem?_eq_getElem (show i < ks2.length by rw [← HMM.out]; exact hlt)⟩
      have hci : w3.cell? ⟨bb, off + i, none⟩ = some (.int .i64 x) := by
        have h := HSL.out.keeps (M' := M) (HK2.out.then' HK23.out) (fun _ _ h => h.elim) (fun _ _ h => h)
        obtain ⟨b', off', h1, hr⟩ := h.addr (by omega)
        simp only [Option.some.injEq, Addr.mk.injEq, and_true] at h1
        obtain ⟨rfl, rfl⟩ := h1
        exact hr.cell i _ (by simp [List.getElem?_map, hx])
      have hc2 := HK23.out.cell (HC2.out i x hx) (fun h => h)
      have ha2 : a2 = some ⟨g2, 0, none⟩ := by
        rcases HA2.out with ⟨_, hnil, _⟩ | h
        · rw [hnil] at hx; simp at hx
        · exact h
      subst ha2
      clear hx
      go_wp2_with fail
      go_quiet (fail)
      go_wp2
      go_roundw
      case rel => exact ⟨i + 1, _, by omega, by go_num, rfl⟩
      case measure => simp [intOf]; omega
    · obtain rfl : i = m := by omega
      obtain ⟨w4, hw4⟩ : ∃ w4, w4 = w3.drewN nq2 := ⟨_, rfl⟩
      rw [← hw4]
      have HK4 : Hid (Keeps None w w4) := by rw [hw4]; exact HK3.out.drewN _
      have HK14 : Hid (Keeps None (w.alloc (.cells #[.bool false] 4)) w4) := by rw [hw4]; exact (((HK1.out.then' HK2.out).then' HK23.out).drewN _)
      clear hw4
      have hall := R.all_ (HR.out w4 HK4.out)
      go_wp2_with (first
        | (go_at_call 37; go_must (refine hall.mono ?_); rintro e w5 ⟨v5, ks5, rfl, hk5, hrow5, hrise5⟩; obtain rfl := HA.out.names HP.out HRI.out hrise5; rw [HA.out.flat] at hrow5; have HK5 := hid (HK4.out.then' hk5); have HK15 := hid (HK14.out.then' hk5); have HROW5 := hid hrow5; obtain ⟨a5, g5, cap5, hv5, hc5, hm5, ha5, hcell5⟩ := hrow5.at_; obtain ⟨nl, hnl⟩ : ∃ nl : Nat, nl = (LI.flat ks5 L).length := ⟨_, rfl⟩; rw [← hnl] at hv5 hc5 ha5; subst hv5; have HC5 := hid hcell5; have HA5 := hid ha5; have HNL := hid hnl; clear hk5 hrow5 hrise5 ha5 hcell5 hnl))
      have hKx : Keeps None w ((w5.alloc (.cells #[.slice a5 nl cap5] 62)).alloc (.cells #[.int .i64 0] 3)) := (HK5.out.alloc _).alloc _
      have hsz5 := HK5.out.size
      have halm := LI.all_ (HL.out (fun i => M i ∨ i = w5.heap.size + 1) _ (fun i hi h => h.elim id (fun h => by omega)) hKx) (fun i hi => hi.elim (fun hi => by have := HM.out i hi; simp; omega) (fun hi => by simp; omega)) HA.out.wfk (by have := HA.out.len; omega) HA.out.nodup (fun k => by have := HA.out.rowlen k; omega)
      have HKx := hid hKx
      clear hKx
      go_wp2_with (go_at_call 38; go_must (refine halm.mono ?_); rintro e w6 ⟨B4, B3, bw, v6, ks6, rfl, hk6, hB4, hB3, hbw, hc4, hc3, hperm6, hrise6, hsl6, hwas6⟩; obtain rfl := rising_ext hrise6 HRI.out (fun x => by rw [hperm6.mem_iff, HP.out.mem_iff]); have HK6 := hid hk6; have HC4 := hid hc4; have HC3 := hid hc3; have HSL6 := hid hsl6; have HWAS6 := hid hwas6; clear hk6 hc4 hc3 hperm6 hrise6 hsl6 hwas6)
      simp only [World.size_alloc] at hB4 hB3 hbw
      have hc15 : w6.cell? ⟨w5.heap.size + 1, 0, none⟩ = some (.int .i64 0) := HK6.out.cell (by have := heap_alloc_new (w5.alloc (.cells #[.slice a5 nl cap5] 62)) (.cells #[.int .i64 0] 3); rw [World.size_alloc] at this; simp only [World.cell?, this]; rfl) (fun h => h)
      have hf15 : w6.frozen? ⟨w5.heap.size + 1, 0, none⟩ = false := by
        have h := HK6.out.at_ (by have := heap_alloc_new (w5.alloc (.cells #[.slice a5 nl cap5] 62)) (.cells #[.int .i64 0] 3); rw [World.size_alloc] at this; exact this) (fun h => h)
        simp [World.frozen?, h]
      have hstops := LI.all1_stops (Fence.wide) 8 trivial rfl (by omega) (fun i => i = w5.heap.size + 1 ∨ w6.heap.size ≤ i) B4 B3 bw v6 ks6 L w6 HC4.out HC3.out (by have := World.block_lt_of_cell? w6 _ HC4.out; simp at this; omega) (by have := World.block_lt_of_cell? w6 _ HC3.out; simp at this; omega) (by obtain ⟨_, _, _, h, _⟩ := HWAS6.out; have := lt_of_block h; omega) (HSL6.out.keeps (Keeps.refl None w6) (fun _ _ h => h.elim) (fun i hi h => h.elim .inr (fun h => by omega))) (HWAS6.out.keeps (Keeps.refl None w6) (fun h => h) (fun _ _ h => h.elim) (fun i hi h => h.elim .inr (fun h => by omega)))
      refine (wpIn_wide (n := 9)).1 ?_
      refine wpIn_rangeFunc_ownF (P := Try.prog) rfl (by omega) (gf := 45) (lb := #[.pointer (some ⟨B4, 0, none⟩), .pointer (some ⟨B3, 0, none⟩)]) rfl trivial (enters_of Try.func45 (by kernel_rfl) rfl)
        hstops ?kt ?kb (Below.refl _ _) (fun _ => rfl)
        (fun pre W => W.cell? ⟨w5.heap.size + 1, 0, none⟩ = some (.int .i64 pre.length) ∧ W.frozen? ⟨w5.heap.size + 1, 0, none⟩ = false ∧ pre <+: LI.flat ks6 L ∧ Keeps (fun i => i = w5.heap.size + 1 ∨ w6.heap.size ≤ i) w6 W)
        (fun c pre _ => c = .ret ∧ ¬ pre <+: LI.flat ks6 L)
        ?own ?ownx ⟨hc15, hf15, List.nil_prefix, Keeps.refl _ _⟩ ?a1 ?assign ?body ?done ?stop
      case kt => exact fun h k => h.then' k
      case kb => exact fun W l o o' hl h _ _ => (Keeps.refl _ W).grown (grownBy_putObj' W l o') (fun j e => by cases e; exact .inr (.inr hl))
      case own =>
        intro pre W W' row hs hg hrow
        obtain ⟨h1, h2, h3, h4⟩ := hs
        refine ⟨?_, ?_, h3, h4.grown hg (fun j e => .inr (.inr (hrow j e).1))⟩
        · refine hg.cell h1 (fun e => ?_)
          have h5 := (hrow _ e.symm).1
          have h6 := HK6.out.size
          simp at h5 h6
          omega
        · rw [World.frozen?_of_block (hg.block _ (World.block_lt_of_cell? W _ h1) (fun e => by have h5 := (hrow _ e.symm).1; have h6 := HK6.out.size; simp at h5 h6; omega))]
          exact h2
      case ownx => exact fun c pre W W' row hs _ _ => hs
      case assign =>
        intro l x W K hK
        simp only [LI.encs, List.zip_toArray, List.zip_cons_cons, List.zip_nil_left]
        gi_wp2
        exact hK
      case body =>
        rintro l pre x W ⟨h1, h2, h3, h4⟩ hlen
        obtain ⟨rest, hrest⟩ := id h3
        obtain ⟨z, hz⟩ : ∃ z, (LI.flat ks6 L)[pre.length]? = some z := ⟨_, List.getElem?_eq_getElem hlen⟩
        obtain ⟨n, hn⟩ : ∃ n : Nat, n = pre.length := ⟨_, rfl⟩
        have hnl2 : n < nl := by rw [hn, HNL.out]; exact hlen
        have hnext : pre ++ [z] <+: LI.flat ks6 L := by
          rw [← hrest] at hz ⊢
          rw [List.getElem?_append_right (Nat.le_refl _), Nat.sub_self] at hz
          cases rest with
          | nil => simp at hz
          | cons y rest => simp at hz; subst hz; exact ⟨rest, by simp⟩
        have hnot : ∀ q, q ≠ z → ¬ pre ++ [q] <+: LI.flat ks6 L := by
          rintro q hq ⟨r2, h2⟩
          apply hq
          have := congrArg (fun l => l[pre.length]?) h2
          simp only [hz] at this
          rw [List.append_assoc, List.getElem?_append_right (Nat.le_refl _), Nat.sub_self] at this
          simpa using this
        have ha5 := HA5.out (by omega)
        subst ha5
        rw [← hn] at h1 hz
        have hk56 : Keeps (fun i => i = w5.heap.size + 1 ∨ w6.heap.size ≤ i) w5 W := ((((Keeps.refl _ w5).alloc _).alloc _).then' HK6.out.of_none).then' h4
        have hk6sz := HK6.out.size
        simp at hk6sz
        have hw5 : ∀ i, i < w5.heap.size → ¬ (i = w5.heap.size + 1 ∨ w6.heap.size ≤ i) := fun i hi h => by omega
        obtain ⟨hz1, hz2⟩ := HC5.out n z hz
        have hz1 := hk56.cell hz1 (hw5 _ (World.block_lt_of_cell? w5 _ hz1))
        have hz2 := hk56.cell hz2 (hw5 _ (World.block_lt_of_cell? w5 _ hz2))
        have hc14 : W.cell? ⟨w5.heap.size, 0, none⟩ = some (.slice (some ⟨g5, 0, none⟩) nl cap5) := by
          refine h4.cell (HK6.out.cell ?_ (fun h => h)) (fun h => by simp at h; omega)
          have := (((Keeps.refl None (w5.alloc (.cells #[.slice (some ⟨g5, 0, none⟩) nl cap5] 62))).alloc (.cells #[.int .i64 0] 3))).at_ (heap_alloc_new w5 _) (fun h => h)
          simp only [World.cell?, this]
          rfl
        have hb6 : W.heap[w.heap.size]? = some (.cells #[.bool false] 4) := by
          have h := (((Keeps.refl None w5).alloc (.cells #[.slice (some ⟨g5, 0, none⟩) nl cap5] 62)).alloc (.cells #[.int .i64 0] 3)).then' HK6.out
          refine h4.at_ (h.at_ (HK15.out.at_ (heap_alloc_new w _) (fun h => h)) (fun h => h)) ?_
          have := HK15.out.size
          simp at this
          omega
        have hc6 : W.frozen? ⟨w.heap.size, 0, none⟩ = false := by simp [World.frozen?, hb6]
        have hc6' : W.cell? ⟨w.heap.size, 0, none⟩ = some (.bool false) := by simp [World.cell?, hb6]
        clear hb6
        have H3 := hid h3; have H4 := hid h4; have HNEXT := hid hnext; have HNOT := hid hnot; have HN := hid hn
        clear hrest hnext hnot hlen h3 h4 hk56 hw5 hz hn
        have hnlmax : nl ≤ 9223372036854775807 := by have := hm5; unfold maxLen at this; omega
        have hlt1 : decide ((nl : Int) ≤ (n : Int)) = false := by simp; omega
        by_cases e1 : z.1 = x.1
        · have hd1 : (z.1 != x.1) = false := by simp [e1]
          by_cases e2 : z.2 = x.2
          · have hd2 : (z.2 != x.2) = false := by simp [e2]
            have hzx : z = x := Prod.ext e1 e2
            clear e1 e2
            gi_wp2
            refine ⟨KeepsOthers.setCell _ _ _, (Keeps.refl _ W).setCell (p := ⟨w5.heap.size + 1, 0, none⟩) (.inr (.inl rfl)) _, ?_, by rw [World.frozen?_setCell]; exact h2, hzx ▸ HNEXT.out, H4.out.then' ((Keeps.refl _ W).setCell (p := ⟨w5.heap.size + 1, 0, none⟩) (.inr (.inl rfl)) _)⟩
            rw [World.cell?_setCell_same' _ _ _ (by rw [h1]; rfl), List.length_append, ← HN.out]
            rfl
          · have hd2 : (z.2 != x.2) = true := by simp [e2]
            gi_wp2
            exact ⟨KeepsOthers.setCell _ _ _, rfl, HNOT.out x (fun e => e2 (by rw [e]))⟩
        · have hd1 : (z.1 != x.1) = true := by simp [e1]
          gi_wp2
          exact ⟨KeepsOthers.setCell _ _ _, rfl, HNOT.out x (fun e => e1 (by rw [e]))⟩
      case done =>
        rintro D xs W hD rfl ⟨h1, h2, h3, h4⟩ hD2
        rw [← HNL.out] at h1
        have hk6sz := HK6.out.size
        simp at hk6sz
        have hc14 : W.cell? ⟨w5.heap.size, 0, none⟩ = some (.slice a5 nl cap5) := by
          refine h4.cell (HK6.out.cell ?_ (fun h => h)) (fun h => by simp at h; omega)
          have := (((Keeps.refl None (w5.alloc (.cells #[.slice a5 nl cap5] 62))).alloc (.cells #[.int .i64 0] 3))).at_ (heap_alloc_new w5 _) (fun h => h)
          simp only [World.cell?, this]
          rfl
        have hb6 : W.heap[w.heap.size]? = some (.cells #[.bool false] 4) := by
          have h := (((Keeps.refl None w5).alloc (.cells #[.slice a5 nl cap5] 62)).alloc (.cells #[.int .i64 0] 3)).then' HK6.out
          refine h4.at_ (h.at_ (HK15.out.at_ (heap_alloc_new w _) (fun h => h)) (fun h => h)) ?_
          have := HK15.out.size
          simp at this
          omega
        have hc6 : W.frozen? ⟨w.heap.size, 0, none⟩ = false := by simp [World.frozen?, hb6]
        have hc6' : W.cell? ⟨w.heap.size, 0, none⟩ = some (.bool false) := by simp [World.cell?, hb6]
        have H4 := hid h4; have HD := hid hD2
        clear h3 h4 hD2
        go_wp2
        have HD' := (KeepsOthers.setCell W ⟨w.heap.size, 0, none⟩ (.bool true)).same D _ HD.out rfl
        have hcr := World.cell?_setCell_same' W ⟨w.heap.size, 0, none⟩ (.bool true) (by rw [hc6']; rfl)
        have hcr2 := cell_kept hcr (grownBy_putObj' _ D (.deferred none)) (fun r e => by cases e; exact ⟨_, HD', rfl⟩)
        refine ⟨by simp, .inl ⟨_, _, rfl, run_takeDeferred HD', ?_⟩⟩
        refine ⟨.bool true, by simp [results, Try.f21, go_sem, hcr2], rfl, ?_⟩
        have hsz5 := HK5.out.size
        have hkW : Keeps None w W := (HKx.out.then' HK6.out).trans H4.out (fun _ _ h => h) (fun i hi h => by have : i = w5.heap.size + 1 ∨ w6.heap.size ≤ i := h; omega)
        exact (hkW.setCell (p := ⟨w.heap.size, 0, none⟩) (.inl (Nat.le_refl _)) _).grown (grownBy_putObj' _ D _) (fun j e => by cases e; left; omega)
      case stop =>
        rintro D c pre W hD hpre ⟨_, hno⟩ _
        exact absurd hpre hno
end
end Go.Proofs.Ythdnbdbnlbebeaa
