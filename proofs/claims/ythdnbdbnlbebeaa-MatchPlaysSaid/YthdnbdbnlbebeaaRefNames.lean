/- The reference's Names: the numbers of the lists that have a task, rising. -/
import Derived.Test.YthdnbdbnlbebeaaRefKeep
import Derived.Deep.RegionHeld3
namespace Go.Proofs.Ythdnbdbnlbebeaa.R
open Go Go.RowKit Go.MapKept Go.Proofs.Ythdnbdbnlbebeaa

/-! ### rows of ints of the call's own -/
def icells (ks : List Int) : List Value := ks.map (.int .i64)
def RowI (w : World) (base : Nat) (v : Value) (ks : List Int) : Prop := w.ownsRow base 3 1 v ks.length (icells ks)
theorem icells_one (ks : List Int) : ∀ u ∈ icells ks, u.oneCell' = true := by
  intro u hu
  simp only [icells, List.mem_map] at hu
  obtain ⟨x, _, rfl⟩ := hu
  rfl
theorem RowI.at_ {w : World} {base : Nat} {v : Value} {ks : List Int} (h : RowI w base v ks) : ∃ (a : Option Addr) (g cap : Nat), v = .slice a ks.length cap ∧ ks.length ≤ cap ∧ cap ≤ maxLen ∧ ((a = none ∧ ks = [] ∧ cap = 0) ∨ a = some ⟨g, 0, none⟩) ∧
    ∀ (i : Nat) (x : Int), ks[i]? = some x → w.cell? ⟨g, i, none⟩ = some (.int .i64 x) := by
  obtain ⟨hl, ho⟩ := h
  rcases ho with ⟨rfl, h0⟩ | ⟨g, cap, cur, rfl, hb, hh, hn, hc, hs, ht⟩
  · have := List.eq_nil_of_length_eq_zero h0
    subst this
    exact ⟨none, 0, 0, by simp, by simp, Nat.zero_le _, .inl ⟨rfl, rfl, rfl⟩, fun i q hq => by simp at hq⟩
  · refine ⟨_, g, cap, rfl, hn, hc, .inr rfl, fun i x hx => ?_⟩
    have hi : i < ks.length := (List.getElem?_eq_some_iff.1 hx).1
    have h1 : (icells ks)[i]? = some (.int .i64 x) := by simp [icells, hx]
    rw [← ht, List.getElem?_take, if_pos (by omega)] at h1
    have h2 : cur[i]? = some (.int .i64 x) := by simpa using h1
    simp [World.cell?, hh, h2]
theorem RowI.keeps {w w' : World} {S : Nat → Prop} {base : Nat} {v : Value} {ks : List Int} (h : RowI w base v ks) (hk : Keeps S w w') (hS : ∀ k, v.ownBlock = some k → ¬ S k) : RowI w' base v ks := by
  obtain ⟨hl, ho⟩ := h
  refine ⟨hl, ?_⟩
  rcases ho with h0 | ⟨g, cap, cur, rfl, hb, hh, hr⟩
  · exact .inl h0
  · exact .inr ⟨g, cap, cur, rfl, hb, hk.at_ hh (hS g rfl), hr⟩

/-! ### the plain side: an insertion -/
structure Rising (ks : List Int) (l : List Int) : Prop where
  rise : ks.Pairwise (· < ·)
  mem : ∀ x, x ∈ ks ↔ x ∈ l
theorem Rising.nil : Rising [] [] := ⟨List.Pairwise.nil, fun _ => Iff.rfl⟩
theorem Rising.same {ks l : List Int} {x : Int} (h : Rising ks l) (hx : x ∈ ks) : Rising ks (l ++ [x]) :=
  ⟨h.rise, fun y => by rw [List.mem_append, List.mem_singleton]; exact ⟨fun hy => .inl ((h.mem y).1 hy), fun hy => hy.elim (h.mem y).2 (fun e => e ▸ hx)⟩⟩
theorem Rising.insert {ks l : List Int} {x : Int} {k : Nat} (h : Rising ks l) (hlo : ∀ (j : Nat) (y : Int), j < k → ks[j]? = some y → y < x) (hhi : ∀ y : Int, ks[k]? = some y → x < y) : Rising (ks.take k ++ [x] ++ ks.drop k) (l ++ [x]) := by
  have hr := h.rise
  rw [← List.take_append_drop k ks, List.pairwise_append] at hr
  obtain ⟨h1, h2, h3⟩ := hr
  have htk : ∀ y ∈ ks.take k, y < x := by
    intro y hy
    obtain ⟨j, hj⟩ := List.mem_iff_getElem?.1 hy
    rw [List.getElem?_take] at hj
    split at hj
    · rename_i hjk; exact hlo j y hjk hj
    · cases hj
  have hdk : ∀ y ∈ ks.drop k, x < y := by
    intro y hy
    cases hd : ks.drop k with
    | nil => rw [hd] at hy; cases hy
    | cons z zs =>
      have hz : ks[k]? = some z := by have := congrArg (fun l => l[0]?) hd; simpa using this
      have hxz := hhi z hz
      rw [hd] at hy h2
      rcases List.mem_cons.1 hy with rfl | hy
      · exact hxz
      · have := (List.pairwise_cons.1 h2).1 y hy; omega
  refine ⟨?_, fun y => ?_⟩
  · rw [List.pairwise_append, List.pairwise_append]
    refine ⟨⟨h1, List.pairwise_singleton _ _, fun a ha b hb => by simp at hb; subst hb; exact htk a ha⟩, h2, fun a ha b hb => ?_⟩
    rcases List.mem_append.1 ha with ha | ha
    · exact h3 a ha b hb
    · simp at ha; subst ha; exact hdk b hb
  · have hm := h.mem y
    rw [← List.take_append_drop k ks] at hm
    simp only [List.mem_append, List.mem_singleton] at hm ⊢
    constructor
    · rintro ((h | h) | h)
      · exact .inl (hm.1 (.inl h))
      · exact .inr h
      · exact .inl (hm.1 (.inr h))
    · rintro (h | h)
      · rcases hm.2 h with h | h
        · exact .inl (.inl h)
        · exact .inr h
      · exact .inl (.inr h)
theorem nodup_le : ∀ {ks l : List Int}, ks.Nodup → (∀ x ∈ ks, x ∈ l) → ks.length ≤ l.length
  | [], _, _, _ => Nat.zero_le _
  | x :: xs, l, hn, hs => by
    rw [List.nodup_cons] at hn
    have h1 := nodup_le (l := l.erase x) hn.2 (fun y hy => (List.mem_erase_of_ne (fun e : y = x => hn.1 (e ▸ hy))).2 (hs y (List.mem_cons_of_mem _ hy)))
    have hx := hs x List.mem_cons_self
    have h2 := List.length_erase_of_mem hx
    have h3 : 0 < l.length := List.length_pos_of_mem hx
    simp only [List.length_cons]
    omega
theorem Rising.length_le {ks l : List Int} (h : Rising ks l) : ks.length ≤ l.length := by
  have hn : ks.Nodup := h.rise.imp (fun h => by omega)
  exact nodup_le hn (fun x hx => (h.mem x).1 hx)

theorem infoI : (Try.prog.info? 3).map (fun i => (i.zero, i.size, i.bytes)) = some (some (.int .i64 0), 1, 8) := by kernel_rfl

theorem made_own (W : World) (base b : Nat) (h : b = W.heap.size) (hb : base ≤ b) : (W.alloc (.cells #[] 3)).ownsRow base 3 1 (.slice (some ⟨b, 0, none⟩) 0 0) 0 [] := by
  subst h
  exact World.ownsRow_made W #[] 0 hb (Nat.zero_le _) rfl
theorem new_cell (W : World) (b : Nat) (x : Int) (h : b = W.heap.size) : (W.alloc (.cells #[.int .i64 x] 3)).cell? ⟨b, 0, none⟩ = some (.int .i64 x) := by
  subst h
  have h := heap_alloc_new W (.cells #[.int .i64 x] 3)
  simp only [World.cell?, h]
  rfl
theorem one_cell {W : World} {b : Nat} {u : Value} (h : W.cell? ⟨b, 0, none⟩ = some u) : ∀ j u', [u][j]? = some u' → W.cell? ((⟨b, 0, none⟩ : Addr).add j) = some u' := by
  intro j u' hu
  cases j with
  | zero => simp at hu; subst hu; exact h
  | succ j => simp at hu
theorem kept_cell {W w' : World} {row : Option Nat} {b c : Nat} {u : Value} (hg : W.grownBy w' row) (hc : W.cell? ⟨b, 0, none⟩ = some u) (hr : row = some c) (hne : b ≠ c) : w'.cell? ⟨b, 0, none⟩ = some u := hg.cell hc (by rw [hr]; simpa using hne)
theorem ins_row {W : World} {b b' m k : Nat} {v : Value} {x : Int} {ks : List Int} (h : W.ownsRow b' 3 1 v (k + 1 + (m - k)) (icells (ks.take k) ++ [.int .i64 x] ++ icells (ks.drop k))) (hm : m = ks.length) (hk : k ≤ m) (hb : b ≤ b') : RowI W b v (ks.take k ++ [x] ++ ks.drop k) := by
  have e1 : (ks.take k ++ [x] ++ ks.drop k).length = k + 1 + (m - k) := by simp; omega
  have e2 : icells (ks.take k ++ [x] ++ ks.drop k) = icells (ks.take k) ++ [.int .i64 x] ++ icells (ks.drop k) := by simp [icells]
  unfold RowI
  rw [e1, e2]
  obtain ⟨k1, k2⟩ := h
  refine ⟨k1, ?_⟩
  rcases k2 with k2 | ⟨g, cap, cur, k2, k3, k4⟩
  · exact .inl k2
  · exact .inr ⟨g, cap, cur, k2, Nat.le_trans hb k3, k4⟩
theorem own_cap {W : World} {b e s n cap : Nat} {a : Option Addr} {xs : List Value} (h : W.ownsRow b e s (.slice a n cap) n xs) : n ≤ cap := by
  rcases h.2 with ⟨k1, k2⟩ | ⟨g, cap', cur, k1, k2, k3, k4, _⟩
  · omega
  · simp at k1; omega
theorem own_some {W : World} {b e s n cap : Nat} {a : Option Addr} {xs : List Value} (h : W.ownsRow b e s (.slice a n cap) n xs) (h0 : 0 < n) : ∃ ad, a = some ad := by
  rcases h.2 with ⟨k1, k2⟩ | ⟨g, cap', cur, k1, _⟩
  · omega
  · simp at k1; exact ⟨_, k1.1⟩
theorem ins_end {W : World} {b b' k : Nat} {v : Value} {x : Int} {ks : List Int} (h : W.ownsRow b' 3 1 v (k + 1) (icells (ks.take k) ++ [.int .i64 x])) (hm : k = ks.length) (hb : b ≤ b') : RowI W b v (ks.take k ++ [x] ++ ks.drop k) := by
  have := ins_row (b := b) (m := k) (k := k) (ks := ks) (x := x) (v := v) (W := W) (b' := b') (by rw [List.drop_eq_nil_of_le (by omega)]; simpa [icells] using h) hm (Nat.le_refl _) hb
  exact this
theorem grown_new {w0 W w' : World} {row : Option Nat} {b : Nat} (h : Keeps None w0 W) (hg : W.grownBy w' row) (hr : row = some b) (hb : w0.heap.size ≤ b) : Keeps None w0 w' :=
  h.grown hg (fun k hk => by rw [hr] at hk; simp at hk; left; omega)
theorem grown_own {w0 W w' w5 : World} {v : Value} {e size n : Nat} {xs : List Value} (h : Keeps None w0 W) (hg : W.grownBy w' v.ownBlock) (ho : w5.ownsRow w0.heap.size e size v n xs) : Keeps None w0 w' :=
  h.grown hg (fun k hk => .inl (ho.lt k hk).1)
theorem cells_of {W : World} {base g n cap : Nat} {ks : List Int} (h : RowI W base (.slice (some ⟨g, 0, none⟩) n cap) ks) (k : Nat) : ∀ j u, (icells (ks.take k))[j]? = some u → W.cell? ((⟨g, 0, none⟩ : Addr).add j) = some u := by
  intro j u hu
  refine World.ownsRow.cells (g := g) h rfl j u ?_
  simp only [icells, List.getElem?_map, List.getElem?_take] at hu ⊢
  split at hu
  · exact hu
  · simp at hu
theorem cells_from {W : World} {base g n cap : Nat} {ks : List Int} (h : RowI W base (.slice (some ⟨g, 0, none⟩) n cap) ks) (k : Nat) : ∀ j u, (icells (ks.drop k))[j]? = some u → W.cell? ((⟨g, k, none⟩ : Addr).add j) = some u := by
  intro j u hu
  have := World.ownsRow.cells (g := g) h rfl (k + j) u (by simpa [icells] using hu)
  rw [Addr.add_lit] at this ⊢
  simpa using this

set_option maxRecDepth 100000 in
set_option maxHeartbeats 2000000 in
theorem names {w : World} {p : Nat} {v : Value} {most : Int} {R : List (Int × Int)} (h : RefAt w p v most R) :
    Calls Try.prog 36 #[.pointer (some ⟨p, 0, none⟩)] w fun e w' => ∃ v' ks, e = .returned v' ∧ Keeps None w w' ∧ RowI w' w.heap.size v' ks ∧ Rising ks (R.map (·.1)) := by
  obtain ⟨i0, hi0, hz0, hz1, hz2⟩ := info_parts infoI
  obtain ⟨c0, c1⟩ := h.cells
  obtain ⟨a, g, cap, rfl, hn, hc, ha, hcell⟩ := h.own.at_
  have hsm := h.small
  obtain ⟨n, hnn⟩ : ∃ n : Nat, n = R.length := ⟨_, rfl⟩
  rw [← hnn] at hn c1 hsm ha
  have HN := hid hnn; have HC := hid hcell; have HVA := hid ha; have HC1 := hid c1
  clear hnn hcell ha h hc c1 c0
  go_enter Try.func36, Try.ntmps36
  go_wp2_with fail
  go_loopw [3, 4] (fun o ix wr => ∃ (i : Nat) (ks : List Int), i ≤ n ∧ ix = .int .i64 i ∧ Keeps None w wr ∧ RowI wr w.heap.size o ks ∧ Rising ks ((R.take i).map (·.1))) (fun _ ix _ => n - (intOf ix).toNat)
  case atStart => exact ⟨0, [], Nat.zero_le _, rfl, Keeps.refl _ _, World.ownsRow_nil _ _ _ _, Rising.nil⟩
  case round =>
    obtain ⟨i, ks, hin, rfl, hk, hrow, hrise⟩ := hrel
    have HK := hid hk; have HROW := hid hrow; have HRI := hid hrise
    have c1 := hk.cell HC1.out (fun h => h)
    clear hk hrow hrise
    by_cases hlt : i < n
    · have hva := HVA.out (by omega)
      subst hva
      obtain ⟨q, hq⟩ : ∃ q, R[i]? = some q := ⟨_, List.getElem?_eq_getElem (show i < R.length by rw [← HN.out]; exact hlt)⟩
      have h1 := HK.out.cell (HC.out i q hq).1 (fun h => h)
      have htk : (R.take (i + 1)).map (·.1) = (R.take i).map (·.1) ++ [q.1] := by
        have hi := (List.getElem?_eq_some_iff.1 hq).1
        have e : R[i] = q := by rw [List.getElem?_eq_getElem hi] at hq; simpa using hq
        rw [List.take_succ_eq_append_getElem hi, List.map_append, e]
        rfl
      have HTK := hid htk
      have hkl : ks.length ≤ i := by have := HRI.out.length_le; simp only [List.length_map, List.length_take] at this; omega
      obtain ⟨a3, g3, cap3, rfl, hcap3, hcm3, ha3, hcells3⟩ := HROW.out.at_
      obtain ⟨m, hm⟩ : ∃ m : Nat, m = ks.length := ⟨_, rfl⟩
      rw [← hm] at hcap3 hkl
      have HM := hid hm; have HA3 := hid ha3; have HC3 := hid hcells3
      rw [← hm]
      have HR3 : Hid (∀ W, Keeps None wr W → RowI W w.heap.size (.slice a3 m cap3) ks) := by
        intro W hW
        have := HROW.out.keeps hW (fun _ _ h => h)
        rw [← hm] at this
        exact this
      clear hq htk hm ha3 hcells3
      generalize hx : q.1 = x at *
      clear hx
      go_wp2_with fail
      obtain ⟨wo, hwo⟩ : ∃ wo : World, wo = wr := ⟨_, rfl⟩
      subst hwo
      go_loopw [5] (fun kx wx => ∃ (k nq : Nat), k ≤ m ∧ kx = .int .i64 k ∧ wx = wo.drewN nq ∧ ∀ (j : Nat) (y : Int), j < k → ks[j]? = some y → y < x) (fun kx _ => m - (intOf kx).toNat)
      case atStart => exact ⟨0, 0, Nat.zero_le _, rfl, rfl, fun j y h => absurd h (by omega)⟩
      case round =>
        obtain ⟨k, nq, hkm, rfl, rfl, hlo⟩ := hrel
        have HLO := hid hlo
        clear hlo
        by_cases hlt2 : k < m
        · obtain ⟨y, hy⟩ : ∃ y, ks[k]? = some y := ⟨_, List.getElem?_eq_getElem (show k < ks.length by rw [← HM.out]; exact hlt2)⟩
          have h2 : wo.cell? ⟨g3, k, none⟩ = some (.int .i64 y) := HC3.out k y hy
          have ha3 : a3 = some ⟨g3, 0, none⟩ := by
            rcases HA3.out with ⟨_, hnil, _⟩ | h
            · rw [hnil] at hy; simp at hy
            · exact h
          subst ha3
          have HY := hid hy
          clear hy
          have hd0 : decide ((k : Int) < (m : Int)) = true := by simp; omega
          by_cases hyx : y < x
          · have hd : decide (y < x) = true := by simpa using hyx
            go_wp2_with fail
            go_quiet (fail)
            go_wp2
            go_roundw
            case rel => exact ⟨k + 1, _, by omega, by go_num, rfl, fun j z hj hz => by
              rcases Nat.lt_or_eq_of_le (Nat.le_of_lt_succ hj) with h | rfl
              · exact HLO.out j z h hz
              · rw [HY.out] at hz; cases hz; exact hyx⟩
            case measure => simp [intOf]; omega
          · have hd : decide (y < x) = false := by simpa using hyx
            by_cases hyx2 : y = x
            · have hd2 : (y == x) = true := by simp [hyx2]
              go_wp2_with fail
              go_quiet (fail)
              go_wp2
              go_quiet (fail)
              go_wp2
              go_roundw
              case rel => exact ⟨i + 1, ks, by omega, by go_num, HK.out.drewN _, HR3.out _ (Keeps.drewN (Keeps.refl None wo) _), by rw [HTK.out]; exact HRI.out.same (hyx2 ▸ List.mem_of_getElem? HY.out)⟩
              case measure => simp [intOf]; omega
            · have hd2 : (y == x) = false := by simp [hyx2]
              go_wp2_with fail
              go_quiet (fail)
              go_wp2
              go_quiet (fail)
              go_wp2
              have HLK : Hid ((icells (ks.take k)).length = k * 1) := by rw [icells, List.length_map, List.length_take, ← HM.out]; show min k m = k * 1; omega
              have HSZ := HK.out.size
              have SH : Hid (∀ W, Keeps None wo W → Keeps None wo W ∧ W.cell? ⟨p, 1, none⟩ = some (.slice (some ⟨g, 0, none⟩) n cap) ∧ W.cell? ⟨g, i * 2, none⟩ = some (.int .i64 x)) := fun W hW => ⟨hW, hW.cell c1 (fun h => h), hW.cell h1 (fun h => h)⟩
              have hk3 : (k : Int) ≤ (cap3 : Int) := by omega
              have hk4 : (k : Int) ≤ (m : Int) := by omega
              go_region_held3 (fun W => Keeps None wo W ∧ W.cell? ⟨p, 1, none⟩ = some (.slice (some ⟨g, 0, none⟩) n cap) ∧ W.cell? ⟨g, i * 2, none⟩ = some (.int .i64 x)) (exact SH.out _ (by repeat (first | assumption | apply Keeps.alloc | apply Keeps.drew | apply Keeps.drewN | exact Keeps.refl _ _)))
                (first
                  | (refine step_append_mine rfl (.tmp 56) (.tmp 59) 22 rfl wo.heap.size 3 i0 _ 1 8 Try.underlying22 hi0 hz0 hz1 hz2 rfl (by decide) _ 0 [] rfl (by first | exact made_own _ _ _ (by simp) (by simp) | exact (made_own _ _ _ (by simp) (by simp)).alloc _) ⟨g3, 0, none⟩ k cap3 (icells (ks.take k)) rfl HLK.out (cells_of (HR3.out _ (by repeat (first | assumption | apply Keeps.alloc | apply Keeps.drew | apply Keeps.drewN | exact Keeps.refl _ _))) k) (icells_one _) (by unfold maxLen; omega) (by omega) (by simp; try omega) ?_; intro v5 w5 hown5 hg5 _; rw [Nat.zero_add, List.nil_append] at hown5; obtain ⟨a5, cap5, hv5⟩ := slice_of_own hown5; subst hv5; have hk5 : Keeps None wo w5 := grown_new (by repeat (first | assumption | apply Keeps.alloc | apply Keeps.drew | apply Keeps.drewN | exact Keeps.refl _ _)) hg5 rfl (by simp); have HO5 := hid hown5; have HG5 := hid hg5; clear hown5 hg5)
                  | (refine step_append_mine rfl (.tmp 60) (.tmp 69) 22 rfl wo.heap.size 3 i0 _ 1 8 Try.underlying22 hi0 hz0 hz1 hz2 rfl (by decide) _ k (icells (ks.take k)) rfl (by first | exact HO5.out | exact HO5.out.alloc _) ⟨_, 0, none⟩ 1 1 [.int .i64 x] rfl rfl (by first | exact one_cell (new_cell _ _ _ (by simp)) | exact one_cell (kept_cell HG5.out (new_cell _ _ _ (by simp)) rfl (by simp)) | exact one_cell (kept_cell HG5.out (((Keeps.refl None _).alloc _).cell (new_cell _ _ _ (by simp)) (fun h => h)) rfl (by simp))) (by simp [Value.oneCell']) (by unfold maxLen; omega) (by omega) (by have := hk5.size; simp; try omega) ?_; intro v6 w6 hown6 hg6 _; obtain ⟨a6, cap6, hv6⟩ := slice_of_own hown6; subst hv6; have hk6 : Keeps None wo w6 := grown_own (by repeat (first | assumption | apply Keeps.alloc | apply Keeps.drew | apply Keeps.drewN | exact Keeps.refl _ _)) hg6 HO5.out; have HO6 := hid hown6; clear hown6 hg6))
              all_goals
                have HX : Hid (∀ j u, (icells (ks.drop k))[j]? = some u → w6.cell? ((⟨g3, k, none⟩ : Addr).add j) = some u) := cells_from (HR3.out _ hk6) k
                have c16 := hk6.cell c1 (fun h => h)
                have h16 := hk6.cell h1 (fun h => h)
                have HK6 := hid hk6
                have HD : Hid ((icells (ks.drop k)).length = (m - k) * 1) := by rw [icells, List.length_map, List.length_drop, ← HM.out]; show m - k = (m - k) * 1; omega
                have hne : ¬ cap3 = k := by omega
                have hsz6 := hk6.size
                clear hk6
                go_wp2_with (at_builtin; go_must (refine wpList_append_mine rfl _ _ 22 rfl wo.heap.size 3 i0 _ 1 8 Try.underlying22 hi0 hz0 hz1 hz2 rfl (by decide) (.slice a6 (k + 1) cap6) (k + 1) (icells (ks.take k) ++ [Value.int .i64 x]) rfl HO6.out ⟨g3, k, none⟩ (m - k) (cap3 - k) (icells (ks.drop k)) rfl HD.out HX.out (icells_one _) (by unfold maxLen; omega) (by omega) (by omega) ?_; intro v7 w7 hown7 hg7 _; obtain ⟨a7, cap7, hv7⟩ := slice_of_own hown7; subst hv7; have hk7 := grown_own HK6.out hg7 HO6.out; have HO7 := hid hown7; have HK7 := hid hk7; clear hown7 hg7 hk7))
                go_roundw
                case rel => exact ⟨i + 1, _, by omega, by go_num, HK.out.then' HK7.out, ins_row HO7.out HM.out (by omega) (by omega), by rw [HTK.out]; exact HRI.out.insert HLO.out (fun z hz => by rw [HY.out] at hz; cases hz; omega)⟩
                case measure => simp [intOf]; omega
        · obtain rfl : k = m := by omega
          have hd0 : decide ((k : Int) < (k : Int)) = false := by simp
          go_wp2_with fail
          go_quiet (fail)
          go_wp2
          go_quiet (fail)
          go_wp2
          rcases HA3.out with ⟨ha3, hnil, hcap0⟩ | ha3
          · subst ha3
            subst hnil
            obtain rfl : k = 0 := HM.out
            subst hcap0
            have HSZ := HK.out.size
            have SH : Hid (∀ W, Keeps None wo W → Keeps None wo W ∧ W.cell? ⟨p, 1, none⟩ = some (.slice (some ⟨g, 0, none⟩) n cap) ∧ W.cell? ⟨g, i * 2, none⟩ = some (.int .i64 x)) := fun W hW => ⟨hW, hW.cell c1 (fun h => h), hW.cell h1 (fun h => h)⟩
            go_region_held3 (fun W => Keeps None wo W ∧ W.cell? ⟨p, 1, none⟩ = some (.slice (some ⟨g, 0, none⟩) n cap) ∧ W.cell? ⟨g, i * 2, none⟩ = some (.int .i64 x)) (exact SH.out _ (by repeat (first | assumption | apply Keeps.alloc | apply Keeps.drew | apply Keeps.drewN | exact Keeps.refl _ _)))
              (first
                | (refine step_append_mine rfl (.tmp 60) (.tmp 69) 22 rfl wo.heap.size 3 i0 _ 1 8 Try.underlying22 hi0 hz0 hz1 hz2 rfl (by decide) _ 0 [] rfl (by first | exact made_own _ _ _ (by simp) (by simp) | exact (made_own _ _ _ (by simp) (by simp)).alloc _) ⟨_, 0, none⟩ 1 1 [.int .i64 x] rfl rfl (by first | exact one_cell (new_cell _ _ _ (by simp)) | exact one_cell (((Keeps.refl None _).alloc _).cell (new_cell _ _ _ (by simp)) (fun h => h))) (by simp [Value.oneCell']) (by unfold maxLen; omega) (by omega) (by simp; try omega) ?_; intro v6 w6 hown6 hg6 _; rw [Nat.zero_add, List.nil_append] at hown6; obtain ⟨a6, cap6, hv6⟩ := slice_of_own hown6; subst hv6; have hk6 : Keeps None wo w6 := grown_new (by repeat (first | assumption | apply Keeps.alloc | apply Keeps.drew | apply Keeps.drewN | exact Keeps.refl _ _)) hg6 rfl (by simp); have HO6 := hid hown6; clear hown6 hg6))
            all_goals
              have c16 := hk6.cell c1 (fun h => h)
              have h16 := hk6.cell h1 (fun h => h)
              have HK6 := hid hk6
              have hc6 : 0 + 1 ≤ cap6 := own_cap HO6.out
              obtain ⟨b6, ha6⟩ := own_some HO6.out (by omega)
              subst ha6
              clear hk6
              go_wp2
              all_goals
                go_roundw
                case rel => exact ⟨i + 1, _, by omega, by go_num, HK.out.then' HK6.out, ins_end (k := 0) (ks := []) HO6.out rfl (by omega), by rw [HTK.out]; exact HRI.out.insert HLO.out (fun z hz => by rw [List.getElem?_eq_none (by have := HM.out; omega)] at hz; cases hz)⟩
                case measure => simp [intOf]; omega
          · subst ha3
            have HLK : Hid ((icells (ks.take k)).length = k * 1) := by rw [icells, List.length_map, List.length_take, ← HM.out]; show min k k = k * 1; omega
            have HSZ := HK.out.size
            have SH : Hid (∀ W, Keeps None wo W → Keeps None wo W ∧ W.cell? ⟨p, 1, none⟩ = some (.slice (some ⟨g, 0, none⟩) n cap) ∧ W.cell? ⟨g, i * 2, none⟩ = some (.int .i64 x)) := fun W hW => ⟨hW, hW.cell c1 (fun h => h), hW.cell h1 (fun h => h)⟩
            have hk3 : (k : Int) ≤ (cap3 : Int) := by omega
            have hk4 : (k : Int) ≤ (k : Int) := by omega
            go_region_held3 (fun W => Keeps None wo W ∧ W.cell? ⟨p, 1, none⟩ = some (.slice (some ⟨g, 0, none⟩) n cap) ∧ W.cell? ⟨g, i * 2, none⟩ = some (.int .i64 x)) (exact SH.out _ (by repeat (first | assumption | apply Keeps.alloc | apply Keeps.drew | apply Keeps.drewN | exact Keeps.refl _ _)))
              (first
                | (refine step_append_mine rfl (.tmp 56) (.tmp 59) 22 rfl wo.heap.size 3 i0 _ 1 8 Try.underlying22 hi0 hz0 hz1 hz2 rfl (by decide) _ 0 [] rfl (by first | exact made_own _ _ _ (by simp) (by simp) | exact (made_own _ _ _ (by simp) (by simp)).alloc _) ⟨g3, 0, none⟩ k cap3 (icells (ks.take k)) rfl HLK.out (cells_of (HR3.out _ (by repeat (first | assumption | apply Keeps.alloc | apply Keeps.drew | apply Keeps.drewN | exact Keeps.refl _ _))) k) (icells_one _) (by unfold maxLen; omega) (by omega) (by simp; try omega) ?_; intro v5 w5 hown5 hg5 _; rw [Nat.zero_add, List.nil_append] at hown5; obtain ⟨a5, cap5, hv5⟩ := slice_of_own hown5; subst hv5; have hk5 : Keeps None wo w5 := grown_new (by repeat (first | assumption | apply Keeps.alloc | apply Keeps.drew | apply Keeps.drewN | exact Keeps.refl _ _)) hg5 rfl (by simp); have HO5 := hid hown5; have HG5 := hid hg5; clear hown5 hg5)
                | (refine step_append_mine rfl (.tmp 60) (.tmp 69) 22 rfl wo.heap.size 3 i0 _ 1 8 Try.underlying22 hi0 hz0 hz1 hz2 rfl (by decide) _ k (icells (ks.take k)) rfl (by first | exact HO5.out | exact HO5.out.alloc _) ⟨_, 0, none⟩ 1 1 [.int .i64 x] rfl rfl (by first | exact one_cell (new_cell _ _ _ (by simp)) | exact one_cell (kept_cell HG5.out (new_cell _ _ _ (by simp)) rfl (by simp)) | exact one_cell (kept_cell HG5.out (((Keeps.refl None _).alloc _).cell (new_cell _ _ _ (by simp)) (fun h => h)) rfl (by simp))) (by simp [Value.oneCell']) (by unfold maxLen; omega) (by omega) (by have := hk5.size; simp; try omega) ?_; intro v6 w6 hown6 hg6 _; obtain ⟨a6, cap6, hv6⟩ := slice_of_own hown6; subst hv6; have hk6 : Keeps None wo w6 := grown_own (by repeat (first | assumption | apply Keeps.alloc | apply Keeps.drew | apply Keeps.drewN | exact Keeps.refl _ _)) hg6 HO5.out; have HO6 := hid hown6; clear hown6 hg6))
            all_goals
              have c16 := hk6.cell c1 (fun h => h)
              have h16 := hk6.cell h1 (fun h => h)
              have HK6 := hid hk6
              have hc6 : k + 1 ≤ cap6 := own_cap HO6.out
              obtain ⟨b6, ha6⟩ := own_some HO6.out (by omega)
              subst ha6
              clear hk6
              go_wp2
              all_goals
                go_roundw
                case rel => exact ⟨i + 1, _, by omega, by go_num, HK.out.then' HK6.out, ins_end HO6.out HM.out (by omega), by rw [HTK.out]; exact HRI.out.insert HLO.out (fun z hz => by rw [List.getElem?_eq_none (by have := HM.out; omega)] at hz; cases hz)⟩
                case measure => simp [intOf]; omega
    · obtain rfl : i = n := by omega
      have e1 : R.take i = R := by rw [HN.out, List.take_length]
      rw [e1] at HRI
      obtain ⟨a9, c9, hv9⟩ := slice_of_own HROW.out
      subst hv9
      go_wp2_with fail
      go_ret
      exact ⟨_, ks, rfl, HK.out, HROW.out, HRI.out⟩
end Go.Proofs.Ythdnbdbnlbebeaa.R
