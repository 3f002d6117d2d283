/- Contracts of match.Lists, over the words of Mem. Made out of a template, once at int, once at string. -/
import Derived.Test.YthdnbdbnlbebeaaProg
import Derived.Test.YthdnbdbnlbebeaaMem
import Derived.WalkLawsBesides
import Derived.Deep.QuietTactic
import Derived.BigQuiet
namespace Go.Proofs.Ythdnbdbnlbebeaa.LI
open Go Go.RowKit Go.MapKept Go.Proofs.Ythdnbdbnlbebeaa
open Go.ChangeMaps (setBlock heap_setBlock_same heap_setBlock_other)

theorem zeroS (w : World) : (zeroValue 22).run Try.prog w = .ok (.slice none 0 0) w := by kernel_rfl
theorem infoE : (Try.prog.info? 3).map (fun i => (i.zero, i.size, i.bytes)) = some (some (.int .i64 0), 1, 8) := by kernel_rfl
def enc (x : Int) : Value := .int .i64 x
/-! ### values alone -/

set_option maxHeartbeats 400000 in
theorem len_any {w : World} {p b : Nat} {es : Array MapEntry} {clock : Nat} {m : List (Int × Value)} {k : Int} {a : Option Addr} {n cap : Nat}
    (c1 : w.cell? ⟨p, 1, none⟩ = some (.map (some b))) (hb : w.heap[b]? = some (.map es clock)) (hm : IsMap es clock m) (hv : (look m k).getD (.slice none 0 0) = .slice a n cap) :
    Calls Try.prog 9 #[.pointer (some ⟨p, 0, none⟩), .int .i64 k] w fun e w' => e = .returned (.int .i64 n) ∧ w = w' := by
  have hl := run_look Try.underlying53 Try.underlying3 hb hm (zeroS w) k false
  rw [hv] at hl
  have HV := hid hv
  clear hv hb hm
  go_enter Try.func9, Try.ntmps9
  go_wp2
  go_ret
  exact ⟨rfl, rfl⟩

set_option maxHeartbeats 400000 in
theorem full_any {w : World} {p b : Nat} {most : Int} {es : Array MapEntry} {clock : Nat} {m : List (Int × Value)} {k : Int} {a : Option Addr} {n cap : Nat}
    (c0 : w.cell? ⟨p, 0, none⟩ = some (.int .i64 most)) (c1 : w.cell? ⟨p, 1, none⟩ = some (.map (some b))) (hb : w.heap[b]? = some (.map es clock)) (hm : IsMap es clock m) (hv : (look m k).getD (.slice none 0 0) = .slice a n cap) :
    Calls Try.prog 28 #[.pointer (some ⟨p, 0, none⟩), .int .i64 k] w fun e w' => e = .returned (.bool (decide (most ≤ n))) ∧ ∃ q, w' = w.drewN q := by
  have hc := fun q => (len_any (w := w.drewN q) (k := k) c1 hb hm hv).mono fun _ _ h => And.intro h.1 h.2.symm
  have HV := hid hv
  have HM := hid hm
  clear hv hb hm
  go_enter Try.func28, Try.ntmps28
  go_wp2_with fail
  go_quiet ((go_at_call 9; exact Calls.quiet_of_same (hc _)))
  go_wp2
  go_ret
  exact ⟨rfl, _, rfl⟩

set_option maxHeartbeats 400000 in
theorem clip_any {w : World} {a : Option Addr} {n cap : Nat} (hn : n ≤ cap) (hc : cap ≤ maxLen) (h0 : a = none → n = 0 ∧ cap = 0) :
    Calls Try.prog 30 #[.slice a n cap] w fun e w' => e = .returned (.slice a n n) ∧ w = w' := by
  unfold maxLen at hc
  cases a with
  | none =>
    obtain ⟨rfl, rfl⟩ := h0 rfl
    go_enter Try.func30, Try.ntmps30
    go_wp2
    go_ret
    exact ⟨rfl, rfl⟩
  | some ad =>
    clear h0
    go_enter Try.func30, Try.ntmps30
    go_wp2
    go_ret
    exact ⟨rfl, rfl⟩

set_option maxRecDepth 100000 in
set_option maxHeartbeats 400000 in
theorem set_any {w : World} {p b : Nat} {es : Array MapEntry} {clock : Nat} {m : List (Int × Value)} {k : Int} {a : Option Addr} {n cap : Nat}
    (c1 : w.cell? ⟨p, 1, none⟩ = some (.map (some b))) (hb : w.heap[b]? = some (.map es clock)) (hm : IsMap es clock m) :
    Calls Try.prog 29 #[.pointer (some ⟨p, 0, none⟩), .int .i64 k, .slice a n cap] w fun e w' => e = .returned (.tuple #[]) ∧
      ∃ es' clock', w' = setBlock w b (.map es' clock') ∧ IsMap es' clock' (if n = 0 then del m k else put m k (.slice a n cap)) := by
  obtain ⟨es1, hr1, h1⟩ := run_del Try.underlying53 Try.underlying3 hb hm 0 k
  obtain ⟨es2, clock2, hr2, h2⟩ := run_put Try.underlying53 Try.underlying3 hb hm k (.slice a n cap)
  clear hb hm
  by_cases hn : n = 0
  · subst hn
    clear hr2 h2
    go_enter Try.func29, Try.ntmps29
    go_wp2
    refine bodyPost_ret (results_none rfl _ _ _) rfl ?_
    exact ⟨rfl, es1, clock, rfl, h1⟩
  · have hn1 : ((n : Int) == 0) = false := by rw [beq_eq_false_iff_ne]; omega
    clear hr1 h1
    go_enter Try.func29, Try.ntmps29
    go_wp2
    go_end0
    exact ⟨rfl, es2, clock2, rfl, h2⟩

set_option maxRecDepth 100000 in
set_option maxHeartbeats 400000 in
theorem clone_any {w : World} {M : Nat → Prop} {v : Value} {n : Nat} {vs : List Value} (hv : SliceAt w M 1 v n vs) (hb : n * 8 ≤ 140737488355328) (hM : ∀ i, M i → i < w.heap.size) :
    Calls Try.prog 32 #[v] w fun e w' => ∃ v', e = .returned v' ∧ Keeps None w w' ∧ SliceAt w' M 1 v' n vs := by
  obtain ⟨i0, hi, hz0, hz1, hz2⟩ := info_parts infoE
  obtain ⟨a, cap, rfl⟩ := hv.lenOf
  have h63 := hv.2.1
  have hq := fun (W : World) => Lib.run_eql_slice_nil (P := Try.prog) W 22 3 a n cap 0 0 Try.underlying22
  cases a with
  | none =>
    have hn : n = 0 ∧ vs = [] := by
      obtain ⟨hl, _, h⟩ := hv
      rcases h with ⟨_, rfl⟩ | ⟨ad, c, h, _⟩
      · exact ⟨rfl, List.eq_nil_of_length_eq_zero (by simpa using hl)⟩
      · simp at h
    obtain ⟨rfl, rfl⟩ := hn
    go_enter Try.func32, Try.ntmps32
    go_wp2
    go_ret
    exact ⟨_, rfl, Keeps.refl _ _, SliceAt.nil _ _ _⟩
  | some ad =>
    have hK := (Keeps.refl None w).alloc (.cells #[] 3)
    have hv' := hid (hv.keeps (M' := M) hK (fun _ _ h => h.elim) (fun _ _ h => h))
    have hd : SliceAt (w.alloc (.cells #[] 3)) M 1 (.slice (some ⟨w.heap.size, 0, none⟩) 0 0) 0 [] := SliceAt.mk rfl (Nat.le_refl _) (Nat.zero_le _) (fun h => absurd h (by omega))
    have Hd := hid hd
    clear hv hd
    go_enter Try.func32, Try.ntmps32
    go_wp2_with (at_builtin; refine wpList_append_at Try.underlying22 hi hz0 hz1 hz2 rfl rfl _ _ rfl rfl rfl Hd.out (.inr ⟨_, rfl⟩) hv'.out (by simp only [maxLen] at h63 ⊢; omega) (by omega) ?_; intro v' w' hk h0 h1; have H0 := hid h0; clear h0)
    go_ret
    refine ⟨_, rfl, (hK.then' hk), ?_⟩
    have := SliceAt.of_append (e := 3) Hd.out hv'.out.1 (fun j hj => by have := hM j hj; simp; omega) H0.out (fun h => by simpa using h1 h)
    simpa using this


/-! ### lists -/

/-- Rows of tasks: none is empty. -/
def RowsAt (w : World) (M : Nat → Prop) : List (Int × Value) → List (Int × List Int) → Prop :=
  RelMap (fun v xs => 0 < xs.length ∧ SliceAt w M 1 v xs.length (xs.map enc))

/-- Lists behind a pointer to block p; their map is block b. -/
def ListsAt (w : World) (M : Nat → Prop) (p b : Nat) (most : Int) (L : List (Int × List Int)) : Prop :=
  w.heap[p]? = some (.cells #[.int .i64 most, .map (some b)] 55) ∧ ∃ es clock m, w.heap[b]? = some (.map es clock) ∧ IsMap es clock m ∧ RowsAt w M m L

def row (L : List (Int × List Int)) (k : Int) : List Int := (look L k).getD []
def store (L : List (Int × List Int)) (k : Int) (xs : List Int) : List (Int × List Int) := if xs.length = 0 then del L k else put L k xs

theorem RowsAt.keeps {w w' : World} {M M' S : Nat → Prop} {m : List (Int × Value)} {L : List (Int × List Int)} (h : RowsAt w M m L) (hk : Keeps S w w')
    (hS : ∀ k, k < w.heap.size → S k → M k) (hM : ∀ k, k < w.heap.size → M' k → M k) : RowsAt w' M' m L :=
  RelMap.mono (fun _ _ h => ⟨h.1, h.2.keeps hk hS hM⟩) h
theorem ListsAt.keeps {w w' : World} {M M' S : Nat → Prop} {p b : Nat} {most : Int} {L : List (Int × List Int)} (h : ListsAt w M p b most L) (hk : Keeps S w w')
    (hS : ∀ k, k < w.heap.size → S k → M k) (hM : ∀ k, k < w.heap.size → M' k → M k) (hp : ¬ S p) (hb : ¬ S b) : ListsAt w' M' p b most L := by
  obtain ⟨h1, es, clock, m, h2, h3, h4⟩ := h
  exact ⟨hk.at_ h1 hp, es, clock, m, hk.at_ h2 hb, h3, h4.keeps hk hS hM⟩
theorem RowsAt.row {w : World} {M : Nat → Prop} {m : List (Int × Value)} {L : List (Int × List Int)} (h : RowsAt w M m L) (k : Int) :
    SliceAt w M 1 ((look m k).getD (.slice none 0 0)) (row L k).length ((row L k).map enc) := by
  rcases RelMap.look h k with ⟨h1, h2⟩ | ⟨v, x, h1, h2, h3⟩
  · simp only [h1, h2, LI.row, Option.getD_none, List.length_nil, List.map_nil]
    exact SliceAt.nil _ _ _
  · simp only [h1, h2, LI.row, Option.getD_some]
    exact h3.2
theorem RowsAt.store {w : World} {M : Nat → Prop} {m : List (Int × Value)} {L : List (Int × List Int)} (h : RowsAt w M m L) (k : Int) {v : Value} {xs : List Int} (hv : SliceAt w M 1 v xs.length (xs.map enc)) :
    RowsAt w M (if xs.length = 0 then del m k else put m k v) (store L k xs) := by
  unfold LI.store
  split
  · exact RelMap.del h k
  · rename_i h0
    exact RelMap.put h ⟨by omega, hv⟩
theorem ListsAt.cells {w : World} {M : Nat → Prop} {p b : Nat} {most : Int} {L : List (Int × List Int)} (h : ListsAt w M p b most L) :
    w.cell? ⟨p, 0, none⟩ = some (.int .i64 most) ∧ w.cell? ⟨p, 1, none⟩ = some (.map (some b)) := by
  have h1 := h.1
  exact ⟨by simp [World.cell?, h1], by simp [World.cell?, h1]⟩

set_option maxHeartbeats 400000 in
theorem new_any (most : Int) (w : World) (h1 : 1 ≤ most) (h2 : most ≤ 65536) :
    Calls Try.prog 7 #[.int .i64 most] w fun e w' => ∃ p b, e = .returned (.tuple #[.pointer (some ⟨p, 0, none⟩), .int .i64 0]) ∧ Keeps None w w' ∧ w.heap.size ≤ p ∧ w.heap.size ≤ b ∧ p ≠ b ∧ p < w'.heap.size ∧ b < w'.heap.size ∧ ∀ M : Nat → Prop, ListsAt w' M p b most [] := by
  have hmm := @run_makeMap Try.prog
  go_enter Try.func7, Try.ntmps7
  go_wp2
  go_ret2
  refine ⟨_, _, rfl, ((Keeps.refl _ _).alloc _).alloc _, ?_, Nat.le_refl _, by simp, by simp, by simp; omega, fun M => ⟨by have := heap_alloc_new (w.alloc (.map #[] 0)) (.cells #[.int .i64 most, .map (some w.heap.size)] 55); simpa using this, #[], 0, [], ?_, ⟨rfl, stamped_empty 0⟩, trivial⟩⟩
  · simp
  · rw [Below.heap_alloc _ _ _ (by simp)]; exact heap_alloc_new _ _
set_option maxHeartbeats 400000 in
theorem new_no (most : Int) (w : World) (h : most < 1 ∨ 65536 < most) :
    Calls Try.prog 7 #[.int .i64 most] w fun e w' => e = .returned (.tuple #[.pointer none, .int .i64 1]) ∧ w = w' := by
  rcases h with h | h
  · go_enter Try.func7, Try.ntmps7
    go_wp2
    go_ret2
    exact ⟨rfl, rfl⟩
  · have h' : ¬ most < 1 := by omega
    go_enter Try.func7, Try.ntmps7
    go_wp2
    go_ret2
    exact ⟨rfl, rfl⟩

section
variable {w : World} {M : Nat → Prop} {p b : Nat} {most : Int} {L : List (Int × List Int)} (h : ListsAt w M p b most L)
include h
theorem len (k : Int) : Calls Try.prog 9 #[.pointer (some ⟨p, 0, none⟩), .int .i64 k] w fun e w' => e = .returned (.int .i64 (row L k).length) ∧ w = w' := by
  obtain ⟨c0, c1⟩ := h.cells
  obtain ⟨hp, es, clock, m, hb, hm, hr⟩ := h
  obtain ⟨a, cap, hv⟩ := (hr.row k).lenOf
  exact len_any c1 hb hm hv
theorem full (k : Int) : Calls Try.prog 28 #[.pointer (some ⟨p, 0, none⟩), .int .i64 k] w fun e w' => e = .returned (.bool (decide (most ≤ (row L k).length))) ∧ ∃ q, w' = w.drewN q := by
  obtain ⟨c0, c1⟩ := h.cells
  obtain ⟨hp, es, clock, m, hb, hm, hr⟩ := h
  obtain ⟨a, cap, hv⟩ := (hr.row k).lenOf
  exact full_any c0 c1 hb hm hv
set_option maxRecDepth 100000 in
set_option maxHeartbeats 400000 in
theorem peek (k : Int) : Calls Try.prog 31 #[.pointer (some ⟨p, 0, none⟩), .int .i64 k] w fun e w' => e = .returned (.tuple #[((row L k).map enc).headD (.int .i64 0), .bool (decide (0 < (row L k).length))]) ∧ w = w' := by
  obtain ⟨c0, c1⟩ := h.cells
  obtain ⟨hp, es, clock, m, hb, hm, hr⟩ := h
  have hs := hr.row k
  generalize row L k = xs at hs
  have hl := run_look Try.underlying53 Try.underlying3 hb hm (zeroS w) k false
  obtain ⟨a, cap, hv⟩ := hs.lenOf
  rw [hv] at hl hs
  clear hb hm hv hr hp
  cases xs with
  | nil =>
    clear hs
    simp only [List.length_nil] at hl
    go_enter Try.func31, Try.ntmps31
    go_wp2_with fail
    refine wp_loop_once ?_
    go_wp2
    go_ret2
    exact ⟨rfl, rfl⟩
  | cons x xs =>
    obtain ⟨bb, off, rfl, _⟩ := hs.addr (by simp)
    have hc := hs.cells 0 (enc x) rfl
    rw [Addr.add_zero'] at hc
    obtain ⟨n, hn⟩ : ∃ n : Nat, n = xs.length := ⟨_, rfl⟩
    have h63 := hs.2.1
    simp only [List.length_cons, ← hn] at hl h63 hs
    have HN := hid hn
    clear hs hn
    unfold maxLen at h63
    unfold enc at hc
    go_enter Try.func31, Try.ntmps31
    go_wp2_with fail
    refine wp_loop_once ?_
    go_wp2
    go_ret2
    refine ⟨?_, rfl⟩
    simp [enc]
end

section
variable {w : World} {M : Nat → Prop} {p b : Nat} {most : Int} {L : List (Int × List Int)} (h : ListsAt w M p b most L)
include h
theorem ListsAt.ne : p ≠ b := by
  rintro rfl
  obtain ⟨h1, es, clock, m, h2, _⟩ := h
  rw [h1] at h2
  simp at h2
/-- A list is given new tasks. -/
theorem set (hMb : M b) (k : Int) {v : Value} {xs : List Int} (hv : SliceAt w M 1 v xs.length (xs.map enc)) :
    Calls Try.prog 29 #[.pointer (some ⟨p, 0, none⟩), .int .i64 k, v] w fun e w' => e = .returned (.tuple #[]) ∧ Keeps (One b) w w' ∧ ListsAt w' M p b most (store L k xs) := by
  obtain ⟨c0, c1⟩ := h.cells
  have hne := h.ne
  obtain ⟨hp, es, clock, m, hb, hm, hr⟩ := h
  obtain ⟨a, cap, rfl⟩ := hv.lenOf
  refine (set_any c1 hb hm).mono ?_
  rintro e w' ⟨rfl, es', clock', rfl, hm'⟩
  have hk : Keeps (One b) w (setBlock w b (.map es' clock')) := (Keeps.refl (One b) w).setBlock (r := b) (.inr rfl) _
  refine ⟨rfl, hk, hk.at_ hp hne, es', clock', _, heap_setBlock_same hb _, hm', ?_⟩
  have := hr.store k hv
  exact this.keeps hk (fun i _ hi => by cases hi; exact hMb) (fun i _ hi => hi)

set_option maxRecDepth 100000 in
set_option maxHeartbeats 400000 in
theorem push_full (k : Int) (x : Int) (hf : most ≤ (row L k).length) :
    Calls Try.prog 8 #[.pointer (some ⟨p, 0, none⟩), .int .i64 k, enc x] w fun e w' => e = .returned (.int .i64 4) ∧ ∃ q, w' = w.drewN q := by
  have hc := full h k
  rw [decide_eq_true hf] at hc
  have HF := hid hf
  clear hf
  unfold enc
  go_enter Try.func8, Try.ntmps8
  go_wp2_with (go_at_call 28; refine hc.mono ?_; rintro e w' ⟨rfl, q, rfl⟩)
  go_ret
  exact ⟨rfl, q, rfl⟩

set_option maxRecDepth 100000 in
set_option maxHeartbeats 400000 in
theorem push_room (hM : ∀ i, M i → i < w.heap.size) (hMb : M b) (hmost : most ≤ 65536) (k : Int) (x : Int) (hf : ¬ most ≤ (row L k).length) :
    Calls Try.prog 8 #[.pointer (some ⟨p, 0, none⟩), .int .i64 k, enc x] w fun e w' => e = .returned (.int .i64 0) ∧ Keeps (One b) w w' ∧ ListsAt w' M p b most (put L k (row L k ++ [x])) := by
  obtain ⟨i0, hi, hz0, hz1, hz2⟩ := info_parts infoE
  have hc := full h k
  rw [decide_eq_false hf] at hc
  have h1 : ListsAt w M p b most L := h
  obtain ⟨hp, es, clock, m, hb, hm, hr⟩ := h1
  have hs := hr.row k
  obtain ⟨a, cap, hv⟩ := hs.lenOf
  have hn : (row L k).length < 65536 := by omega
  have hstore : store L k (row L k ++ [x]) = put L k (row L k ++ [x]) := by unfold store; rw [if_neg (by simp)]
  rw [← hstore]
  have hset := fun (W : World) (hK : Keeps None w W) (v : Value) (hv : SliceAt W M 1 v (row L k ++ [x]).length ((row L k ++ [x]).map enc)) =>
    set (h.keeps (M' := M) hK (fun _ _ h => h.elim) (fun _ _ h => h) (fun h => h) (fun h => h)) hMb k hv
  have hl : ∀ W : World, W.heap[b]? = some (.map es clock) → (Instr.lookup 53 (.map (some b)) (.int .i64 k) false).run Try.prog W = .ok (.slice a (row L k).length cap) W := fun W hW => by
    have := run_look Try.underlying53 Try.underlying3 hW hm (zeroS W) k false
    rw [hv] at this
    simpa using this
  obtain ⟨c0, c1⟩ := h.cells
  rw [hv] at hs
  generalize hrow : row L k = xs at *
  obtain ⟨n, hnn⟩ : ∃ n : Nat, n = xs.length := ⟨_, rfl⟩
  have hlen : (xs.map enc).length = n := by simp [hnn]
  simp only [List.length_append, List.length_singleton, ← hnn] at hs hv hn hc hf hset hl
  have hcap := hs.capOf
  have HD : Hid (∀ W : World, Keeps None w W → SliceAt W M 1 (.slice a n n) n (xs.map enc)) := fun W hK => hs.recap.keeps hK (fun _ _ h => h.elim) (fun _ _ h => h)
  have HFull : Hid (Full (.slice a n n) n) := by
    cases a with
    | none => obtain ⟨h1, h2⟩ := hcap.2.2 rfl; subst h1; exact .inl rfl
    | some ad => exact .inr ⟨ad, rfl⟩
  have HF := hid hf
  have HN := hid hlen
  have HSET := hid hset
  have HC := hid hcap
  have HM := hid hM
  clear hf hnn hv hs hset hcap hrow hstore hr hM hlen h hp
  unfold enc
  go_enter Try.func8, Try.ntmps8
  go_wp2_with (first
    | (go_at_call 28; refine hc.mono ?_; rintro e w' ⟨rfl, q, rfl⟩)
    | (go_at_call 30; refine (clip_any HC.out.1 HC.out.2.1 HC.out.2.2).mono ?_; rintro e w' ⟨rfl, rfl⟩)
    | (at_builtin; refine wpList_append_at Try.underlying22 hi hz0 hz1 hz2 rfl rfl _ _ rfl rfl rfl (HD.out _ (((Keeps.refl _ _).drewN _).alloc _)) HFull.out (SliceAt.one _ M 1 _ 3 rfl (fun i hi => HM.out i hi)) (by unfold maxLen; omega) (by omega) ?_; intro v' w1 hk h0 h1; have H0 := hid h0; have H1 := hid h1; have HK := hid hk; clear h0 h1 hk)
    | (go_at_call 29; go_must (refine (HSET.out _ ((((Keeps.refl _ _).drewN _).alloc _).then' HK.out) _ (by have := SliceAt.of_append (e := 3) (HD.out _ (((Keeps.refl _ _).drewN q).alloc (.cells #[enc x] 3))) (by rfl) (fun i hi => by have := HM.out i hi; simp; omega) H0.out H1.out; simpa [enc] using this)).mono ?_); rintro e w' ⟨rfl, hk2, hL⟩; have HK2 := hid hk2; have HL := hid hL; clear hk2 hL)
    | fail)
  go_ret
  refine ⟨rfl, ?_, HL.out⟩
  exact (Keeps.of_none ((((Keeps.refl _ _).drewN _).alloc _).then' HK.out)).trans HK2.out (fun _ _ h => h) (fun _ _ h => h)
end

section
variable {w : World} {M : Nat → Prop} {p b : Nat} {most : Int} {L : List (Int × List Int)} (h : ListsAt w M p b most L)
include h
set_option maxRecDepth 100000 in
set_option maxHeartbeats 400000 in
theorem pop_none (k : Int) (hf : row L k = []) :
    Calls Try.prog 10 #[.pointer (some ⟨p, 0, none⟩), .int .i64 k] w fun e w' => e = .returned (.tuple #[(.int .i64 0), .bool false]) ∧ w = w' := by
  have hc := peek h k
  rw [hf] at hc
  simp only [List.map_nil, List.headD_nil, List.length_nil, Nat.lt_irrefl, decide_false] at hc
  clear hf
  go_enter Try.func10, Try.ntmps10
  go_wp2_with (go_at_call 31; refine hc.mono ?_; rintro e w' ⟨rfl, rfl⟩)
  go_ret2
  exact ⟨rfl, rfl⟩

set_option maxRecDepth 100000 in
set_option maxHeartbeats 400000 in
theorem pop_some (hM : ∀ i, M i → i < w.heap.size) (hMb : M b) (k : Int) (hmost : (row L k).length ≤ 65536) (x : Int) (xs : List Int) (hf : row L k = x :: xs) :
    Calls Try.prog 10 #[.pointer (some ⟨p, 0, none⟩), .int .i64 k] w fun e w' => e = .returned (.tuple #[enc x, .bool true]) ∧ Keeps (One b) w w' ∧ ListsAt w' M p b most (store L k xs) := by
  have hc := peek h k
  rw [hf] at hc hmost
  simp only [List.map_cons, List.headD_cons, List.length_cons, Nat.zero_lt_succ, decide_true] at hc
  have h1 : ListsAt w M p b most L := h
  obtain ⟨hp, es, clock, m, hb, hm, hr⟩ := h1
  have hs := hr.row k
  obtain ⟨a, cap, hv⟩ := hs.lenOf
  have hset := fun (W : World) (hK : Keeps None w W) (v : Value) (hv : SliceAt W M 1 v xs.length (xs.map enc)) =>
    set (h.keeps (M' := M) hK (fun _ _ h => h.elim) (fun _ _ h => h) (fun h => h) (fun h => h)) hMb k hv
  have hl : ∀ W : World, W.heap[b]? = some (.map es clock) → (Instr.lookup 53 (.map (some b)) (.int .i64 k) false).run Try.prog W = .ok (.slice a (row L k).length cap) W := fun W hW => by
    have := run_look Try.underlying53 Try.underlying3 hW hm (zeroS W) k false
    rw [hv] at this
    simpa only [Bool.false_eq_true, if_false] using this
  obtain ⟨c0, c1⟩ := h.cells
  rw [hv] at hs
  rw [hf] at hs hl
  obtain ⟨n, hnn⟩ : ∃ n : Nat, n = xs.length := ⟨_, rfl⟩
  have hlen : (xs.map enc).length = n := by simp [hnn]
  simp only [List.length_cons, ← hnn, List.map_cons] at hs hl hset hmost
  have hcap := hs.capOf
  -- what stands behind the first
  obtain ⟨bb, off, rfl, hrow⟩ := hs.addr (by omega)
  have htail : ∀ off', (n = 0 ∨ off' = off + 1) → SliceAt w M 1 (.slice (some ⟨bb, off', none⟩) n (cap - 1)) n (xs.map enc) := by
    intro off' ho
    refine SliceAt.mk (by simp [hlen]) (by omega) (by omega) (fun h0 => ?_)
    rcases ho with ho | rfl
    · omega
    obtain ⟨hm2, cc, T, fr, hb2, hcc⟩ := hrow
    exact ⟨hm2, cc, T, fr, hb2, fun j u hu => by have := hcc (j + 1) u (by simpa using hu); rw [show off + 1 + j = off + (j + 1) by omega]; exact this⟩
  have htail0 : n = 0 → SliceAt w M 1 (.slice (some ⟨bb, off, none⟩) n 0) n (xs.map enc) := fun h0 =>
    SliceAt.mk (by simp [hlen]) (by omega) (Nat.zero_le _) (fun h => by omega)
  have HT0 := hid htail0
  have hclone := fun (v : Value) (hv : SliceAt w M 1 v n (xs.map enc)) => clone_any (w := w) hv (by omega) hM
  have h1n : 1 ≤ n + 1 := by omega
  have h2n : n + 1 ≤ cap := hcap.1
  have h3n : cap ≤ 9223372036854775807 := hcap.2.1
  have HT := hid htail
  have HC := hid hclone
  have HSET := hid hset
  clear hf hnn hv hs hset hcap hr hlen h hp htail hclone hM htail0 hrow
  unfold enc at hc
  unfold enc
  go_enter Try.func10, Try.ntmps10
  go_wp2_with (first
    | (go_at_call 31; refine hc.mono ?_; rintro e w' ⟨rfl, rfl⟩)
    | (go_at_call 32; (first | (with_reducible refine (HC.out _ (HT.out _ (by omega))).mono ?_) | (with_reducible refine (HC.out _ (HT0.out (by omega))).mono ?_)); rintro e w1 ⟨v', rfl, hk, hs⟩; have HK := hid hk; have HS := hid hs; clear hk hs)
    | (go_at_call 29; go_must (refine (HSET.out _ HK.out _ HS.out).mono ?_); rintro e w2 ⟨rfl, hk2, hL⟩; have HK2 := hid hk2; have HL := hid hL; clear hk2 hL))
  all_goals
    go_ret2
    exact ⟨rfl, (Keeps.of_none HK.out).trans HK2.out (fun _ _ h => h) (fun _ _ h => h), HL.out⟩
end

end Go.Proofs.Ythdnbdbnlbebeaa.LI
