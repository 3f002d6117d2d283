/- The words of memory that the proofs of this seat share: what a call may change, rows of cells, maps keyed by ints. -/
import Derived.WalkKit
import Derived.WalkSpells
import Derived.ChangeMaps5
import Derived.Maps.Keyed
import Derived.Laws.IdiomRangeMap
import Derived.Deep.Draws

namespace Go.Proofs.Ythdnbdbnlbebeaa
open Go Go.RowKit Go.MapKept
open Go.ChangeMaps (setBlock heap_setBlock_same heap_setBlock_other)

/-- From w to w' of the blocks that were there those of S alone may have changed. -/
structure Keeps (S : Nat → Prop) (w w' : World) : Prop where
  os : w'.os = w.os
  tape : w'.tape = w.tape
  output : w'.output = w.output
  size : w.heap.size ≤ w'.heap.size
  block : ∀ k, k < w.heap.size → ¬ S k → w'.heap[k]? = w.heap[k]?

theorem hid {p : Prop} (h : p) : RowKit.Hid p := h
def None : Nat → Prop := fun _ => False
def One (b : Nat) : Nat → Prop := fun k => k = b

namespace Keeps
theorem refl (S : Nat → Prop) (w : World) : Keeps S w w := ⟨rfl, rfl, rfl, Nat.le_refl _, fun _ _ _ => rfl⟩
theorem trans {S S1 S2 : Nat → Prop} {a b c : World} (h : Keeps S1 a b) (k : Keeps S2 b c) (h1 : ∀ i, i < a.heap.size → S1 i → S i) (h2 : ∀ i, i < a.heap.size → S2 i → S i) : Keeps S a c :=
  ⟨k.os.trans h.os, k.tape.trans h.tape, k.output.trans h.output, Nat.le_trans h.size k.size,
    fun i hi hs => (k.block i (Nat.lt_of_lt_of_le hi h.size) (fun x => hs (h2 i hi x))).trans (h.block i hi (fun x => hs (h1 i hi x)))⟩
theorem mono {S S' : Nat → Prop} {a b : World} (h : Keeps S a b) (hs : ∀ i, i < a.heap.size → S i → S' i) : Keeps S' a b :=
  ⟨h.os, h.tape, h.output, h.size, fun i hi hn => h.block i hi (fun x => hn (hs i hi x))⟩
theorem then' {S : Nat → Prop} {a b c : World} (h : Keeps S a b) (k : Keeps S b c) : Keeps S a c := h.trans k (fun _ _ x => x) (fun _ _ x => x)
theorem of_none {S : Nat → Prop} {a b : World} (h : Keeps None a b) : Keeps S a b := h.mono (fun _ _ x => x.elim)
theorem drew {S : Nat → Prop} {a w : World} (h : Keeps S a w) : Keeps S a w.drew := ⟨h.os, h.tape, h.output, h.size, h.block⟩
theorem drewN {S : Nat → Prop} {a w : World} (h : Keeps S a w) (n : Nat) : Keeps S a (w.drewN n) := ⟨h.os, h.tape, h.output, h.size, h.block⟩
theorem alloc {S : Nat → Prop} {a w : World} (h : Keeps S a w) (o : Obj) : Keeps S a (w.alloc o) :=
  ⟨h.os, h.tape, h.output, by have := h.size; simp; omega, fun i hi hn => by
    have := h.size
    rw [Below.heap_alloc _ _ _ (by omega)]; exact h.block i hi hn⟩
theorem setCell {S : Nat → Prop} {a w : World} (h : Keeps S a w) {p : Addr} (hp : a.heap.size ≤ p.block ∨ S p.block) (u : Value) : Keeps S a (w.setCell p u) :=
  ⟨h.os, h.tape, h.output, by have := h.size; simpa using this, fun i hi hn => by
    rw [Below.heap_setCell _ _ _ _ (by rintro rfl; rcases hp with hp | hp <;> first | omega | exact hn hp)]; exact h.block i hi hn⟩
theorem setBlock {S : Nat → Prop} {a w : World} (h : Keeps S a w) {r : Nat} (hp : a.heap.size ≤ r ∨ S r) (o : Obj) : Keeps S a (setBlock w r o) :=
  ⟨h.os, h.tape, h.output, by have := h.size; simpa [ChangeMaps.setBlock] using this, fun i hi hn => by
    show (w.heap.setIfInBounds r o)[i]? = _
    rw [Array.getElem?_setIfInBounds_ne (by rintro rfl; rcases hp with hp | hp <;> first | omega | exact hn hp)]; exact h.block i hi hn⟩
theorem grown {S : Nat → Prop} {a w w' : World} {row : Option Nat} (h : Keeps S a w) (hg : w.grownBy w' row) (hr : ∀ k, row = some k → a.heap.size ≤ k ∨ S k) : Keeps S a w' :=
  ⟨hg.os.trans h.os, hg.tape.trans h.tape, hg.output.trans h.output, Nat.le_trans h.size hg.size, fun i hi hn =>
    (hg.block i (Nat.lt_of_lt_of_le hi h.size) (fun e => by rcases hr i e.symm with h1 | h1 <;> first | omega | exact hn h1)).trans (h.block i hi hn)⟩
theorem below {w w' : World} (h : Keeps None w w') : Below w.heap.size w w' := ⟨h.os, h.tape, h.output, h.size, fun k hk => h.block k hk (fun x => x)⟩
theorem of_below {w w' : World} (h : Below w.heap.size w w') : Keeps None w w' := ⟨h.os, h.tape, h.output, h.size, fun k hk _ => h.block k hk⟩
/-- A block that was there, and may not change, is as it was. -/
theorem at_ {S : Nat → Prop} {w w' : World} (h : Keeps S w w') {b : Nat} {o : Obj} (hb : w.heap[b]? = some o) (hs : ¬ S b) : w'.heap[b]? = some o :=
  (h.block b (lt_of_block hb) hs).trans hb
theorem cell {S : Nat → Prop} {w w' : World} (h : Keeps S w w') {a : Addr} {v : Value} (hc : w.cell? a = some v) (hs : ¬ S a.block) : w'.cell? a = some v :=
  (World.cell?_of_block (w := w) (h.block a.block (World.block_lt_of_cell? w a hc) hs)).trans hc
end Keeps

theorem _root_.Go.World.grownBy_drewN (w : World) (n : Nat) (row : Option Nat) : w.grownBy (w.drewN n) row := ⟨rfl, rfl, rfl, Nat.le_refl _, fun _ _ _ => rfl⟩

/-! ### rows of cells -/

/-- In the blocks outside M: from 'off' on block b holds the cells vs. -/
def RowAt (w : World) (M : Nat → Prop) (b off : Nat) (vs : List Value) : Prop :=
  ¬ M b ∧ ∃ c T fr, w.heap[b]? = some (.cells c T fr) ∧ ∀ j u, vs[j]? = some u → c[off + j]? = some u

/-- A slice of n elements, 'size' cells each, that holds the cells vs, outside M. -/
def SliceAt (w : World) (M : Nat → Prop) (size : Nat) (v : Value) (n : Nat) (vs : List Value) : Prop :=
  vs.length = n * size ∧ n ≤ maxLen ∧
  ((v = .slice none 0 0 ∧ n = 0) ∨ ∃ ad cap, v = .slice (some ad) n cap ∧ n ≤ cap ∧ cap ≤ maxLen ∧ (0 < n → ad.spot = none ∧ RowAt w M ad.block ad.off vs))

theorem RowAt.keeps {w w' : World} {M M' S : Nat → Prop} {b off : Nat} {vs : List Value} (h : RowAt w M b off vs) (hk : Keeps S w w')
    (hS : ∀ k, k < w.heap.size → S k → M k) (hM : ∀ k, k < w.heap.size → M' k → M k) : RowAt w' M' b off vs := by
  obtain ⟨hm, c, T, fr, hb, hc⟩ := h
  have hlt := lt_of_block hb
  exact ⟨fun x => hm (hM b hlt x), c, T, fr, hk.at_ hb (fun x => hm (hS b hlt x)), hc⟩
theorem SliceAt.keeps {w w' : World} {M M' S : Nat → Prop} {size : Nat} {v : Value} {n : Nat} {vs : List Value} (h : SliceAt w M size v n vs) (hk : Keeps S w w')
    (hS : ∀ k, k < w.heap.size → S k → M k) (hM : ∀ k, k < w.heap.size → M' k → M k) : SliceAt w' M' size v n vs := by
  obtain ⟨hl, hn, h⟩ := h
  refine ⟨hl, hn, ?_⟩
  rcases h with h | ⟨ad, cap, hv, h1, h2, hr⟩
  · exact .inl h
  · exact .inr ⟨ad, cap, hv, h1, h2, fun h0 => ⟨(hr h0).1, (hr h0).2.keeps hk hS hM⟩⟩
theorem RowAt.cell {w : World} {M : Nat → Prop} {b off : Nat} {vs : List Value} (h : RowAt w M b off vs) : ∀ j u, vs[j]? = some u → w.cell? ⟨b, off + j, none⟩ = some u := by
  obtain ⟨_, c, T, fr, hb, hc⟩ := h
  intro j u hu
  simp [World.cell?, hb, hc j u hu]
theorem SliceAt.nil (w : World) (M : Nat → Prop) (size : Nat) : SliceAt w M size (.slice none 0 0) 0 [] := ⟨by simp, Nat.zero_le _, .inl ⟨rfl, rfl⟩⟩
/-- A slice of the call's own, at rest. -/
theorem SliceAt.of_owns {w : World} {M : Nat → Prop} {base e size : Nat} {v : Value} {n : Nat} {xs : List Value} (h : w.ownsRow base e size v n xs) (hM : ∀ k, base ≤ k → ¬ M k) : SliceAt w M size v n xs := by
  obtain ⟨hl, h⟩ := h
  rcases h with ⟨rfl, rfl⟩ | ⟨g, cap, cur, rfl, hg, hh, hn, hc, hs, ht⟩
  · exact ⟨hl, Nat.zero_le _, .inl ⟨rfl, rfl⟩⟩
  · refine ⟨hl, Nat.le_trans hn hc, .inr ⟨_, cap, rfl, hn, hc, fun _ => ⟨rfl, hM g hg, cur, e, _, hh, fun j u hu => ?_⟩⟩⟩
    rw [← ht, List.getElem?_take] at hu
    split at hu
    · simpa using hu
    · cases hu

/-- A slice of one element, just made. -/
theorem SliceAt.one (w : World) (M : Nat → Prop) (size : Nat) (arr : Array Value) (T : TypeId) (hs : arr.size = size) (hM : ∀ j, M j → j < w.heap.size) :
    SliceAt (w.alloc (.cells arr T)) M size (.slice (some ⟨w.heap.size, 0, none⟩) 1 1) 1 arr.toList :=
  ⟨by simp [hs], by unfold maxLen; omega, .inr ⟨_, _, rfl, Nat.le_refl _, by unfold maxLen; omega, fun _ => ⟨rfl, fun h => by have := hM _ h; simp at this, _, _, _, heap_alloc_new _ _, fun j u hu => by simpa using hu⟩⟩⟩
/-- The same elements, under another capacity. -/
theorem SliceAt.recap {w : World} {M : Nat → Prop} {size : Nat} {a : Option Addr} {n c : Nat} {vs : List Value} (h : SliceAt w M size (.slice a n c) n vs) : SliceAt w M size (.slice a n n) n vs := by
  obtain ⟨hl, hn, h⟩ := h
  refine ⟨hl, hn, ?_⟩
  rcases h with ⟨h, h0⟩ | ⟨ad, cap, hv, h1, h2, hr⟩
  · simp at h; obtain ⟨rfl, _, _⟩ := h; subst h0; exact .inl ⟨rfl, rfl⟩
  · simp at hv; obtain ⟨rfl, _⟩ := hv; exact .inr ⟨ad, n, rfl, Nat.le_refl _, hn, hr⟩
theorem SliceAt.addr {w : World} {M : Nat → Prop} {size : Nat} {a : Option Addr} {n c : Nat} {vs : List Value} (h : SliceAt w M size (.slice a n c) n vs) (h0 : 0 < n) : ∃ b off, a = some ⟨b, off, none⟩ ∧ RowAt w M b off vs := by
  obtain ⟨hl, hn, h⟩ := h
  rcases h with ⟨h, h1⟩ | ⟨⟨b, off, sp⟩, cap, hv, h1, h2, hr⟩
  · omega
  · simp at hv
    obtain ⟨h3, h4⟩ := hr h0
    simp only at h3 h4
    subst h3
    exact ⟨b, off, hv.1, h4⟩
theorem SliceAt.mk {w : World} {M : Nat → Prop} {size b off n cap : Nat} {vs : List Value} (hl : vs.length = n * size) (h1 : n ≤ cap) (h2 : cap ≤ maxLen) (hr : 0 < n → RowAt w M b off vs) : SliceAt w M size (.slice (some ⟨b, off, none⟩) n cap) n vs :=
  ⟨hl, Nat.le_trans h1 h2, .inr ⟨_, cap, rfl, h1, h2, fun h => ⟨rfl, hr h⟩⟩⟩
theorem SliceAt.capOf {w : World} {M : Nat → Prop} {size : Nat} {a : Option Addr} {n c : Nat} {vs : List Value} (h : SliceAt w M size (.slice a n c) n vs) : n ≤ c ∧ c ≤ maxLen ∧ (a = none → n = 0 ∧ c = 0) := by
  obtain ⟨hl, hn, h⟩ := h
  rcases h with ⟨h, h0⟩ | ⟨ad, cap, hv, h1, h2, hr⟩
  · simp at h; obtain ⟨rfl, _, rfl⟩ := h; subst h0; exact ⟨Nat.le_refl _, Nat.zero_le _, fun _ => ⟨rfl, rfl⟩⟩
  · simp at hv; obtain ⟨rfl, rfl⟩ := hv; exact ⟨h1, h2, fun e => by cases e⟩

/-! ### append onto a slice without room -/

def Full (v : Value) (n : Nat) : Prop := v = .slice none 0 0 ∨ ∃ ad, v = .slice (some ad) n n

theorem SliceAt.lenOf {w : World} {M : Nat → Prop} {size : Nat} {v : Value} {n : Nat} {vs : List Value} (h : SliceAt w M size v n vs) : ∃ a cap, v = .slice a n cap := by
  obtain ⟨_, _, h⟩ := h
  rcases h with ⟨rfl, rfl⟩ | ⟨ad, cap, rfl, _⟩
  · exact ⟨_, _, rfl⟩
  · exact ⟨_, _, rfl⟩
theorem SliceAt.cells {w : World} {M : Nat → Prop} {size : Nat} {a : Addr} {n cap : Nat} {vs : List Value} (h : SliceAt w M size (.slice (some a) n cap) n vs) : ∀ j u, vs[j]? = some u → w.cell? (a.add j) = some u := by
  intro j u hu
  have hn : 0 < n := by
    rcases Nat.eq_zero_or_pos n with h0 | h0
    · have hl := h.1; subst h0; simp at hl; subst hl; simp at hu
    · exact h0
  obtain ⟨b, off, ha, hr⟩ := h.addr hn
  simp only [Option.some.injEq] at ha
  subst ha
  rw [Addr.add_lit]
  exact hr.cell j u hu

theorem ownsRow_new {w : World} {e size : Nat} {n cap : Nat} {xs : List Value} {arr : Array Value} (hl : xs.length = n * size) (hn : n ≤ cap) (hm : cap ≤ maxLen) (hs : arr.size = cap * size) (ht : arr.toList.take (n * size) = xs) :
    (w.alloc (.cells arr e)).ownsRow w.heap.size e size (.slice (some ⟨w.heap.size, 0, none⟩) n cap) n xs :=
  ⟨hl, .inr ⟨w.heap.size, cap, arr, rfl, Nat.le_refl _, heap_alloc_new w _, hn, hm, hs, ht⟩⟩

section
variable {P : Program} {t e : TypeId} {i : TypeInfo} {z : Value} {size bytes : Nat} (ht : P.underlying t = some (.slice e)) (hi : P.info? e = some i) (hz : i.zero = some z)
  (hsize : i.size = size) (hby : i.bytes = bytes) (hzs : z.cells.size = size)
include ht hi hz hsize hby hzs
theorem run_append_at {w : World} {M M' : Nat → Prop} {v y : Value} {n m : Nat} {xs ys : List Value} (ty : TypeId) (hv : SliceAt w M size v n xs) (hf : Full v n) (hy : SliceAt w M' size y m ys)
    (h63 : n + m ≤ maxLen) (hbytes : (n + m) * bytes ≤ 140737488355328) :
    ∃ v' w', (Builtin.append_ #[t, t] ty #[v, y]).run P w = .ok v' w' ∧ Keeps None w w' ∧ (m = 0 → v' = v ∧ w' = w) ∧ (0 < m → w'.ownsRow w.heap.size e size v' (n + m) (xs ++ ys)) := by
  subst hsize
  subst hby
  rcases Nat.eq_zero_or_pos m with hm | hm
  · subst hm
    obtain ⟨a, cap, rfl⟩ := hv.lenOf
    obtain ⟨a2, cap2, rfl⟩ := hy.lenOf
    have hc : n ≤ cap := by
      rcases hf with h | ⟨ad, h⟩ <;> simp at h <;> omega
    refine ⟨.slice a n cap, w, ?_, Keeps.refl _ _, fun _ => ⟨rfl, rfl⟩, fun h => absurd h (by omega)⟩
    cases a <;> cases a2 <;> simp [Builtin.append_, run_underlying ht, sizeOf, typeInfo, hi, Builtin.lenOf, hc, Builtin.firstCells, loadCells, loadCellsFrom, storeCells]
  · obtain ⟨a2, cap2, rfl⟩ := hy.lenOf
    obtain ⟨hyl, hym, hys⟩ := id hy
    obtain ⟨ad2, rfl⟩ : ∃ ad2, a2 = some ad2 := by
      rcases hys with ⟨h, h0⟩ | ⟨ad2, c, h, _⟩
      · omega
      · simp at h; exact ⟨_, h.1⟩
    have hcs := hy.cells
    have hmax : n + m ≤ 9223372036854775807 := by simp only [maxLen] at h63; omega
    have hxl := hv.1
    have hcap : ∀ old, (w.drew.alloc (.cells ((xs ++ ys).toArray ++ Builtin.zeroCells z.cells (grownCap w (n + m) old e - (n + m))) e)).ownsRow w.heap.size e i.size
        (.slice (some ⟨w.heap.size, 0, none⟩) (n + m) (grownCap w (n + m) old e)) (n + m) (xs ++ ys) := by
      intro old
      have hge := grownCap_ge w (n + m) old e
      have hlen : (xs ++ ys).length = (n + m) * i.size := by rw [List.length_append, hxl, hyl, Nat.add_mul]
      refine ownsRow_new (w := w.drew) hlen hge (grownCap_le_maxLen w (n + m) old e h63) ?_ ?_
      · simp only [Array.size_append, List.size_toArray, size_zeroCells, hzs, hlen, ← Nat.add_mul]
        congr 1; omega
      · simp only [Array.toList_append]
        rw [← hlen]; exact List.take_left
    rcases hf with rfl | ⟨ad, rfl⟩
    · obtain ⟨hn0, hx0⟩ : n = 0 ∧ xs = [] := by
        rcases hv.2.2 with ⟨_, h0⟩ | ⟨ad, c, h, _⟩
        · subst h0; exact ⟨rfl, List.eq_nil_of_length_eq_zero (by simpa using hxl)⟩
        · simp at h
      subst hn0 hx0
      have hr := run_append_nil (P := P) w t ty e i z ht hi hz ad2 m cap2 ys hyl hcs hm (by omega) (by simp only [Nat.zero_add] at hbytes; omega)
      have hown := hcap 0
      simp only [Nat.zero_add, List.nil_append] at hown ⊢
      exact ⟨_, _, hr, (Keeps.refl _ _).drew.alloc _, fun h => absurd h (by omega), fun _ => hown⟩
    · have hr := run_append_grow (P := P) w t ty e i z ht hi hz ad n n xs hxl hv.cells ad2 m cap2 ys hyl hcs (by omega) (by omega) (growslice_fits (by omega) hbytes)
      have hown := hcap n
      simp only [← List.append_toArray] at hown
      exact ⟨_, _, hr, (Keeps.refl _ _).drew.alloc _, fun h => absurd h (by omega), fun _ => hown⟩
omit ht hi hz hsize hby hzs in
/-- What an append leaves, at rest. -/
theorem SliceAt.of_append {w w' : World} {M : Nat → Prop} {v v' : Value} {n m : Nat} {xs ys : List Value} (hv : SliceAt w M size v n xs) (hys : ys.length = m * size) (hM : ∀ j, M j → j < w.heap.size)
    (h0 : m = 0 → v' = v ∧ w' = w) (h1 : 0 < m → w'.ownsRow w.heap.size e size v' (n + m) (xs ++ ys)) : SliceAt w' M size v' (n + m) (xs ++ ys) := by
  rcases Nat.eq_zero_or_pos m with hm | hm
  · subst hm
    obtain ⟨rfl, rfl⟩ := h0 rfl
    have : ys = [] := List.eq_nil_of_length_eq_zero (by simpa using hys)
    subst this
    simpa using hv
  · exact SliceAt.of_owns (h1 hm) (fun k hk hMk => by have := hM k hMk; omega)
/-- AT THE OPERATION. -/
theorem wpList_append_at {ops : Array Oper} {rest : List Oper} {o : Oper} {a : Act} {Q : Exit → Act → World → Prop} {w : World} (hgd : o.guard = none) (s x : Operand)
    (ho : o.op = .call { callee := .builtin .append, args := #[s, x], argTypes := #[t, t] })
    {M M' : Nat → Prop} {v y : Value} {n m : Nat} {xs ys : List Value} (hs : a.eval s = v) (hx : a.eval x = y) (hv : SliceAt w M size v n xs) (hf : Full v n) (hy : SliceAt w M' size y m ys)
    (h63 : n + m ≤ maxLen) (hbytes : (n + m) * bytes ≤ 140737488355328)
    (h : ∀ v' w', Keeps None w w' → (m = 0 → v' = v ∧ w' = w) → (0 < m → w'.ownsRow w.heap.size e size v' (n + m) (xs ++ ys)) → wpList P ops Q rest (a.put o.dst v') w') : wpList P ops Q (o :: rest) a w :=
  wpList_plain hgd fun K hK => by
    obtain ⟨v', w', hr, h2, h3, h4⟩ := run_append_at ht hi hz hsize hby hzs o.type hv hf hy h63 hbytes
    unfold Oper.wp execOp
    simp only [ho, resolve, invoke, builtin, Sem.run_bind, Sem.run_pure, Result.andThen_ok, List.map_toArray, List.map_cons, List.map_nil, hs, hx, hr]
    exact hK _ _ (h v' w' h2 h3 h4)
end

/-! ### maps keyed by ints -/

/-- The entries of a map keyed by ints, as pairs, in the order in which they lie. -/
structure IsMap (es : Array MapEntry) (clock : Nat) (m : List (Int × Value)) : Prop where
  pairs : es.toList.map (fun e => (e.key, e.val)) = m.map (fun p => (Value.int .i64 p.1, p.2))
  stamped : Stamped es clock

/-- Block b of w is a map keyed by ints, with the entries m. -/
def MapAt (w : World) (b : Nat) (m : List (Int × Value)) : Prop := ∃ es clock, w.heap[b]? = some (.map es clock) ∧ IsMap es clock m

section alist
variable {β : Type}
def look : List (Int × β) → Int → Option β
  | [], _ => none
  | p :: m, k => if p.1 = k then some p.2 else look m k
/-- m[k] = v. -/
def put : List (Int × β) → Int → β → List (Int × β)
  | [], k, v => [(k, v)]
  | p :: m, k, v => if p.1 = k then (k, v) :: m else p :: put m k v
/-- delete(m, k). -/
def del : List (Int × β) → Int → List (Int × β)
  | [], _ => []
  | p :: m, k => if p.1 = k then m else p :: del m k
def keys (m : List (Int × β)) : List Int := m.map (·.1)

theorem look_none {m : List (Int × β)} {k : Int} (h : k ∉ keys m) : look m k = none := by
  induction m with
  | nil => rfl
  | cons p m ih =>
    simp only [keys, List.map_cons, List.mem_cons, not_or] at h
    rw [look, if_neg (fun e => h.1 e.symm)]
    exact ih h.2
theorem put_new {m : List (Int × β)} {k : Int} {v : β} (h : k ∉ keys m) : put m k v = m ++ [(k, v)] := by
  induction m with
  | nil => rfl
  | cons p m ih =>
    simp only [keys, List.map_cons, List.mem_cons, not_or] at h
    rw [put, if_neg (fun e => h.1 e.symm), ih h.2]
    rfl
theorem del_none {m : List (Int × β)} {k : Int} (h : k ∉ keys m) : del m k = m := by
  induction m with
  | nil => rfl
  | cons p m ih =>
    simp only [keys, List.map_cons, List.mem_cons, not_or] at h
    rw [del, if_neg (fun e => h.1 e.symm), ih h.2]
theorem look_at {m : List (Int × β)} (hn : (keys m).Nodup) {j : Nat} {p : Int × β} (h : m[j]? = some p) : look m p.1 = some p.2 := by
  induction m generalizing j with
  | nil => simp at h
  | cons q m ih =>
    simp only [keys, List.map_cons, List.nodup_cons] at hn
    cases j with
    | zero => simp at h; subst h; simp [look]
    | succ j =>
      simp at h
      rw [look, if_neg ?_]
      · exact ih hn.2 h
      · intro e; exact hn.1 (e ▸ List.mem_map.2 ⟨p, List.mem_of_getElem? h, rfl⟩)
theorem put_at {m : List (Int × β)} (hn : (keys m).Nodup) {j : Nat} {p : Int × β} (h : m[j]? = some p) (v : β) : put m p.1 v = m.set j (p.1, v) := by
  induction m generalizing j with
  | nil => simp at h
  | cons q m ih =>
    simp only [keys, List.map_cons, List.nodup_cons] at hn
    cases j with
    | zero => simp at h; subst h; simp [put]
    | succ j =>
      simp at h
      rw [put, if_neg ?_]
      · rw [ih hn.2 h]; rfl
      · intro e; exact hn.1 (e ▸ List.mem_map.2 ⟨p, List.mem_of_getElem? h, rfl⟩)
theorem del_at {m : List (Int × β)} (hn : (keys m).Nodup) {j : Nat} {p : Int × β} (h : m[j]? = some p) : del m p.1 = m.eraseIdx j := by
  induction m generalizing j with
  | nil => simp at h
  | cons q m ih =>
    simp only [keys, List.map_cons, List.nodup_cons] at hn
    cases j with
    | zero => simp at h; subst h; simp [del]
    | succ j =>
      simp at h
      rw [del, if_neg ?_]
      · rw [ih hn.2 h]; rfl
      · intro e; exact hn.1 (e ▸ List.mem_map.2 ⟨p, List.mem_of_getElem? h, rfl⟩)
end alist

theorem IsMap.nodup {es : Array MapEntry} {clock : Nat} {m : List (Int × Value)} (h : IsMap es clock m) : (keys m).Nodup := by
  have h3 := h.stamped.2.2
  have e : es.toList.map (·.key) = (keys m).map (Value.int .i64) := by
    have := congrArg (List.map Prod.fst) h.pairs
    simpa [keys, List.map_map, Function.comp_def] using this
  rw [e] at h3
  exact List.Pairwise.of_map (Value.int .i64) (fun a b hab e => hab (by rw [e])) h3
theorem IsMap.isKey {es : Array MapEntry} {clock : Nat} {m : List (Int × Value)} (h : IsMap es clock m) : ∀ x ∈ es.toList, IsKey (.int .i64) x.key := by
  intro x hx
  have : (x.key, x.val) ∈ m.map (fun p => (Value.int .i64 p.1, p.2)) := h.pairs ▸ List.mem_map.2 ⟨x, hx, rfl⟩
  obtain ⟨p, _, hp⟩ := List.mem_map.1 this
  simp only [Prod.mk.injEq] at hp
  rw [← hp.1]
  exact rfl
theorem IsMap.entry {es : Array MapEntry} {clock : Nat} {m : List (Int × Value)} (h : IsMap es clock m) {j : Nat} {e : MapEntry} (he : es.toList[j]? = some e) : ∃ p, m[j]? = some p ∧ e.key = .int .i64 p.1 ∧ e.val = p.2 := by
  have := congrArg (fun l => l[j]?) h.pairs
  simp only [List.getElem?_map, he, Option.map_some] at this
  cases hm : m[j]? with
  | none => rw [hm] at this; simp at this
  | some p => rw [hm] at this; simp at this; exact ⟨p, rfl, this.1, this.2⟩
theorem IsMap.notin {es : Array MapEntry} {clock : Nat} {m : List (Int × Value)} (h : IsMap es clock m) {k : Int} (hk : ∀ x ∈ es.toList, x.key ≠ .int .i64 k) : k ∉ keys m := by
  intro hm
  obtain ⟨p, hp, rfl⟩ := List.mem_map.1 hm
  have : (Value.int .i64 p.1, p.2) ∈ es.toList.map (fun e => (e.key, e.val)) := h.pairs ▸ List.mem_map.2 ⟨p, hp, rfl⟩
  obtain ⟨x, hx, he⟩ := List.mem_map.1 this
  simp only [Prod.mk.injEq] at he
  exact hk x hx he.1

section
variable {P : Program} {t K E : TypeId} (ht : P.underlying t = some (.map K E)) (hK : P.underlying K = some (.int .i64)) {w : World} {b : Nat} {es : Array MapEntry} {clock : Nat} {m : List (Int × Value)}
  (hb : w.heap[b]? = some (.map es clock)) (hm : IsMap es clock m)
include ht hK hb hm
theorem run_look {z : Value} (hz : (zeroValue E).run P w = .ok z w) (k : Int) (c : Bool) :
    (Instr.lookup t (.map (some b)) (.int .i64 k) c).run P w = .ok (if c then .tuple #[(look m k).getD z, .bool (look m k).isSome] else (look m k).getD z) w := by
  have hk : IsKey (.int .i64) (.int .i64 k) := rfl
  rcases findNow_spec hk es.toList 0 hm.isKey with ⟨h1, h2⟩ | ⟨j, e, h1, h2, h3⟩
  · simp [Instr.lookup, run_underlying ht, MapKept.run_getObj_map hb, run_checkKey hK hk, run_findKey hK h1, Result.andThen, hz, look_none (hm.notin h2)]
  · obtain ⟨p, hp, hk', hv⟩ := hm.entry h2
    rw [h3] at hk'
    simp only [Value.int.injEq, true_and] at hk'
    subst hk'
    simp [Instr.lookup, run_underlying ht, MapKept.run_getObj_map hb, run_checkKey hK hk, run_findKey hK h1, Result.andThen, look_at hm.nodup hp, hv]
theorem run_put (k : Int) (v : Value) : ∃ es' clock', (Instr.mapUpdate t (.map (some b)) (.int .i64 k) v).run P w = .ok () (setBlock w b (.map es' clock')) ∧ IsMap es' clock' (put m k v) := by
  have hk : IsKey (.int .i64) (.int .i64 k) := rfl
  rcases findNow_spec hk es.toList 0 hm.isKey with ⟨h1, h2⟩ | ⟨j, e, h1, h2, h3⟩
  · refine ⟨es.push ⟨.int .i64 k, v, clock⟩, clock + 1, ?_, ?_, stamped_push hm.stamped h2⟩
    · simp [Instr.mapUpdate, run_underlying ht, MapKept.run_getObj_map hb, run_checkKey hK hk, run_findKey hK h1, MapKept.run_setObj_map _ hb, Result.andThen, setBlock]
    · simp [hm.pairs, put_new (hm.notin h2)]
  · have hj : es[j]? = some e := by simpa using h2
    obtain ⟨p, hp, hk', hv⟩ := hm.entry h2
    rw [h3] at hk'
    simp only [Value.int.injEq, true_and] at hk'
    subst hk'
    have hkeyf : ∀ e', es[j]? = some e' → ({ e' with key := .int .i64 p.1, val := v } : MapEntry).key = e'.key := fun e' he' => by rw [hj] at he'; cases he'; exact h3.symm
    refine ⟨es.modify j (fun e' => { e' with key := .int .i64 p.1, val := v }), clock, ?_, ?_, stamped_modify hm.stamped _ _ (fun _ _ => rfl) (fun e' _ he' => hkeyf e' he')⟩
    · simp [Instr.mapUpdate, run_underlying ht, MapKept.run_getObj_map hb, run_checkKey hK hk, run_findKey hK h1, hj, h3, run_keyThatStays hk, MapKept.run_setObj_map _ hb, Result.andThen, setBlock]
    · rw [Array.toList_modify, ChangeMaps.modify_eq_set _ _ _ _ h2, List.map_set, hm.pairs, put_at hm.nodup hp, List.map_set]
theorem run_del (ty : TypeId) (k : Int) : ∃ es', (Builtin.delete_ #[t, K] ty #[.map (some b), .int .i64 k]).run P w = .ok (.tuple #[]) (setBlock w b (.map es' clock)) ∧ IsMap es' clock (del m k) := by
  have hk : IsKey (.int .i64) (.int .i64 k) := rfl
  rcases findNow_spec hk es.toList 0 hm.isKey with ⟨h1, h2⟩ | ⟨j, e, h1, h2, h3⟩
  · refine ⟨es, ?_, by rw [del_none (hm.notin h2)]; exact hm⟩
    simp [Builtin.delete_, run_underlying ht, MapKept.run_getObj_map hb, run_checkKey hK hk, run_findKey hK h1, MapKept.run_setObj_map _ hb, Result.andThen, setBlock]
  · obtain ⟨p, hp, hk', hv⟩ := hm.entry h2
    rw [h3] at hk'
    simp only [Value.int.injEq, true_and] at hk'
    subst hk'
    have hlt : j < es.size := by have := (List.getElem?_eq_some_iff.1 h2).1; simpa using this
    have e1 : (es.eraseIdxIfInBounds j).toList = es.toList.eraseIdx j := by simp [Array.eraseIdxIfInBounds, hlt]
    refine ⟨es.eraseIdxIfInBounds j, ?_, ?_, ?_⟩
    · simp [Builtin.delete_, run_underlying ht, MapKept.run_getObj_map hb, run_checkKey hK hk, run_findKey hK h1, MapKept.run_setObj_map _ hb, Result.andThen, setBlock]
    · rw [e1, ChangeMaps.map_eraseIdx, hm.pairs, del_at hm.nodup hp, ChangeMaps.map_eraseIdx]
    · have hs := hm.stamped
      refine ⟨fun x hx => hs.1 x ?_, ?_, ?_⟩
      · rw [e1] at hx; exact (List.eraseIdx_sublist _ _).subset hx
      · rw [e1]; exact hs.2.1.sublist ((List.eraseIdx_sublist _ _).map _)
      · rw [e1]; exact hs.2.2.sublist ((List.eraseIdx_sublist _ _).map _)
end

/-! ### two lists, place by place -/
section
variable {α β : Type}
def All2 (R : α → β → Prop) : List α → List β → Prop
  | [], [] => True
  | a :: l, b :: m => R a b ∧ All2 R l m
  | _, _ => False
theorem All2.length {R : α → β → Prop} : ∀ {l : List α} {m : List β}, All2 R l m → l.length = m.length
  | [], [], _ => rfl
  | _ :: _, _ :: _, h => by simp [All2.length h.2]
  | [], _ :: _, h => h.elim
  | _ :: _, [], h => h.elim
theorem All2.mono {R R' : α → β → Prop} (hr : ∀ a b, R a b → R' a b) : ∀ {l : List α} {m : List β}, All2 R l m → All2 R' l m
  | [], [], _ => trivial
  | _ :: _, _ :: _, h => ⟨hr _ _ h.1, All2.mono hr h.2⟩
  | [], _ :: _, h => h.elim
  | _ :: _, [], h => h.elim
theorem All2.append {R : α → β → Prop} : ∀ {l : List α} {m : List β} {l' : List α} {m' : List β}, All2 R l m → All2 R l' m' → All2 R (l ++ l') (m ++ m')
  | [], [], _, _, _, h => h
  | _ :: _, _ :: _, _, _, h, h' => ⟨h.1, All2.append h.2 h'⟩
  | [], _ :: _, _, _, h, _ => h.elim
  | _ :: _, [], _, _, h, _ => h.elim
theorem All2.get {R : α → β → Prop} : ∀ {l : List α} {m : List β}, All2 R l m → ∀ {j : Nat} {b : β}, m[j]? = some b → ∃ a, l[j]? = some a ∧ R a b
  | [], [], _, _, _, h => by simp at h
  | a :: _, _ :: _, h, 0, b, hb => by simp at hb; subst hb; exact ⟨a, rfl, h.1⟩
  | _ :: _, _ :: _, h, j + 1, b, hb => by simp at hb; simpa using All2.get h.2 hb
  | [], _ :: _, h, _, _, _ => h.elim
  | _ :: _, [], h, _, _, _ => h.elim
theorem All2.getL {R : α → β → Prop} : ∀ {l : List α} {m : List β}, All2 R l m → ∀ {j : Nat} {a : α}, l[j]? = some a → ∃ b, m[j]? = some b ∧ R a b
  | [], [], _, _, _, h => by simp at h
  | _ :: _, b :: _, h, 0, a, ha => by simp at ha; subst ha; exact ⟨b, rfl, h.1⟩
  | _ :: _, _ :: _, h, j + 1, a, ha => by simp at ha; simpa using All2.getL h.2 ha
  | [], _ :: _, h, _, _, _ => h.elim
  | _ :: _, [], h, _, _, _ => h.elim
end

/-- Two lists of pairs with the same keys, the values related. -/
def RelMap {β γ : Type} (R : β → γ → Prop) : List (Int × β) → List (Int × γ) → Prop := All2 (fun p q => p.1 = q.1 ∧ R p.2 q.2)
section
variable {β γ : Type} {R : β → γ → Prop}
theorem RelMap.keys : ∀ {m : List (Int × β)} {L : List (Int × γ)}, RelMap R m L → keys m = keys L
  | [], [], _ => rfl
  | _ :: _, _ :: _, h => by
    have := RelMap.keys h.2
    simp only [Ythdnbdbnlbebeaa.keys, List.map_cons, h.1.1] at this ⊢
    rw [this]
  | [], _ :: _, h => h.elim
  | _ :: _, [], h => h.elim
theorem RelMap.look : ∀ {m : List (Int × β)} {L : List (Int × γ)}, RelMap R m L → ∀ k, (look m k = .none ∧ look L k = .none) ∨ ∃ v x, look m k = some v ∧ look L k = some x ∧ R v x
  | [], [], _, _ => .inl ⟨rfl, rfl⟩
  | p :: m, q :: L, h, k => by
    by_cases hk : p.1 = k
    · exact .inr ⟨p.2, q.2, by simp [Ythdnbdbnlbebeaa.look, hk], by simp [Ythdnbdbnlbebeaa.look, ← h.1.1, hk], h.1.2⟩
    · simp only [Ythdnbdbnlbebeaa.look, ← h.1.1, if_neg hk]
      exact RelMap.look h.2 k
  | [], _ :: _, h, _ => h.elim
  | _ :: _, [], h, _ => h.elim
theorem RelMap.put : ∀ {m : List (Int × β)} {L : List (Int × γ)}, RelMap R m L → ∀ {k : Int} {v : β} {x : γ}, R v x → RelMap R (put m k v) (put L k x)
  | [], [], _, _, _, _, hx => ⟨⟨rfl, hx⟩, trivial⟩
  | p :: m, q :: L, h, k, v, x, hx => by
    by_cases hk : p.1 = k
    · simp only [Ythdnbdbnlbebeaa.put, ← h.1.1, if_pos hk]; exact ⟨⟨rfl, hx⟩, h.2⟩
    · simp only [Ythdnbdbnlbebeaa.put, ← h.1.1, if_neg hk]; exact ⟨h.1, RelMap.put h.2 hx⟩
  | [], _ :: _, h, _, _, _, _ => h.elim
  | _ :: _, [], h, _, _, _, _ => h.elim
theorem RelMap.del : ∀ {m : List (Int × β)} {L : List (Int × γ)}, RelMap R m L → ∀ (k : Int), RelMap R (del m k) (del L k)
  | [], [], _, _ => trivial
  | p :: m, q :: L, h, k => by
    by_cases hk : p.1 = k
    · simp only [Ythdnbdbnlbebeaa.del, ← h.1.1, if_pos hk]; exact h.2
    · simp only [Ythdnbdbnlbebeaa.del, ← h.1.1, if_neg hk]; exact ⟨h.1, RelMap.del h.2 k⟩
  | [], _ :: _, h, _ => h.elim
  | _ :: _, [], h, _ => h.elim
theorem RelMap.mono {R' : β → γ → Prop} (hr : ∀ a b, R a b → R' a b) {m : List (Int × β)} {L : List (Int × γ)} (h : RelMap R m L) : RelMap R' m L := All2.mono (fun _ _ h => ⟨h.1, hr _ _ h.2⟩) h
end

section
variable {β : Type}
theorem look_put_same (m : List (Int × β)) (k : Int) (v : β) : look (put m k v) k = some v := by
  induction m with
  | nil => simp [put, look]
  | cons p m ih => by_cases h : p.1 = k <;> simp [put, look, h, ih]
theorem look_put_other (m : List (Int × β)) {k j : Int} (v : β) (h : j ≠ k) : look (put m k v) j = look m j := by
  induction m with
  | nil => simp [put, look, Ne.symm h]
  | cons p m ih =>
    by_cases hp : p.1 = k
    · simp [put, look, hp, Ne.symm h]
    · by_cases hj : p.1 = j
      · simp only [put, if_neg hp, look, if_pos hj]
      · simp only [put, if_neg hp, look, if_neg hj, ih]
theorem look_del_other (m : List (Int × β)) {k j : Int} (h : j ≠ k) : look (del m k) j = look m j := by
  induction m with
  | nil => rfl
  | cons p m ih =>
    by_cases hp : p.1 = k
    · simp [del, look, hp, Ne.symm h]
    · by_cases hj : p.1 = j
      · simp only [del, if_neg hp, look, if_pos hj]
      · simp only [del, if_neg hp, look, if_neg hj, ih]
theorem keys_put (m : List (Int × β)) (k : Int) (v : β) : keys (put m k v) = if k ∈ keys m then keys m else keys m ++ [k] := by
  induction m with
  | nil => simp [put, keys]
  | cons p m ih =>
    by_cases hp : p.1 = k
    · simp [put, keys, hp]
    · have h1 : keys (put (p :: m) k v) = p.1 :: keys (put m k v) := by simp [put, hp, keys]
      rw [h1, ih]
      have h2 : (k ∈ keys (p :: m)) ↔ k ∈ keys m := by simp [keys, Ne.symm hp]
      by_cases hk : k ∈ keys m
      · rw [if_pos hk, if_pos (h2.2 hk)]; rfl
      · rw [if_neg hk, if_neg (fun x => hk (h2.1 x))]; rfl
theorem nodup_put {m : List (Int × β)} (h : (keys m).Nodup) (k : Int) (v : β) : (keys (put m k v)).Nodup := by
  rw [keys_put]
  split
  · exact h
  · rename_i hk
    rw [List.nodup_append]
    exact ⟨h, by simp, fun a ha b hb => by simp at hb; subst hb; exact fun e => hk (e ▸ ha)⟩
theorem keys_del_sub (m : List (Int × β)) (k : Int) : (keys (del m k)).Sublist (keys m) := by
  induction m with
  | nil => exact List.Sublist.refl _
  | cons p m ih =>
    by_cases hp : p.1 = k
    · simp only [del, if_pos hp]; exact List.sublist_cons_self _ _
    · simp only [del, if_neg hp]; exact ih.cons_cons _
theorem nodup_del {m : List (Int × β)} (h : (keys m).Nodup) (k : Int) : (keys (del m k)).Nodup := h.sublist (keys_del_sub m k)
theorem look_del_same {m : List (Int × β)} (h : (keys m).Nodup) (k : Int) : look (del m k) k = .none := by
  induction m with
  | nil => rfl
  | cons p m ih =>
    simp only [keys, List.map_cons, List.nodup_cons] at h
    by_cases hp : p.1 = k
    · simp only [del, if_pos hp]; exact look_none (hp ▸ h.1)
    · simp only [del, if_neg hp, look]; exact ih h.2
theorem look_mem {m : List (Int × β)} {k : Int} {v : β} (h : look m k = some v) : (k, v) ∈ m := by
  induction m with
  | nil => simp [look] at h
  | cons p m ih =>
    by_cases hp : p.1 = k
    · simp [look, hp] at h; subst h; subst hp; exact List.mem_cons_self
    · simp only [look, if_neg hp] at h; exact List.mem_cons_of_mem _ (ih h)
theorem look_isSome {m : List (Int × β)} {k : Int} : (look m k).isSome = true ↔ k ∈ keys m := by
  constructor
  · intro h
    obtain ⟨v, hv⟩ := Option.isSome_iff_exists.1 h
    exact List.mem_map.2 ⟨_, look_mem hv, rfl⟩
  · intro h
    cases hl : look m k with
    | some v => rfl
    | none =>
      exfalso
      induction m with
      | nil => simp [keys] at h
      | cons p m ih =>
        by_cases hp : p.1 = k
        · simp [look, hp] at hl
        · simp only [look, if_neg hp] at hl
          simp only [keys, List.map_cons, List.mem_cons] at h
          rcases h with h | h
          · exact hp h.symm
          · exact ih h hl
end

end Go.Proofs.Ythdnbdbnlbebeaa
