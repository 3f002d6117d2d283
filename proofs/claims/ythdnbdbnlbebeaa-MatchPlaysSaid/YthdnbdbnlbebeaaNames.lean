/- The contract of match.Lists.Names at int: the keys, sorted. -/
import Derived.Test.YthdnbdbnlbebeaaShelfP
import Derived.Test.YthdnbdbnlbebeaaLI
import Derived.WalkKit
import Derived.OwnWalkIn
import Derived.TacticsInMore
namespace Go.Proofs.Ythdnbdbnlbebeaa.LI
open Go Go.RowKit Go.MapKept Go.Proofs.Ythdnbdbnlbebeaa Go.Sort Go.Shelf Go.Maps
open Go.WideElems (Fit rd rg)

theorem sortsA (m : Nat) : AnyZI.SortsIn Try.prog Try.sortedA_ren Fence.wide m :=
  ⟨fun blk off cap ss W hH hblk hsz => callsIn_wide.2 (AnyM.slices_Sort_int Try.sortA blk off cap ss W hH hblk hsz),
   fun p cap W => callsIn_wide.2 (AnyM.slices_Sort_int_none Try.sortA p cap W)⟩

/-- How an element reads, nothing being asked of it. -/
def anyElem (_ : Value) : Option (DataW Unit × List MemPlace) := some (.nil, [])

theorem _root_.Go.WideElems.rd_mk_of {x : MapEntry} {kl : Lit} (hkey : keyOf Try.prog 3 x.key = some kl) : rd Try.prog 3 anyElem x = some (kl, .nil) := by
  unfold WideElems.rd
  rw [hkey]
  rfl

theorem owns_of_map {w : World} {b : Nat} {es : Array MapEntry} {clock : Nat} {m : List (Int × Value)} (hb : w.heap[b]? = some (.map es clock)) (hm : IsMap es clock m) (hk : ∀ k ∈ keys m, (Lit.int .i64 k).wf = true) (hs : m.length ≤ maxLen) :
    ∃ D0, w.ownsMap Try.prog 3 anyElem b m.length D0 ∧ (intKeys D0).Perm (keys m) ∧ Maps.size D0 = m.length := by
  have hlen : es.size = m.length := by
    have := congrArg List.length hm.pairs
    simpa using this
  have hrd : ∀ x ∈ es.toList, ∃ k : Int, x.key = .int .i64 k ∧ rd Try.prog 3 anyElem x = some (.int .i64 k, .nil) := by
    intro x hx
    have : (x.key, x.val) ∈ m.map (fun p => (Value.int .i64 p.1, p.2)) := hm.pairs ▸ List.mem_map.2 ⟨x, hx, rfl⟩
    obtain ⟨p, hp, he⟩ := List.mem_map.1 this
    simp only [Prod.mk.injEq] at he
    refine ⟨p.1, he.1.symm, ?_⟩
    have hw := hk p.1 (List.mem_map.2 ⟨p, hp, rfl⟩)
    exact WideElems.rd_mk_of (by rw [← he.1]; exact Maps.keyOf_int_mk Try.underlying3 hw)
  refine ⟨_, ⟨es, clock, hb, ⟨by omega, hm.stamped, fun x hx => by obtain ⟨k, _, h⟩ := hrd x hx; exact ⟨_, h⟩⟩, by omega, rfl⟩, ?_, ?_⟩
  · simp only [intKeys]
    have hp := (WideShapes.sorted_perm (es.toList.map (rg Try.prog 3 anyElem))).map (fun p => Go.intOf p.1)
    refine hp.trans (List.Perm.of_eq ?_)
    rw [List.map_map]
    have e : keys m = es.toList.map (fun e => RowKit.intOf e.key) := by
      have := congrArg (List.map (fun q : Value × Value => RowKit.intOf q.1)) hm.pairs
      rw [List.map_map, List.map_map] at this
      exact this.symm
    rw [e]
    refine List.map_congr_left fun x hx => ?_
    obtain ⟨k, h1, h2⟩ := hrd x hx
    have h3 := WideElems.rg_of h2
    simp only [Function.comp, h3, h1]
    rfl
  · simp only [Maps.size]
    rw [length_sorted, List.length_map, Array.length_toList]; exact hlen

theorem sorted_keys {ss ks : List Int} (h : ss.Perm ks) (hn : ks.Nodup) : let r := ss.mergeSort (fun x y => decide (x ≤ y)); r.Perm ks ∧ r.Pairwise (· < ·) := by
  have h1 : (ss.mergeSort (fun x y => decide (x ≤ y))).Perm ks := (List.mergeSort_perm ss _).trans h
  refine ⟨h1, ?_⟩
  have h2 := List.pairwise_mergeSort (le := fun x y : Int => decide (x ≤ y)) (by intro a b c; simp; omega) (by intro a b; simp; omega) ss
  have h3 : (ss.mergeSort (fun x y => decide (x ≤ y))).Nodup := h1.nodup_iff.2 hn
  exact (h2.and h3).imp (by intro a b; simp; omega)

set_option maxRecDepth 100000 in
set_option maxHeartbeats 1000000 in
theorem names {w : World} {M : Nat → Prop} {p b : Nat} {most : Int} {L : List (Int × List Int)} (h : ListsAt w M p b most L) (hM : ∀ i, M i → i < w.heap.size)
    (hw : ∀ k ∈ keys L, (Lit.int .i64 k).wf = true) (hs : L.length ≤ 65536) (hn : (keys L).Nodup) :
    Calls Try.prog 13 #[.pointer (some ⟨p, 0, none⟩)] w fun e w' => ∃ (v : Value) (ks : List Int), e = .returned v ∧ Keeps None w w' ∧ ks.Perm (keys L) ∧ ks.Pairwise (· < ·) ∧ SliceAt w' M 1 v ks.length (ks.map (.int .i64)) := by
  obtain ⟨c0, c1⟩ := h.cells
  obtain ⟨hp, es, clock, m, hb, hm, hr⟩ := h
  have hkeys : keys m = keys L := RelMap.keys hr
  have hlen : m.length = L.length := All2.length hr
  obtain ⟨D0, hown, hperm, hsize⟩ := owns_of_map hb hm (by rw [hkeys]; exact hw) (by rw [hlen]; unfold maxLen; omega)
  rw [hkeys] at hperm
  have hbl := hown.lt
  have hmax : Maps.size D0 ≤ maxLen := by rw [hsize, hlen]; unfold maxLen; omega
  have hbytes : Maps.size D0 * 8 ≤ 140737488355328 := by rw [hsize, hlen]; omega
  refine (callsIn_wide (n := 6)).1 ?_
  have hseq : SeqGives Fence.wide 2 Try.prog 44 #[.pointer (some ⟨w.heap.size, 0, none⟩)] encZ (fun ss => ss.Perm (intKeys D0)) (Maps.size D0) (w.alloc (.cells #[.map (some b)] 53)) :=
    AnyZI.keys_gives (ρ := Try.keysA_ren) { Try.keysA with } Fence.wide _ trivial rfl (by omega) w.heap.size b _ D0 _ (by simp) (by simp) (by
      obtain ⟨es, clock, hb, Ft, hs, hD⟩ := hown
      exact ⟨es, clock, (Below.heap_alloc _ _ b hbl).trans hb, Ft, hs, hD⟩)
  have cK : ∀ mb W, CallsIn Fence.wide 5 Try.prog 34 #[.map mb] W fun e w' => e = .returned (.func (.func 44) #[] #[.pointer (some ⟨W.heap.size, 0, none⟩)]) ∧ w' = W.alloc (.cells #[.map mb] 53) := fun mb W => AnyZI.keys_in Try.keysA Fence.wide 5 trivial rfl mb W
  have cS := AnyZI.sorted_in Try.sortedA Fence.wide 5 trivial trivial trivial trivial rfl (by omega) (sortsA _) (enters_of Try.func43 (by kernel_rfl) rfl) 44 #[.pointer (some ⟨w.heap.size, 0, none⟩)] trivial (enters_of Try.func44 (by kernel_rfl) rfl) _ _ hmax hbytes _ hseq
  change CallsIn _ _ Try.prog 33 _ _ _ at cS
  have hfK : Fence.wide.fn 34 := trivial
  have hfS : Fence.wide.fn 33 := trivial
  have HP := hid hperm; have HN := hid hn; have HM := hid hM
  clear hperm hn hM hw hs hmax hbytes hsize hkeys hlen hm hr hb hp hown hseq
  refine callsIn_of_wp Try.func13 rfl trivial ?_ rfl
  simp only [Try.ntmps13, List.size_toArray, List.length_cons, List.length_nil, Nat.reduceAdd, Nat.reduceSub, Array.replicate_succ, Array.replicate_zero, List.push_toArray, List.append_toArray, List.nil_append, List.cons_append]
  gi_wp2_with (first
    | (gi_at_call 34; refine (cK _ _).mono ?_; rintro e w' ⟨rfl, rfl⟩)
    | (gi_at_call 33; refine cS.mono ?_; rintro e w' ⟨v, ss, rfl, hS, hrow, hnil, hb⟩; have HS := hid hS; have HR := hid hrow; have HB := hid hb; clear hS hrow hnil hb))
  go_ret
  obtain ⟨h1, h2⟩ := sorted_keys (HS.out.trans HP.out) HN.out
  refine ⟨v, _, rfl, ?_, h1, h2, ?_⟩
  · exact Keeps.of_below (((Below.refl _ w).alloc (Nat.le_refl _) _).trans (HB.out.mono (by simp)))
  · have := SliceAt.of_owns (M := M) HR.out (fun k hk hMk => by have := HM.out k hMk; simp at hk; omega)
    rw [List.length_mergeSort]
    exact this
end Go.Proofs.Ythdnbdbnlbebeaa.LI
