/- What 'known' of layer 14 comes to: true. -/
import Derived.Test.YthdnbdbnlbebeaaLS
namespace Go.Proofs.Ythdnbdbnlbebeaa
open Go Go.RowKit Go.MapKept

theorem One_lt {b : Nat} {w : World} (h : b < w.heap.size) : ∀ i, One b i → i < w.heap.size := fun i hi => by cases hi; exact h

set_option maxRecDepth 100000 in
set_option maxHeartbeats 1000000 in
theorem known_any (w : World) : Calls Try.prog 6 #[] w fun e w' => e = .returned (.bool true) ∧ Keeps None w w' := by
  go_enter Try.func6, Try.ntmps6
  go_wp2_with fail
  refine (LS.new_any 2 w (by omega) (by omega)).mono ?_
  rintro e w1 ⟨p, b, rfl, hk1, hp1, hb1, hne, hpl, hbl, hL⟩
  have HL1 := hid (hL (One b)); have HK1 := hid hk1
  clear hL hk1
  go_wp2_with fail
  refine (LS.push_room HL1.out (One_lt hbl) rfl (by omega) 1 ⟨#[97]⟩ (by simp [LS.row, look])).mono ?_
  rintro e w2 ⟨rfl, hk2, hL2⟩
  have HL2 := hid (show LS.ListsAt w2 (One b) p b 2 [(1, [⟨#[97]⟩])] by simpa [LS.row, look, put] using hL2)
  have HK2 := hid hk2; have HB2 := hid (Nat.lt_of_lt_of_le hbl hk2.size)
  clear hL2 hk2
  go_wp2_with fail
  refine (LS.push_room HL2.out (One_lt HB2.out) rfl (by omega) 2 ⟨#[98]⟩ (by simp [LS.row, look])).mono ?_
  rintro e w3 ⟨rfl, hk3, hL3⟩
  have HL3 := hid (show LS.ListsAt w3 (One b) p b 2 [(1, [⟨#[97]⟩]), (2, [⟨#[98]⟩])] by simpa [LS.row, look, put] using hL3)
  have HK3 := hid hk3; have HB3 := hid (Nat.lt_of_lt_of_le HB2.out hk3.size)
  clear hL3 hk3
  go_wp2_with fail
  refine (LS.push_room HL3.out (One_lt HB3.out) rfl (by omega) 1 ⟨#[99]⟩ (by simp [LS.row, look])).mono ?_
  rintro e w4 ⟨rfl, hk4, hL4⟩
  have HL4 := hid (show LS.ListsAt w4 (One b) p b 2 [(1, [⟨#[97]⟩, ⟨#[99]⟩]), (2, [⟨#[98]⟩])] by simpa [LS.row, look, put] using hL4)
  have HK4 := hid hk4; have HB4 := hid (Nat.lt_of_lt_of_le HB3.out hk4.size)
  clear hL4 hk4
  go_wp2_with fail
  refine (LS.push_full HL4.out 1 ⟨#[100]⟩ (by simp [LS.row, look])).mono ?_
  rintro e w5 ⟨rfl, q, rfl⟩
  go_wp2_with fail
  have HL5 := hid (HL4.out.keeps (M' := One b) ((Keeps.refl None _).drewN q) (fun _ _ h => h.elim) (fun _ _ h => h) (fun h => h) (fun h => h))
  refine (LS.pop_some HL5.out (One_lt HB4.out) rfl 1 (by simp [LS.row, look]) ⟨#[97]⟩ [⟨#[99]⟩] (by simp [LS.row, look])).mono ?_
  rintro e w6 ⟨rfl, hk6, hL6⟩
  have HL6 := hid (show LS.ListsAt w6 (One b) p b 2 [(1, [⟨#[99]⟩]), (2, [⟨#[98]⟩])] by simpa [LS.row, look, put, LS.store] using hL6)
  have HK6 := hid hk6
  clear hL6 hk6
  unfold LS.enc
  go_wp2_with fail
  refine (LS.peek HL6.out 3).mono ?_
  rintro e w7 ⟨rfl, rfl⟩
  have E1 : Hid (LS.row [(1, [⟨#[99]⟩]), (2, [⟨#[98]⟩])] 3 = []) := by show _ = _; simp [LS.row, look]
  rw [E1.out]
  have hl := (LS.len HL6.out 1)
  have hf := (LS.full HL6.out 1)
  simp only [LS.row, look, if_true, Option.getD_some, List.length_singleton] at hl hf
  go_wp2_with (first | (go_at_call 26; refine hl.mono ?_; rintro e w7 ⟨rfl, rfl⟩) | (go_at_call 27; refine hf.mono ?_; rintro e w7 ⟨rfl, q2, rfl⟩))
  go_ret
  refine ⟨rfl, ?_⟩
  have h1 : Keeps (One b) w w4 := (((Keeps.of_none HK1.out).then' HK2.out).then' HK3.out).then' HK4.out
  have h2 : Keeps (One b) w w6 := (h1.drewN q).then' HK6.out
  exact (h2.drewN q2).mono (fun i hi h => by cases h; omega)

end Go.Proofs.Ythdnbdbnlbebeaa
