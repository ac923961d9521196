/- The law FnExactPathPlaces, walked: it returns true. Conditions: the text is a string of the model. -/
import Derived.Test.YtmlmihneanobdaaPathC
namespace Go.Proofs.Ytmlmihneanobdaa
open Go.RowKit
theorem NoPlaces.form {w w' : World} {e : Ending} (h : NoPlaces w e w') : ∃ A : Option Addr, e = .returned (.tuple #[.slice A 0 0, .bool false]) ∧ Below w.heap.size w w' := by
  obtain ⟨v, he, hv, hb⟩ := h
  rcases hv with rfl | ⟨g, rfl⟩
  · exact ⟨none, he, hb⟩
  · exact ⟨_, he, hb⟩
set_option maxHeartbeats 4000000 in
theorem fnExactPathPlaces_walk (a0 : ByteArray) (w0 : a0.size ≤ maxLen) (w : World) :
    Calls Try.prog 3 #[.string a0] w fun e w' => e = .returned (.bool true) ∧ Below w.heap.size w w' := by
  have HW := Lib.hid w0
  clear w0
  by_cases hl : 1048576 < a0.size
  · go_enter Try.func3, Try.ntmps3
    go_wp2
    go_ret
    exact ⟨rfl, Below.refl _ _⟩
  · have hl' : a0.size ≤ 1048576 := by omega
    cases hok : creas (bl a0) with
    | false =>
      have HOK := Lib.hid hok
      clear hok
      go_enter Try.func3, Try.ntmps3
      go_wp2_with fail
      refine (specPathPlaces_no a0 _ hl' HOK.out).mono ?_
      intro e w1 h1
      obtain ⟨A1, rfl, hb1⟩ := h1.form
      have hz1 := hb1.size
      go_wp2_with fail
      refine (implPathPlaces_no a0 _ HW.out HOK.out).mono ?_
      intro e w2 h2
      obtain ⟨A2, rfl, hb2⟩ := h2.form
      have hz2 := hb2.size
      go_wp2_with fail
      refine (eqPlaceS_nil _ _ _ _ _).mono ?_
      rintro e w3 ⟨rfl, rfl⟩
      go_wp2_with fail
      refine (markPlaceS_nil _ _ _ _).mono ?_
      rintro e w3 ⟨rfl, rfl⟩
      go_wp2_with fail
      refine (heldPlaceS_nil _ _ _ _).mono ?_
      rintro e w3 ⟨rfl, rfl⟩
      go_wp2_with fail
      refine (implPathPlaces_no a0 _ HW.out HOK.out).mono ?_
      intro e w3 h3
      obtain ⟨A3, rfl, hb3⟩ := h3.form
      go_wp2_with fail
      refine (eqPlaceS_nil _ _ _ _ _).mono ?_
      rintro e w4 ⟨rfl, rfl⟩
      go_wp2_with fail
      refine (heldPlaceS_nil _ _ _ _).mono ?_
      rintro e w4 ⟨rfl, rfl⟩
      go_wp2_with fail
      go_ret
      exact ⟨rfl, hb1.trans ((hb2.trans (hb3.mono hz2)).mono hz1)⟩
    | true =>
      have hs := creas_len hok
      have hn2 : (bl a0).length + 2 ≤ 1000 := by rw [bl_length]; omega
      have HOK := Lib.hid hok
      have HLEN : Hid ((places (bl a0)).length = (bl a0).length + 2) := placesTo_length _ _
      clear hok
      go_enter Try.func3, Try.ntmps3
      go_wp2_with fail
      refine (specPathPlaces a0 _ HOK.out).mono ?_
      rintro e w1 ⟨g1, c1, rfl, hg1, ho1, hb1⟩
      have hz1 := hb1.size
      have hl1 : g1 < w1.heap.size := (ho1.lt _ rfl).2
      have hr1 := RowP.of_own ho1
      clear ho1
      go_wp2_with fail
      refine (implPathPlaces a0 _ HOK.out).mono ?_
      rintro e w2 ⟨g2, c2, rfl, hg2, ho2, hb2⟩
      have hz2 := hb2.size
      have hl2 : g2 < w2.heap.size := (ho2.lt _ rfl).2
      have hr2 := RowP.of_own ho2
      have hop2 := Open.of_own ho2
      have hr12 := hr1.keep (hb2.block g1 hl1)
      clear ho2 hr1
      go_wp2_with fail
      refine (eqPlaceS g2 g1 _ _ _ (places (bl a0)) _ HLEN.out hn2 hr2 hr12 hl2 (by omega)).mono ?_
      rintro e w3 ⟨rfl, hb3⟩
      have hz3 := hb3.size
      have hop3 := hop2.keep (hb3.block g2 hl2)
      have hr13 := hr12.keep (hb3.block g1 (by omega))
      clear hop2 hr2 hr12
      go_wp2_with fail
      refine (markPlaceS g2 _ _ _ hn2 hop3).mono ?_
      rintro e w4 ⟨rfl, hm4, hg4⟩
      have hz4 := hg4.size
      have hr14 := hr13.keep (hg4.block g1 (by omega) (by intro e; injection e; omega))
      have hb14 : Below w.heap.size w w4 := below_grown_at (hb1.trans ((hb2.trans (hb3.mono hz2)).mono hz1)) hg4 (by omega) (by omega)
      clear hb1 hb2 hb3 hop3 hr13 hg4
      go_wp2_with fail
      refine (heldPlaceS g2 _ _ _ hn2 hm4).mono ?_
      rintro e w5 ⟨rfl, hb5⟩
      have hz5 := hb5.size
      have hm5 := hm4.keep (hb5.block g2 (by omega))
      have hr15 := hr14.keep (hb5.block g1 (by omega))
      clear hm4 hr14
      go_wp2_with fail
      refine (implPathPlaces a0 _ HOK.out).mono ?_
      rintro e w6 ⟨g6, c6, rfl, hg6, ho6, hb6⟩
      have hz6 := hb6.size
      have hl6 : g6 < w6.heap.size := (ho6.lt _ rfl).2
      have hr6 := RowP.of_own ho6
      have hm6 := hm5.keep (hb6.block g2 (by omega))
      have hr16 := hr15.keep (hb6.block g1 (by omega))
      clear ho6 hm5 hr15
      go_wp2_with fail
      refine (eqPlaceS g6 g1 _ _ _ (places (bl a0)) _ HLEN.out hn2 hr6 hr16 hl6 (by omega)).mono ?_
      rintro e w7 ⟨rfl, hb7⟩
      have hz7 := hb7.size
      have hm7 := hm6.keep (hb7.block g2 (by omega))
      clear hm6 hr6 hr16
      go_wp2_with fail
      refine (heldPlaceS g2 _ _ _ hn2 hm7).mono ?_
      rintro e w8 ⟨rfl, hb8⟩
      go_wp2_with fail
      go_ret
      exact ⟨rfl, hb14.trans ((hb5.trans ((hb6.trans ((hb7.trans (hb8.mono hz7)).mono hz6)).mono hz5)).mono (by omega))⟩
end Go.Proofs.Ytmlmihneanobdaa
