/- The law FnStampRank, walked: it returns true. Conditions: each theorem's own premises. -/
import Derived.Test.YtadpbbjahckoaaaPlainZ
import Derived.Test.YtadpbbjahckoaaaRankB
import Derived.Test.YtadpbbjahckoaaaStampL
namespace Go.Proofs.Ytadpbbjahckoaaa
set_option maxRecDepth 100000
open Go.RowKit
theorem RowI.next {w w' : World} {g : Nat} {xs : List Int} (h : RowI w g xs) (hb : Below w.heap.size w w') : RowI w' g xs := h.below hb h.1
theorem below_step {a b c : World} (h : Below a.heap.size a b) (k : Below b.heap.size b c) : Below a.heap.size a c := h.trans (k.mono h.size)
set_option maxRecDepth 100000 in
set_option maxHeartbeats 4000000 in
theorem fnStampRank_walk (w : World) (a0 : Option Addr) (len0 cap0 : Nat) (z0 : List Int) (w0 : IsRow .u8 w a0 len0 cap0 z0) :
    Calls Try.prog 5 #[.slice a0 len0 cap0] w fun e w' => e = .returned (.bool true) ∧ Below w.heap.size w w' := by
  have HW := Lib.hid w0
  clear w0
  by_cases hl : 1048576 < len0
  · go_enter Try.func5, Try.ntmps5
    go_wp2
    go_ret
    exact ⟨rfl, Below.refl _ _⟩
  go_enter Try.func5, Try.ntmps5
  go_wp2_with fail
  refine (drawStampRank _ _ _ _ _ HW.out HW.out.le).mono ?_
  rintro e w1 ⟨G, n, cap, l, hn, hn7, rfl, hG, hr1, hb1⟩
  have C1 := fun w (h : RowI w G l) => implStampRank G n cap l w hn (by omega) h
  have C2 := fun w (h : RowI w G l) => specStampRank G n cap l w hn (by omega) h
  have C3 := fun w (h : RowI w G l) => implStampNext G n cap l w hn (by omega) h
  have HR1 := Lib.hid hr1
  have HB1 := Lib.hid hb1
  have HN := Lib.hid hn
  clear hr1 hb1
  cases hok : possL l with
  | false =>
    have hri : rankI l = -1 := by unfold rankI; rw [if_neg (by rw [hok]; decide)]
    rw [hri] at C1 C2
    have HC1 := Lib.hid C1
    have HC2 := Lib.hid C2
    clear C1 C2 C3 hok hn hri
    go_wp2_with fail
    refine (HC1.out _ HR1.out).mono ?_
    rintro e w2 ⟨rfl, hb2⟩
    have HB2 := Lib.hid (below_step HB1.out hb2)
    have HRL := Lib.hid (HR1.out.next hb2)
    clear hb2
    go_wp2_with fail
    refine (HC2.out _ HRL.out).mono ?_
    rintro e w3 ⟨rfl, hb3⟩
    have HB3 := Lib.hid (below_step HB2.out hb3)
    clear hb3
    go_wp2_with fail
    go_ret
    exact ⟨rfl, HB3.out⟩
  | true =>
    have hrg := ((poss_iff l).1 hok).1
    unfold rangeN at hrg
    rw [decide_eq_true_eq, hn] at hrg
    obtain ⟨h1, h7⟩ := hrg
    obtain ⟨r, hri, hs⟩ := rank_of hok
    have hni := next_is hok hs
    rw [hn] at hs hni
    rw [hri] at C1 C2
    rw [hni] at C3
    have hrK : r < (stacksS n).length := (List.getElem?_eq_some_iff.1 hs).1
    have hKb := stacks_len n h7
    have C4 := fun w => implStampNth n r w
    rw [nth_at h1 h7, hs] at C4
    have C5 := fun w => implStampNth n ((r : Int) + 1) w
    rw [show ((r : Int) + 1) = ((r + 1 : Nat) : Int) by omega, nth_at h1 h7, ← show ((r : Int) + 1) = ((r + 1 : Nat) : Int) by omega] at C5
    have C6 := fun w => implStampMany n w
    rw [many_at h1 h7] at C6
    obtain ⟨f, hf⟩ : ∃ f, f = ((stacksS n)[r + 1]?).isSome := ⟨_, rfl⟩
    obtain ⟨ys, hys⟩ : ∃ ys, ys = ((stacksS n)[r + 1]?).getD [] := ⟨_, rfl⟩
    have hyl : ys.length ≤ 7 := by
      rw [hys]
      cases e : (stacksS n)[r + 1]? with
      | none => exact Nat.zero_le _
      | some t => show t.length ≤ 7; rw [(stacks_mem (List.mem_of_getElem? e)).1]; exact h7
    rw [← hf, ← hys] at C3 C5
    obtain ⟨K, hK⟩ : ∃ K, K = (stacksS n).length := ⟨_, rfl⟩
    rw [← hK] at C6 hrK hKb
    have HC1 := Lib.hid C1
    have HC2 := Lib.hid C2
    have HC3 := Lib.hid C3
    have HC4 : Hid (∀ w, Calls Try.prog 9 #[.int .i64 n, .int .i64 r] w (OverBack w true l)) := Lib.hid C4
    have HC5 := Lib.hid C5
    have HC6 := Lib.hid C6
    have trr : ((r : Int) == (r : Int)) = true := by simp
    have trn : ((r : Int) != (r : Int)) = false := by simp
    have tff : (f == f) = true := by simp
    have hrK2 : (r : Int) < (K : Int) := by omega
    have hr0 : ¬ (r : Int) < 0 := by omega
    clear C1 C2 C3 C4 C5 C6 hok hn hri hs hni hf hys hK
    go_wp2_with fail
    refine (HC1.out _ HR1.out).mono ?_
    rintro e w2 ⟨rfl, hb2⟩
    have HB2 := Lib.hid (below_step HB1.out hb2)
    have HR2 := Lib.hid (HR1.out.next hb2)
    clear hb2
    go_wp2_with fail
    refine (HC2.out _ HR2.out).mono ?_
    rintro e w3 ⟨rfl, hb3⟩
    have HB3 := Lib.hid (below_step HB2.out hb3)
    have HR3 := Lib.hid (HR2.out.next hb3)
    clear hb3
    go_wp2_with fail
    refine (HC4.out _).mono ?_
    rintro e w4 ⟨hb4, g4, n4, c4, hn4, rfl, hg4, hr4⟩
    obtain rfl : n4 = n := by rw [← hn4]; exact HN.out
    have HB4 := Lib.hid (below_step HB3.out hb4)
    have HR4 := Lib.hid (HR3.out.next hb4)
    have HX4 := Lib.hid hr4
    clear hb4 hn4 hr4
    go_wp2_with fail
    refine (HC3.out _ HR4.out).mono ?_
    rintro e w5 ⟨hb5, g5, n5, c5, hn5, rfl, hg5, hr5⟩
    have HB5 := Lib.hid (below_step HB4.out hb5)
    have HR5 := Lib.hid (HR4.out.next hb5)
    have HX5 := Lib.hid (HX4.out.next hb5)
    have HY5 := Lib.hid hr5
    have HN5 := Lib.hid hn5
    have hn57 : n5 ≤ 7 := by omega
    clear hb5 hn5 hr5
    go_wp2_with fail
    refine (HC5.out _).mono ?_
    rintro e w6 ⟨hb6, g6, n6, c6, hn6, rfl, hg6, hr6⟩
    obtain rfl : n6 = n5 := by rw [← hn6]; exact HN5.out
    have HB6 := Lib.hid (below_step HB5.out hb6)
    have HR6 := Lib.hid (HR5.out.next hb6)
    have HX6 := Lib.hid (HX5.out.next hb6)
    have HY6 := Lib.hid (HY5.out.next hb6)
    have HZ6 := Lib.hid hr6
    clear hb6 hn6 hr6
    go_wp2_with fail
    refine (sameInts g4 G n4 c4 cap l _ HN.out (by omega) HX6.out HR6.out).mono ?_
    rintro e w7 ⟨rfl, hb7⟩
    have HB7 := Lib.hid (below_step HB6.out hb7)
    have HY7 := Lib.hid (HY6.out.next hb7)
    have HZ7 := Lib.hid (HZ6.out.next hb7)
    clear hb7
    go_wp2_with fail
    refine (sameInts g5 g6 n6 c5 c6 ys _ HN5.out (by omega) HY7.out HZ7.out).mono ?_
    rintro e w8 ⟨rfl, hb8⟩
    have HB8 := Lib.hid (below_step HB7.out hb8)
    clear hb8
    go_wp2_with fail
    refine (HC6.out _).mono ?_
    rintro e w9 ⟨rfl, hb9⟩
    have HB9 := Lib.hid (below_step HB8.out hb9)
    clear hb9
    go_wp2_with fail
    go_ret
    exact ⟨rfl, HB9.out⟩
end Go.Proofs.Ytadpbbjahckoaaa
