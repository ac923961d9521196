/- The walks of the functions that draw texts of creases: each returns some text, not long. Conditions: each theorem's own premises. -/
import Derived.Test.YtalbokejljjflaaDraw
import Derived.Test.YtalbokejljjflaaWordE
namespace Go.Proofs.Ytalbokejljjflaa
open Go.RowKit
theorem strs_cells (w : World) (ss : List ByteArray) (T : TypeId) (i : Nat) (hi : i < ss.length) : (w.alloc (.cells (ss.map Value.string).toArray T)).cell? ⟨w.heap.size, i, none⟩ = some (.string ss[i]) := by
  refine (World.cell?_alloc_mark w _ T (0, 0) i).trans ?_
  simp [hi]
/-- A text of at most bd bytes has been drawn, with at most q numbers. -/
def Drawn (bd q : Nat) (w : World) (g : Nat) (A : Option Addr) (len cap p : Nat) (e : Ending) (w' : World) : Prop :=
  ∃ (s : ByteArray) (p' : Nat), e = .returned (.string s) ∧ s.size ≤ bd ∧ p' ≤ p + q ∧ Rd w' g A len cap p' ∧ w.grownBy w' (some g)
set_option maxHeartbeats 4000000 in
theorem l92Word (g : Nat) (A : Option Addr) (len cap p : Nat) (w : World) (h : Rd w g A len cap p) (hp : p ≤ 90000) :
    Calls Try.prog 25 #[.pointer (some ⟨g, 0, none⟩), .int .i64 5] w (Drawn 70 10 w g A len cap p) := by
  go_enter Try.func25, Try.ntmps25
  go_wp2_with fail
  refine (pick g A len cap p _ w h (by omega) (by omega)).mono ?_
  rintro e w1 ⟨n, rfl, hn, _, hr, hg⟩
  have hn6 : n < 6 := by omega
  clear hn
  go_wp2_with fail
  go_loopw [5, 7] (fun o i wr => ∃ k : Nat, ∃ b : ByteArray, k ≤ n ∧ i = .int .i64 k ∧ o = .string b ∧ b.size ≤ k ∧ Rd wr g A len cap (p + 1 + k) ∧ w.grownBy wr (some g)) (fun _ i _ => n - (intOf i).toNat)
  case atStart => exact ⟨0, ByteArray.empty, Nat.zero_le _, rfl, rfl, Nat.le_refl _, hr, hg⟩
  case round =>
    obtain ⟨k, b, hk, rfl, rfl, hb, hr2, hg2⟩ := hrel
    by_cases hlt : k < n
    · have hgl := hr2.lt
      have hr3 := hr2.below ((Below.refl _ _).alloc (Nat.le_refl _) (.cells ([⟨#[82]⟩, ⟨#[114]⟩, ⟨#[76]⟩, ⟨#[108]⟩].map Value.string).toArray 9))
      go_wp2_with fail
      refine (pickOf g A len cap (p + 1 + k) wr.heap.size _ [⟨#[82]⟩, ⟨#[114]⟩, ⟨#[76]⟩, ⟨#[108]⟩] _ hr3 (by omega) (by decide) (by decide) (by omega) (strs_cells wr _ _)).mono ?_
      rintro e w3 ⟨x, hx, rfl, hr4, hg4⟩
      have hx1 : x.size ≤ 1 := by
        simp only [List.mem_cons, List.not_mem_nil, or_false] at hx
        rcases hx with rfl | rfl | rfl | rfl <;> exact Nat.le_refl _
      clear hx
      have hg5 := grown_trans (grown_trans hg2 (World.grownBy_alloc wr _ _)) hg4
      go_wp2_with fail
      have hsz : (b ++ x).size ≤ k + 1 := by rw [ByteArray.size_append]; omega
      go_roundw
      case rel => exact ⟨k + 1, _, by omega, by go_num, rfl, hsz, hr4, hg5⟩
      case measure => simp [intOf]; omega
    · obtain rfl : k = n := by omega
      have hb6 : b.size ≤ 6 := by omega
      go_wp2_with fail
      refine (l5Of b _ hb6).mono ?_
      rintro e w3 ⟨rfl, rfl⟩
      obtain ⟨X, hX⟩ : ∃ X, X = mkS (ofL (bl b)) := ⟨_, rfl⟩
      have hX63 : X.size ≤ 63 := by rw [hX, mkS_size]; exact ofL_bd _ (by rw [bl_length]; exact hb6)
      rw [← hX]
      clear hX
      go_wp2_with fail
      refine (pick g A len cap _ _ _ hr2 (by omega) (by omega)).mono ?_
      rintro e w4 ⟨d, rfl, hd, _, hr5, hg5⟩
      have hg6 := grown_trans hg2 hg5
      clear hd
      by_cases d0 : d = 0
      · subst d0
        by_cases hX0 : 0 < X.size
        · go_wp2_with fail
          refine (pick g A len cap _ _ _ hr5 (by omega) (by omega)).mono ?_
          rintro e w5 ⟨m, rfl, hm, _, hr7, hg7⟩
          have hm' : m < X.size := by omega
          clear hm
          have hg8 := grown_trans hg6 hg7
          have e1 : IntKind.i64.wrap ((m : Int) + 1) = (m : Int) + 1 := by rw [IntKind.wrap_i64]; omega
          have e2 : 0 ≤ (m : Int) + 1 := by omega
          have e3 : ((m : Int) + 1).toNat = m + 1 := by omega
          have e4 : (m : Int) + 1 ≤ (X.size : Int) := by omega
          have e5 : (m : Int) ≤ (X.size : Int) := by omega
          have e6 : (0 : Int) ≤ (m : Int) := by omega
          have e7 : (m : Int) ≤ (m : Int) + 1 := by omega
          have s1 : (X.extract 0 m).size = m := size_left _ _ (by omega)
          have s2 : (mkS ((bl (X.extract m (m + 1))).map swp)).size = 1 := by rw [mkS_size, List.length_map, bl_length, bl_size1 (bl_slice1 X m hm')]
          have s3 : (X.extract (m + 1) X.size).size = X.size - (m + 1) := size_right _ _
          have s4 : (X.extract m (m + 1)).size ≤ 1048576 := by rw [bl_size1 (bl_slice1 X m hm')]; omega
          have hz1 : ¬ 9223372036854775807 < (X.extract 0 m).size + (mkS ((bl (X.extract m (m + 1))).map swp)).size := by omega
          have hz2 : ¬ 9223372036854775807 < (X.extract 0 m).size + (mkS ((bl (X.extract m (m + 1))).map swp)).size + (X.extract (m + 1) X.size).size := by omega
          have hz3 : ¬ 9223372036854775807 < min m X.size + (mkS ((bl (X.extract m (m + 1))).map swp)).size := by omega
          have hz4 : ¬ 9223372036854775807 < min m X.size + (mkS ((bl (X.extract m (m + 1))).map swp)).size + (X.size - (m + 1)) := by omega
          have hfin : (X.extract 0 m ++ mkS ((bl (X.extract m (m + 1))).map swp) ++ X.extract (m + 1) X.size).size ≤ 70 := by
            rw [ByteArray.size_append, ByteArray.size_append, s1, s2, s3]; omega
          clear s1 s2 s3
          go_wp2_with fail
          go_quiet ((go_at_call 35; exact quiet_left (specFoldsSwap _ _ s4)))
          clear e1
          go_wp2_with fail
          go_ret
          exact ⟨_, _, rfl, hfin, by omega, hr7.keep (fun _ _ => rfl), grown_drewN hg8 _⟩
        · go_wp2_with fail
          go_ret
          exact ⟨_, _, rfl, by omega, by omega, hr5, hg6⟩
      · by_cases d1 : d = 1
        · subst d1
          have hr6 := hr5.below ((Below.refl _ _).alloc (Nat.le_refl _) (.cells ([⟨#[120]⟩, ⟨#[77]⟩, ⟨#[77, 86]⟩].map Value.string).toArray 9))
          have hgl := hr5.lt
          go_wp2_with fail
          refine (pickOf g A len cap _ w4.heap.size _ [⟨#[120]⟩, ⟨#[77]⟩, ⟨#[77, 86]⟩] _ hr6 (by omega) (by decide) (by decide) (by omega) (strs_cells w4 _ _)).mono ?_
          rintro e w5 ⟨x, hx, rfl, hr7, hg7⟩
          have hx1 : x.size ≤ 2 := by
            simp only [List.mem_cons, List.not_mem_nil, or_false] at hx
            rcases hx with rfl | rfl | rfl <;> decide
          clear hx
          have hg8 := grown_trans (grown_trans hg6 (World.grownBy_alloc w4 _ _)) hg7
          go_wp2_with fail
          have hsz : (X ++ x).size ≤ 70 := by rw [ByteArray.size_append]; omega
          go_ret
          exact ⟨_, _, rfl, hsz, by omega, hr7, hg8⟩
        · have t0 : ((d : Int) == 0) = false := by rw [beq_eq_false_iff_ne]; omega
          have t1 : ((d : Int) == 1) = false := by rw [beq_eq_false_iff_ne]; omega
          clear d0 d1
          go_wp2_with fail
          go_ret
          exact ⟨_, _, rfl, by omega, by omega, hr5, hg6⟩
end Go.Proofs.Ytalbokejljjflaa
