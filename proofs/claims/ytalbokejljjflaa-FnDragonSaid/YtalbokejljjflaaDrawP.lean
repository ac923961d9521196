/- The walks of the functions that draw texts of paths: each returns some text, not long. Conditions: each theorem's own premises. -/
import Derived.Test.YtalbokejljjflaaDrawW
namespace Go.Proofs.Ytalbokejljjflaa
open Go.RowKit
set_option maxHeartbeats 1000000 in
theorem l91Text (g : Nat) (A : Option Addr) (len cap p n : Nat) (w : World) (h : Rd w g A len cap p) (hp : p ≤ 80000) (hn : n ≤ 14) :
    Calls Try.prog 30 #[.pointer (some ⟨g, 0, none⟩), .int .i64 n] w (Drawn 14 14 w g A len cap p) := by
  go_enter Try.func30, Try.ntmps30
  go_wp2_with fail
  go_loopw [5, 6] (fun o i wr => ∃ k : Nat, ∃ b : ByteArray, k ≤ n ∧ i = .int .i64 k ∧ o = .string b ∧ b.size ≤ k ∧ Rd wr g A len cap (p + k) ∧ w.grownBy wr (some g)) (fun _ i _ => n - (intOf i).toNat)
  case atStart => exact ⟨0, ByteArray.empty, Nat.zero_le _, rfl, rfl, Nat.le_refl _, h, World.grownBy.refl _ _⟩
  case round =>
    obtain ⟨k, b, hk, rfl, rfl, hb, hr2, hg2⟩ := hrel
    by_cases hlt : k < n
    · have hgl := hr2.lt
      have hr3 := hr2.below ((Below.refl _ _).alloc (Nat.le_refl _) (.cells ([⟨#[77]⟩, ⟨#[86]⟩].map Value.string).toArray 9))
      go_wp2_with fail
      refine (pickOf g A len cap (p + k) wr.heap.size _ [⟨#[77]⟩, ⟨#[86]⟩] _ hr3 (by omega) (by decide) (by decide) (by omega) (strs_cells wr _ _)).mono ?_
      rintro e w3 ⟨x, hx, rfl, hr4, hg4⟩
      have hx1 : x.size ≤ 1 := by
        simp only [List.mem_cons, List.not_mem_nil, or_false] at hx
        rcases hx with rfl | rfl <;> exact Nat.le_refl _
      clear hx
      have hg5 := grown_trans (grown_trans hg2 (World.grownBy_alloc wr _ _)) hg4
      go_wp2_with fail
      have hsz : (b ++ x).size ≤ k + 1 := by rw [ByteArray.size_append]; omega
      go_roundw
      case rel => exact ⟨k + 1, _, by omega, by go_num, rfl, hsz, hr4, hg5⟩
      case measure => simp [intOf]; omega
    · obtain rfl : k = n := by omega
      go_wp2_with fail
      go_ret
      exact ⟨_, _, rfl, by omega, by omega, hr2, hg2⟩
set_option maxHeartbeats 1000000 in
theorem l92Path (g : Nat) (A : Option Addr) (len cap p : Nat) (w : World) (h : Rd w g A len cap p) (hp : p ≤ 70000) :
    Calls Try.prog 18 #[.pointer (some ⟨g, 0, none⟩)] w (Drawn 70 20 w g A len cap p) := by
  go_enter Try.func18, Try.ntmps18
  go_wp2_with fail
  refine (pick g A len cap p _ w h (by omega) (by omega)).mono ?_
  rintro e w1 ⟨d, rfl, _, _, hr1, hg1⟩
  by_cases d0 : d = 0
  · subst d0
    go_wp2_with fail
    refine (l92Word g A len cap _ _ hr1 (by omega)).mono ?_
    rintro e w2 ⟨s, p', rfl, hs, hp', hr2, hg2⟩
    go_wp2_with fail
    go_ret
    exact ⟨_, _, rfl, hs, by omega, hr2, grown_trans hg1 hg2⟩
  · have t0 : ((d : Int) == 0) = false := by rw [beq_eq_false_iff_ne]; omega
    clear d0
    go_wp2_with fail
    refine (pick g A len cap _ _ _ hr1 (by omega) (by omega)).mono ?_
    rintro e w2 ⟨n, rfl, hn, _, hr2, hg2⟩
    have hn14 : n ≤ 14 := by omega
    clear hn
    go_wp2_with fail
    refine (l91Text g A len cap _ n _ hr2 (by omega) hn14).mono ?_
    rintro e w3 ⟨s, p', rfl, hs, hp', hr3, hg3⟩
    go_wp2_with fail
    refine (pick g A len cap _ _ _ hr3 (by omega) (by omega)).mono ?_
    rintro e w4 ⟨m, rfl, _, _, hr4, hg4⟩
    have hgg := grown_trans (grown_trans (grown_trans hg1 hg2) hg3) hg4
    by_cases m0 : m = 0
    · subst m0
      go_wp2_with fail
      have hsz : (s ++ ⟨#[120]⟩).size ≤ 70 := by
        rw [ByteArray.size_append]
        have : (⟨#[120]⟩ : ByteArray).size = 1 := rfl
        omega
      go_ret
      exact ⟨_, _, rfl, hsz, by omega, hr4, hgg⟩
    · have t1 : ((m : Int) == 0) = false := by rw [beq_eq_false_iff_ne]; omega
      clear m0
      go_wp2_with fail
      go_ret
      exact ⟨_, _, rfl, by omega, by omega, hr4, hgg⟩
/-- A text of a path of at most bd bytes has been drawn out of a code. -/
def DrawnPath (bd : Nat) (w : World) (e : Ending) (w' : World) : Prop := ∃ s : ByteArray, e = .returned (.string s) ∧ s.size ≤ bd ∧ Below w.heap.size w w'
theorem drawPathEnd (a : Option Addr) (len cap : Nat) (z : List Int) (w : World) (hr : IsRow .u8 w a len cap z) (hc : len ≤ cap) : Calls Try.prog 6 #[.slice a len cap] w (DrawnPath 70 w) := by
  have HR := Lib.hid hr
  clear hr
  go_enter Try.func6, Try.ntmps6
  go_wp2_with fail
  refine (l6Open _ _ _ _ _ HR.out hc).mono ?_
  rintro e w1 ⟨g, A, len', cap', rfl, hg, hrd, hb⟩
  go_wp2_with fail
  refine (l92Path g A len' cap' 0 _ hrd (by omega)).mono ?_
  rintro e w2 ⟨s, p', rfl, hs, _, _, hg2⟩
  go_wp2_with fail
  go_ret
  exact ⟨s, rfl, hs, below_grown_at hb hg2 hb.size hg⟩
end Go.Proofs.Ytalbokejljjflaa
