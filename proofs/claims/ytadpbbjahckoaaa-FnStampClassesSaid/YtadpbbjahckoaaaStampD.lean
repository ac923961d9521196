/- The walks of the reference's StampPossible and of both StampOvers. Conditions: each theorem's own premises. -/
import Derived.Test.YtadpbbjahckoaaaStampC
namespace Go.Proofs.Ytadpbbjahckoaaa
set_option maxRecDepth 100000
open Go.RowKit
def sPossL (l : List Int) : Bool := sStackL l && sUncrossedL (sLevels l.length l)
set_option maxHeartbeats 4000000 in
theorem specStampPossible (g n c : Nat) (l : List Int) (w : World) (hn : l.length = n) (hn2 : n ≤ 1000) (hr : RowI w g l) :
    Calls Try.prog 44 #[.slice (some ⟨g, 0, none⟩) n c] w fun e w' => e = .returned (.bool (sPossL l)) ∧ Below w.heap.size w w' := by
  have C1 := l3Stack g n c l w hn hn2 hr
  have hgl := hr.1
  cases hok : sStackL l with
  | false =>
    have HP : Hid (sPossL l = false) := by show _ = _; unfold sPossL; rw [hok]; rfl
    rw [hok] at C1
    have HC1 := Lib.hid C1
    clear C1 hok hn hr
    go_enter Try.func44, Try.ntmps44
    go_wp2_with fail
    refine HC1.out.mono ?_
    rintro e w1 ⟨rfl, hb1⟩
    go_wp2_with fail
    go_ret
    exact ⟨ret_bool (by rw [HP.out]), hb1⟩
  | true =>
    have HP : Hid (sPossL l = sUncrossedL (sLevels n l)) := by show _ = _; unfold sPossL; rw [hok, hn]; rfl
    have hlv : (sLevels n l).length = n := by
      unfold sStackL at hok
      rw [Bool.and_eq_true, decide_eq_true_eq, hn] at hok
      exact hok.2
    have C2 := fun w (h : RowI w g l) => l3Possible g n c l w hn hn2 h hlv
    rw [hok] at C1
    have HC1 := Lib.hid C1
    have HC2 := Lib.hid C2
    have HR := Lib.hid hr
    clear C1 C2 hok hlv hn hr
    go_enter Try.func44, Try.ntmps44
    go_wp2_with fail
    refine HC1.out.mono ?_
    rintro e w1 ⟨rfl, hb1⟩
    have hz1 := hb1.size
    go_wp2_with fail
    refine (HC2.out _ (HR.out.below hb1 hgl)).mono ?_
    rintro e w2 ⟨rfl, hb2⟩
    go_wp2_with fail
    go_ret
    exact ⟨ret_bool (by rw [HP.out]), hb1.trans (hb2.mono hz1)⟩
/-- A list and a word have come back. -/
def OverBack (w : World) (ok : Bool) (xs : List Int) (e : Ending) (w' : World) : Prop :=
  Below w.heap.size w w' ∧ ∃ g n cap : Nat, xs.length = n ∧ e = .returned (.tuple #[.slice (some ⟨g, 0, none⟩) n cap, .bool ok]) ∧ w.heap.size ≤ g ∧ RowI w' g xs
/-- The other order, the first k numbers laid. -/
def overTo (l : List Int) (k : Nat) : List Int := List.replicate (l.length - k) 0 ++ (l.take k).reverse
theorem overTo_length {l : List Int} {k : Nat} (h : k ≤ l.length) : (overTo l k).length = l.length := by
  unfold overTo
  simp
  omega
theorem overTo_set {l : List Int} {k m : Nat} {x : Int} (h : l[k]? = some x) (hm : m + k + 1 = l.length) : (overTo l k).set m x = overTo l (k + 1) := by
  obtain ⟨h1, h2⟩ := List.getElem?_eq_some_iff.1 h
  unfold overTo
  rw [List.take_succ_eq_append_getElem h1, h2, List.reverse_append, show l.length - k = m + 1 by omega, show l.length - (k + 1) = m by omega, List.replicate_succ', List.append_assoc, List.set_append_right _ _ (by simp), List.length_replicate, Nat.sub_self]
  rfl
theorem overTo_full (l : List Int) : overTo l l.length = l.reverse := by
  unfold overTo
  rw [Nat.sub_self, List.take_length]
  rfl
set_option maxRecDepth 100000 in
set_option maxHeartbeats 4000000 in
theorem implStampOver (g n c : Nat) (l : List Int) (w : World) (hn : l.length = n) (hn2 : n ≤ 1000) (hr : RowI w g l) :
    Calls Try.prog 24 #[.slice (some ⟨g, 0, none⟩) n c] w (OverBack w (possL l) (if possL l then l.reverse else [])) := by
  have C1 := implStampPossible g n c l w hn hn2 hr
  have hgl := hr.1
  cases hok : possL l with
  | false =>
    rw [hok] at C1
    have HC1 := Lib.hid C1
    clear C1 hok hn hr
    go_enter Try.func24, Try.ntmps24
    go_wp2_with fail
    refine HC1.out.mono ?_
    rintro e w1 ⟨rfl, hb1⟩
    have hz1 := hb1.size
    go_wp2_with fail
    go_ret2
    exact ⟨hb1.alloc hz1 _, _, 0, 0, rfl, rfl, hz1, ⟨by simp, fun i x h => by simp at h⟩⟩
  | true =>
    obtain ⟨i0, hi0, hz0, hz1', hz2⟩ := info_parts infoI3
    have HI := Lib.hid hi0; have HZ0 := Lib.hid hz0; have HZ1 := Lib.hid hz1'; have HZ2 := Lib.hid hz2
    rw [hok] at C1
    have HC1 := Lib.hid C1
    have HR := Lib.hid hr
    have HN := Lib.hid hn
    clear C1 hok hn hr hi0 hz0 hz1' hz2
    go_enter Try.func24, Try.ntmps24
    go_wp2_with fail
    refine HC1.out.mono ?_
    rintro e w1 ⟨rfl, hb1⟩
    have hz1 := hb1.size
    have HR1 := Lib.hid (HR.out.below hb1 hgl)
    have hgl1 : g < w1.heap.size := by omega
    go_wp2_with (refine wpList_make_int rfl _ _ 22 rfl 3 i0 Try.underlying22 HI.out HZ0.out HZ1.out HZ2.out .i64 .i64 _ _ n rfl rfl rfl rfl (by omega) ?_; intro w2 hbuf hb2)
    have hz2 := hb2.size
    have HB0 : Hid (BufI w2 w1.heap.size (overTo l 0)) := by
      show BufI _ _ _
      unfold overTo
      rw [HN.out]
      simpa using hbuf
    clear hbuf
    go_wp2_with fail
    go_loopw [18] (fun i wr => ∃ k : Nat, k ≤ n ∧ i = .int .i64 k ∧ Hid (BufI wr w1.heap.size (overTo l k)) ∧ Below w1.heap.size w1 wr) (fun i _ => n - (intOf i).toNat)
    case atStart => exact ⟨0, Nat.zero_le _, rfl, HB0, hb2⟩
    case round =>
      obtain ⟨k, hk, rfl, HBu, hbel⟩ := hrel
      by_cases hlt : k < n
      · obtain ⟨x, hx⟩ : ∃ x, l[k]? = some x := ⟨_, List.getElem?_eq_getElem (by rw [HN.out]; exact hlt)⟩
        have d0 := (HR1.out.below hbel hgl1).2 k x hx
        obtain ⟨m, hm⟩ : ∃ m : Nat, m + k + 1 = n := ⟨n - 1 - k, by omega⟩
        have hl := overTo_length (l := l) (k := k) (by rw [HN.out]; exact hk)
        rw [HN.out] at hl
        obtain ⟨c1, c2⟩ := HBu.out.2 m (by omega)
        have HS : Hid (BufI (wr.setCell ⟨w1.heap.size, m, none⟩ (.int .i64 x)) w1.heap.size (overTo l (k + 1))) := by
          show BufI _ _ _
          rw [← overTo_set hx (by rw [HN.out]; exact hm)]
          exact HBu.out.set m x
        obtain ⟨y, hy⟩ : ∃ y, y = (overTo l k)[m]'(by omega) := ⟨_, rfl⟩
        rw [← hy] at c1
        have e1 : (n : Int) - 1 - (k : Int) = (m : Int) := by omega
        have m0 : (0 : Int) ≤ (m : Int) := by omega
        have m1 : (m : Int) < (n : Int) := by omega
        clear hx hl hy hm
        go_wp2_with fail
        go_roundw
        case rel => exact ⟨k + 1, by omega, by go_num, HS, hbel.setCell (Nat.le_refl _) _⟩
        case measure => simp [intOf]; omega
      · obtain rfl : k = n := by omega
        have HRW : Hid (RowI wr w1.heap.size l.reverse) := by
          show RowI _ _ _
          have := HBu.out.row
          rw [← HN.out, overTo_full] at this
          exact this
        have HLR : Hid (l.reverse.length = k) := by show _ = _; rw [List.length_reverse, HN.out]
        clear HBu
        go_wp2_with fail
        go_ret2
        exact ⟨hb1.trans (hbel.mono hz1), _, k, k, HLR.out, rfl, hz1, HRW.out⟩
end Go.Proofs.Ytadpbbjahckoaaa
