/- The walks of the program's StampBack and of the laws' sameInts. Conditions: the theorem's own premises. -/
import Derived.Test.YtadpbbjahckoaaaStampD
namespace Go.Proofs.Ytadpbbjahckoaaa
set_option maxRecDepth 100000
open Go.RowKit
theorem lvGo_in {n : Nat} : ∀ {l : List Int} {k : Nat} {acc lv : List Int}, lvGo n l k acc = some lv → ∀ x ∈ l, 0 ≤ x ∧ x < (n : Int)
  | [], _, _, _, _, _, hx => by cases hx
  | y :: t, k, acc, lv, h, x, hx => by
    unfold lvGo at h
    split at h
    · cases h
    · rename_i hc
      rcases List.mem_cons.1 hx with rfl | hx
      · exact ⟨by omega, by omega⟩
      · exact lvGo_in h x hx
theorem poss_in {l : List Int} (h : possL l = true) : ∀ x ∈ l, 0 ≤ x ∧ x < (l.length : Int) := by
  unfold possL at h
  rw [Bool.and_eq_true] at h
  cases e : levelsL l with
  | none => rw [e] at h; cases h.2
  | some lv => exact lvGo_in e
/-- The numbers counted from the other end. -/
def backL (l : List Int) : List Int := l.map fun x => (l.length : Int) - 1 - x
theorem backL_length (l : List Int) : (backL l).length = l.length := by
  unfold backL
  rw [List.length_map]
def backTo (l : List Int) (k : Nat) : List Int := (backL l).take k ++ List.replicate (l.length - k) 0
theorem backTo_length {l : List Int} {k : Nat} (h : k ≤ l.length) : (backTo l k).length = l.length := by
  unfold backTo
  simp [backL_length]
  omega
theorem backTo_set {l : List Int} {k : Nat} {x : Int} (h : l[k]? = some x) : (backTo l k).set k ((l.length : Int) - 1 - x) = backTo l (k + 1) := by
  obtain ⟨h1, h2⟩ := List.getElem?_eq_some_iff.1 h
  have h3 : k < (backL l).length := by rw [backL_length]; exact h1
  have h4 : (backL l)[k] = (l.length : Int) - 1 - x := by
    have : (backL l)[k]? = some ((l.length : Int) - 1 - x) := by
      unfold backL
      rw [List.getElem?_map, h]
      rfl
    rw [List.getElem?_eq_getElem h3] at this
    exact Option.some.inj this
  unfold backTo
  rw [List.take_succ_eq_append_getElem h3, h4, show l.length - k = (l.length - (k + 1)) + 1 by omega, List.replicate_succ, List.set_append_right _ _ (by rw [List.length_take]; exact Nat.min_le_left _ _), List.length_take, Nat.min_eq_left (Nat.le_of_lt h3), Nat.sub_self, List.set_cons_zero, List.append_assoc]
  rfl
theorem backTo_full (l : List Int) : backTo l l.length = backL l := by
  unfold backTo
  rw [Nat.sub_self, List.take_of_length_le (by rw [backL_length]; exact Nat.le_refl _)]
  simp
set_option maxRecDepth 100000 in
set_option maxHeartbeats 4000000 in
theorem implStampBack (g n c : Nat) (l : List Int) (w : World) (hn : l.length = n) (hn2 : n ≤ 1000) (hr : RowI w g l) :
    Calls Try.prog 25 #[.slice (some ⟨g, 0, none⟩) n c] w (OverBack w (possL l) (if possL l then backL l else [])) := by
  have C1 := implStampPossible g n c l w hn hn2 hr
  have hgl := hr.1
  cases hok : possL l with
  | false =>
    rw [hok] at C1
    have HC1 := Lib.hid C1
    clear C1 hok hn hr
    go_enter Try.func25, Try.ntmps25
    go_wp2_with fail
    refine HC1.out.mono ?_
    rintro e w1 ⟨rfl, hb1⟩
    have hz1 := hb1.size
    go_wp2_with fail
    go_ret2
    exact ⟨hb1.alloc hz1 _, _, 0, 0, rfl, rfl, hz1, ⟨by simp, fun i x h => by simp at h⟩⟩
  | true =>
    obtain ⟨i0, hi0, hz0, hz1', hz2⟩ := info_parts infoI3
    have HI := Lib.hid hi0; have HZ0 := Lib.hid hz0; have HZ1 := Lib.hid hz1'; have HZ2 := Lib.hid hz2
    rw [hok] at C1
    have HC1 := Lib.hid C1
    have HR := Lib.hid hr
    have HN := Lib.hid hn
    have HIN : Hid (∀ x ∈ l, 0 ≤ x ∧ x < (n : Int)) := by
      show ∀ _, _
      intro x hx
      rw [← hn]
      exact poss_in hok x hx
    clear C1 hok hn hr hi0 hz0 hz1' hz2
    go_enter Try.func25, Try.ntmps25
    go_wp2_with fail
    refine HC1.out.mono ?_
    rintro e w1 ⟨rfl, hb1⟩
    have hz1 := hb1.size
    have HR1 := Lib.hid (HR.out.below hb1 hgl)
    have hgl1 : g < w1.heap.size := by omega
    go_wp2_with (refine wpList_make_int rfl _ _ 22 rfl 3 i0 Try.underlying22 HI.out HZ0.out HZ1.out HZ2.out .i64 .i64 _ _ n rfl rfl rfl rfl (by omega) ?_; intro w2 hbuf hb2)
    have hz2 := hb2.size
    have HB0 : Hid (BufI w2 w1.heap.size (backTo l 0)) := by
      show BufI _ _ _
      unfold backTo
      rw [HN.out]
      simpa using hbuf
    clear hbuf
    go_wp2_with fail
    go_loopw [18] (fun i wr => ∃ k : Nat, k ≤ n ∧ i = .int .i64 k ∧ Hid (BufI wr w1.heap.size (backTo l k)) ∧ Below w1.heap.size w1 wr) (fun i _ => n - (intOf i).toNat)
    case atStart => exact ⟨0, Nat.zero_le _, rfl, HB0, hb2⟩
    case round =>
      obtain ⟨k, hk, rfl, HBu, hbel⟩ := hrel
      by_cases hlt : k < n
      · obtain ⟨x, hx⟩ : ∃ x, l[k]? = some x := ⟨_, List.getElem?_eq_getElem (by rw [HN.out]; exact hlt)⟩
        have d0 := (HR1.out.below hbel hgl1).2 k x hx
        have hxb := HIN.out x (List.mem_of_getElem? hx)
        have hl := backTo_length (l := l) (k := k) (by rw [HN.out]; exact hk)
        rw [HN.out] at hl
        obtain ⟨c1, c2⟩ := HBu.out.2 k (by omega)
        have HS : Hid (BufI (wr.setCell ⟨w1.heap.size, k, none⟩ (.int .i64 ((n : Int) - 1 - x))) w1.heap.size (backTo l (k + 1))) := by
          show BufI _ _ _
          rw [← backTo_set hx, HN.out]
          exact HBu.out.set k _
        obtain ⟨y, hy⟩ : ∃ y, y = (backTo l k)[k]'(by omega) := ⟨_, rfl⟩
        rw [← hy] at c1
        clear hx hl hy
        go_wp2_with fail
        go_roundw
        case rel => exact ⟨k + 1, by omega, by go_num, HS, hbel.setCell (Nat.le_refl _) _⟩
        case measure => simp [intOf]; omega
      · obtain rfl : k = n := by omega
        have HRW : Hid (RowI wr w1.heap.size (backL l)) := by
          show RowI _ _ _
          have := HBu.out.row
          rw [← HN.out, backTo_full] at this
          exact this
        have HLR : Hid ((backL l).length = k) := by show _ = _; rw [backL_length, HN.out]
        clear HBu
        go_wp2_with fail
        go_ret2
        exact ⟨hb1.trans (hbel.mono hz1), _, k, k, HLR.out, rfl, hz1, HRW.out⟩
theorem sameInts_nil (A B : Option Addr) (c d : Nat) (w : World) : Calls Try.prog 14 #[.slice A 0 c, .slice B 0 d] w fun e w' => e = .returned (.bool true) ∧ w = w' := by
  go_enter Try.func14, Try.ntmps14
  go_wp2
  refine wp_loop_rounds 1 ?_
  rw [rounds_succ]
  go_wp2
  go_ret
  exact ⟨rfl, rfl⟩
set_option maxHeartbeats 1000000 in
theorem sameInts (g1 g2 n c d : Nat) (ps : List Int) (w : World) (hn : ps.length = n) (hn2 : n ≤ 1000) (h1 : RowI w g1 ps) (h2 : RowI w g2 ps) :
    Calls Try.prog 14 #[.slice (some ⟨g1, 0, none⟩) n c, .slice (some ⟨g2, 0, none⟩) n d] w fun e w' => e = .returned (.bool true) ∧ Below w.heap.size w w' := by
  have l1 := h1.1
  have l2 := h2.1
  have HN := Lib.hid hn
  have H1 := Lib.hid h1
  have H2 := Lib.hid h2
  clear hn h1 h2
  have t0 : ((n : Int) != (n : Int)) = false := by simp
  go_enter Try.func14, Try.ntmps14
  go_wp2
  go_loopw [5] (fun i wr => ∃ k : Nat, k ≤ n ∧ i = .int .i64 k ∧ Below w.heap.size w wr) (fun i _ => n - (intOf i).toNat)
  case atStart => exact ⟨0, Nat.zero_le _, rfl, Below.refl _ _⟩
  case round =>
    obtain ⟨k, hk, rfl, hbel⟩ := hrel
    have hzr := hbel.size
    by_cases hlt : k < n
    · obtain ⟨p, hp⟩ : ∃ p, ps[k]? = some p := ⟨_, List.getElem?_eq_getElem (by rw [HN.out]; exact hlt)⟩
      have b1 := (H1.out.below hbel l1).2 k p hp
      have b2 := (H2.out.below hbel l2).2 k p hp
      have tp : (p != p) = false := by simp
      clear hp
      have k0 : (0 : Int) ≤ (k : Int) := by omega
      have k1 : (k : Int) < (n : Int) := by omega
      go_wp2
      go_quiet (fail)
      go_wp2
      go_roundw
      case rel => exact ⟨k + 1, by omega, by go_num, below_drewN hbel _⟩
      case measure => simp [intOf]; omega
    · go_wp2
      go_ret
      exact ⟨rfl, hbel⟩
end Go.Proofs.Ytadpbbjahckoaaa
