/- The law FnExactStampNth, walked: it returns true. Conditions: each theorem's own premises. -/
import Derived.Test.YtadpbbjahckoaaaSortC
import Derived.Test.YtadpbbjahckoaaaStampL
namespace Go.Proofs.Ytadpbbjahckoaaa
open Go.RowKit
theorem RowI.next {w w' : World} {g : Nat} {xs : List Int} (h : RowI w g xs) (hb : Below w.heap.size w w') : RowI w' g xs := h.below hb h.1
theorem below_step {a b c : World} (h : Below a.heap.size a b) (k : Below b.heap.size b c) : Below a.heap.size a c := h.trans (k.mono h.size)
def marksL (n : Nat) : List Int := (List.range n).map fun (i : Nat) => (i : Int) + 1
def marksTo (xs : List Int) (k : Nat) : List Int := marksL k ++ xs.drop k
theorem marksL_length (n : Nat) : (marksL n).length = n := by unfold marksL; rw [List.length_map, List.length_range]
theorem marksL_get {n i : Nat} (h : i < n) : (marksL n)[i]? = some ((i : Int) + 1) := by
  unfold marksL
  rw [List.getElem?_map, List.getElem?_range h]
  rfl
theorem marksTo_length {xs : List Int} {k : Nat} (h : k ≤ xs.length) : (marksTo xs k).length = xs.length := by
  unfold marksTo
  rw [List.length_append, marksL_length, List.length_drop]
  omega
theorem marksTo_set {xs : List Int} {k : Nat} (h : k < xs.length) : (marksTo xs k).set k ((k : Int) + 1) = marksTo xs (k + 1) := by
  unfold marksTo
  rw [List.set_append_right _ _ (by rw [marksL_length]; exact Nat.le_refl _), marksL_length, Nat.sub_self, List.drop_eq_getElem_cons h, List.set_cons_zero]
  unfold marksL
  rw [List.range_succ, List.map_append, List.append_assoc]
  rfl
theorem marksTo_full (xs : List Int) : marksTo xs xs.length = marksL xs.length := by
  unfold marksTo
  rw [List.drop_length, List.append_nil]
set_option maxHeartbeats 1000000 in
theorem eqIntS (g1 g2 n c d : Nat) (ps : List Int) (w : World) (hn : ps.length = n) (hn2 : n ≤ 1000) (h1 : RowI w g1 ps) (h2 : RowI w g2 ps) :
    Calls Try.prog 10 #[.slice (some ⟨g1, 0, none⟩) n c, .slice (some ⟨g2, 0, none⟩) n d] w fun e w' => e = .returned (.bool true) ∧ Below w.heap.size w w' := by
  have l1 := h1.1
  have l2 := h2.1
  have HN := Lib.hid hn
  have H1 := Lib.hid h1
  have H2 := Lib.hid h2
  clear hn h1 h2
  have t0 : ((n : Int) != (n : Int)) = false := by simp
  go_enter Try.func10, Try.ntmps10
  go_wp2
  go_loopw [5] (fun i wr => ∃ k : Nat, k ≤ n ∧ i = .int .i64 k ∧ Below w.heap.size w wr) (fun i _ => n - (intOf i).toNat)
  case atStart => exact ⟨0, Nat.zero_le _, rfl, Below.refl _ _⟩
  case round =>
    obtain ⟨k, hk, rfl, hbel⟩ := hrel
    have hzr := hbel.size
    by_cases hlt : k < n
    · obtain ⟨p, hp⟩ : ∃ p, ps[k]? = some p := ⟨_, List.getElem?_eq_getElem (by rw [HN.out]; exact hlt)⟩
      have b1 := (H1.out.below hbel l1).2 k p hp
      have b2 := (H2.out.below hbel l2).2 k p hp
      have tp : (p != p) = false := by simp
      clear hp
      have k0 : (0 : Int) ≤ (k : Int) := by omega
      have k1 : (k : Int) < (n : Int) := by omega
      go_wp2
      go_quiet (fail)
      go_wp2
      go_roundw
      case rel => exact ⟨k + 1, by omega, by go_num, below_drewN hbel _⟩
      case measure => simp [intOf]; omega
    · go_wp2
      go_ret
      exact ⟨rfl, hbel⟩
set_option maxHeartbeats 1000000 in
theorem markIntS (g n c : Nat) (xs : List Int) (w : World) (hn : xs.length = n) (hn2 : n ≤ 1000) (hb : BufI w g xs) :
    Calls Try.prog 11 #[.slice (some ⟨g, 0, none⟩) n c, .int .i64 1] w fun e w' => e = .returned (.int .i64 ((n : Int) + 1)) ∧ BufI w' g (marksL n) ∧ w.grownBy w' (some g) := by
  have HN := Lib.hid hn
  have HB0 : Hid (BufI w g (marksTo xs 0)) := Lib.hid hb
  clear hn hb
  go_enter Try.func11, Try.ntmps11
  go_wp2_with fail
  go_loopw [1, 5] (fun v i wr => ∃ k : Nat, k ≤ n ∧ i = .int .i64 k ∧ v = .int .i64 ((k : Int) + 1) ∧ Hid (BufI wr g (marksTo xs k)) ∧ Hid (w.grownBy wr (some g))) (fun _ i _ => n - (intOf i).toNat)
  case atStart => exact ⟨0, Nat.zero_le _, rfl, rfl, HB0, Lib.hid (World.grownBy.refl w _)⟩
  case round =>
    obtain ⟨k, hk, rfl, rfl, HBu, HG⟩ := hrel
    by_cases hlt : k < n
    · have hxl : k < xs.length := by rw [HN.out]; exact hlt
      obtain ⟨c1, d1⟩ := HBu.out.cellD (k := k) (by rw [marksTo_length (Nat.le_of_lt hxl)]; exact hxl)
      obtain ⟨y, hy⟩ : ∃ y, y = (marksTo xs k).getD k 0 := ⟨_, rfl⟩
      rw [← hy] at c1
      have HS : Hid (BufI (wr.setCell ⟨g, k, none⟩ (.int .i64 ((k : Int) + 1))) g (marksTo xs (k + 1))) := by
        show BufI _ _ _
        rw [← marksTo_set hxl]
        exact HBu.out.set k _
      have HG2 : Hid (w.grownBy (wr.setCell ⟨g, k, none⟩ (.int .i64 ((k : Int) + 1))) (some g)) := Lib.hid (grown_setCell HG.out k _)
      clear hxl hy
      go_wp2_with fail
      go_roundw
      case rel => exact ⟨k + 1, by omega, by go_num, by go_num, HS, HG2⟩
      case measure => simp [intOf]; omega
    · obtain rfl : k = n := by omega
      have HF : Hid (BufI wr g (marksL k)) := by
        show BufI _ _ _
        have := marksTo_full xs
        rw [HN.out] at this
        rw [← this]
        exact HBu.out
      go_wp2_with fail
      go_ret
      exact ⟨rfl, HF.out, HG.out⟩
set_option maxHeartbeats 1000000 in
theorem heldIntS (g n c : Nat) (w : World) (hn2 : n ≤ 1000) (hb : RowI w g (marksL n)) :
    Calls Try.prog 12 #[.slice (some ⟨g, 0, none⟩) n c, .int .i64 1] w fun e w' => e = .returned (.int .i64 ((n : Int) + 1)) ∧ w = w' := by
  have HB := Lib.hid hb
  clear hb
  go_enter Try.func12, Try.ntmps12
  go_wp2_with fail
  go_loopw [1, 5] (fun v i wr => ∃ k : Nat, k ≤ n ∧ i = .int .i64 k ∧ v = .int .i64 ((k : Int) + 1) ∧ w = wr) (fun _ i _ => n - (intOf i).toNat)
  case atStart => exact ⟨0, Nat.zero_le _, rfl, rfl, rfl⟩
  case round =>
    obtain ⟨k, hk, rfl, rfl, hw⟩ := hrel
    subst hw
    by_cases hlt : k < n
    · have c1 := HB.out.2 k _ (marksL_get hlt)
      have t1 : (((k : Int) + 1) != ((k : Int) + 1)) = false := by simp
      have k0 : (0 : Int) ≤ (k : Int) := by omega
      have k1 : (k : Int) < (n : Int) := by omega
      go_wp2_with fail
      go_roundw
      case rel => exact ⟨k + 1, by omega, by go_num, by go_num, by first | rfl | trivial⟩
      case measure => simp [intOf]; omega
    · obtain rfl : k = n := by omega
      go_wp2_with fail
      go_ret
      exact ⟨rfl, by first | rfl | trivial⟩
set_option maxRecDepth 100000 in
set_option maxHeartbeats 4000000 in
theorem fnExactStampNth_walk (a0 : Int) (_w0 : (Lit.int .i64 a0).wf = true) (a1 : Int) (_w1 : (Lit.int .i64 a1).wf = true) (w : World) :
    Calls Try.prog 3 #[.int .i64 a0, .int .i64 a1] w fun e w' => e = .returned (.bool true) ∧ Below w.heap.size w w' := by
  have hxl := nth_len a0 a1
  have C1 := fun w => specStampNth a0 a1 w
  have C2 := fun w => implStampNthB a0 a1 w
  obtain ⟨ok, hok⟩ : ∃ b, b = (nthI a0 a1).isSome := ⟨_, rfl⟩
  obtain ⟨xs, hxs⟩ : ∃ l, l = (nthI a0 a1).getD [] := ⟨_, rfl⟩
  rw [← hok, ← hxs] at C1 C2
  rw [← hxs] at hxl
  have HC1 := Lib.hid C1
  have HC2 := Lib.hid C2
  have tne : (ok != ok) = false := by cases ok <;> rfl
  clear C1 C2 hok hxs
  go_enter Try.func3, Try.ntmps3
  go_wp2_with fail
  refine (HC1.out _).mono ?_
  rintro e w1 ⟨hb1, g1, n1, c1, hn1, rfl, hg1, hr1⟩
  have HB1 := Lib.hid hb1
  have HR1 := Lib.hid hr1
  have HN := Lib.hid hn1
  have hn7 : n1 ≤ 7 := by omega
  clear hb1 hr1 hxl hn1
  go_wp2_with fail
  refine (HC2.out _).mono ?_
  rintro e w2 ⟨hb2, g2, n2, c2, hn2, rfl, hg2, hr2⟩
  obtain rfl : n2 = n1 := by rw [← hn2]; exact HN.out
  have HB2 := Lib.hid (below_step HB1.out hb2)
  have HW2 := Lib.hid (HR1.out.next hb2)
  have HX2 := Lib.hid hr2
  have hgg : g1 < g2 := by have := HR1.out.1; omega
  clear hb2 hr2 hn2
  go_wp2_with fail
  refine (eqIntS g2 g1 n2 c2 c1 xs _ HN.out (by omega) HX2.out.row HW2.out).mono ?_
  rintro e w3 ⟨rfl, hb3⟩
  have HB3 := Lib.hid (below_step HB2.out hb3)
  have HW3 := Lib.hid (HW2.out.next hb3)
  have HX3 := Lib.hid (HX2.out.below hb3 HX2.out.1)
  clear hb3
  go_wp2_with fail
  refine (markIntS g2 n2 c2 xs _ HN.out (by omega) HX3.out).mono ?_
  rintro e w4 ⟨rfl, hx4, hgr4⟩
  have HB4 : Hid (Below w.heap.size w w4) := Lib.hid (HB3.out.grown hgr4 HB3.out.size (fun k e => by cases e; have := HB1.out.size; omega))
  have HW4 := Lib.hid (HW3.out.keep (hgr4.block g1 HW3.out.1 (fun e => by have := Option.some.inj e; omega)))
  have HX4 := Lib.hid hx4.row
  clear hx4 hgr4
  go_wp2_with fail
  refine (heldIntS g2 n2 c2 _ (by omega) HX4.out).mono ?_
  rintro e w5 ⟨rfl, rfl⟩
  have t5 : ¬ (n2 : Int) + 1 < 0 := by omega
  have t6 : (((n2 : Int) + 1) != ((n2 : Int) + 1)) = false := by simp
  go_wp2_with fail
  refine (HC2.out _).mono ?_
  rintro e w6 ⟨hb6, g6, n6, c6, hn6, rfl, hg6, hr6⟩
  obtain rfl : n6 = n2 := by rw [← hn6]; exact HN.out
  have HB6 := Lib.hid (below_step HB4.out hb6)
  have HW6 := Lib.hid (HW4.out.next hb6)
  have HX6 := Lib.hid (HX4.out.next hb6)
  have HY6 := Lib.hid hr6
  clear hb6 hr6 hn6
  go_wp2_with fail
  refine (eqIntS g6 g1 n6 c6 c1 xs _ HN.out (by omega) HY6.out.row HW6.out).mono ?_
  rintro e w7 ⟨rfl, hb7⟩
  have HB7 := Lib.hid (below_step HB6.out hb7)
  have HX7 := Lib.hid (HX6.out.next hb7)
  clear hb7
  go_wp2_with fail
  refine (heldIntS g2 n6 c2 _ (by omega) HX7.out).mono ?_
  rintro e w8 ⟨rfl, rfl⟩
  go_wp2_with fail
  go_ret
  exact ⟨rfl, HB7.out⟩
end Go.Proofs.Ytadpbbjahckoaaa
