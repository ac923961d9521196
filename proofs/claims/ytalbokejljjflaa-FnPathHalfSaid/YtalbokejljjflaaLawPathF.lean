/- The law FnPathHalf: the plain law, and the walk. Conditions: each theorem's own premises. -/
import Derived.Test.YtalbokejljjflaaPathD
import Derived.Test.YtalbokejljjflaaPlainP
import Derived.Test.YtalbokejljjflaaLawWordF
namespace Go.Proofs.Ytalbokejljjflaa
open Go.RowKit
theorem word_split {l : List UInt8} (h : wordOk l = true) (h0 : l.length / 2 < l.length) : l = l.take (l.length / 2) ++ l[l.length / 2] :: otherL (l.take (l.length / 2)) := by
  unfold wordOk at h
  simp only [Bool.and_eq_true] at h
  have hw := h.2
  rw [word_step l (by omega), Bool.and_eq_true, beq_iff_eq] at hw
  rw [← hw.2]
  conv => lhs; rw [← List.take_append_drop (l.length / 2) l, List.drop_eq_getElem_cons h0]
theorem endP_fold {l : List UInt8} (h : creas l = true) : endP l = (l.foldl pstep ((1, 0), (1, 0))).1 := by
  rw [endP_yes h]
  unfold stAt
  rw [List.take_length]
theorem endP_half {l : List UInt8} (h : wordOk l = true) (h0 : l.length / 2 < l.length) :
    endP l = ((endP (l.take (l.length / 2))).1 + (turn l[l.length / 2] (endP (l.take (l.length / 2)))).1, (endP (l.take (l.length / 2))).2 + (turn l[l.length / 2] (endP (l.take (l.length / 2)))).2) := by
  have hc : creas l = true := by
    unfold wordOk at h
    simp only [Bool.and_eq_true] at h
    exact h.1.1
  have hc2 := wordOk_half h
  unfold wordOk at hc2
  simp only [Bool.and_eq_true] at hc2
  have hmv := hc2.1.1
  have hmv2 := hmv
  unfold creas at hmv2
  rw [Bool.and_eq_true] at hmv2
  rw [endP_fold hc, endP_fold hmv]
  conv => lhs; rw [word_split h h0]
  exact end_half _ _ hmv2.1
theorem endP_bd (l : List UInt8) : -64 ≤ (endP l).1 ∧ (endP l).1 ≤ 64 ∧ -64 ≤ (endP l).2 ∧ (endP l).2 ≤ 64 := by
  cases h : creas l with
  | false => rw [endP_no h]; decide
  | true =>
    have h2 := h
    unfold creas at h2
    rw [Bool.and_eq_true, decide_eq_true_eq] at h2
    rw [endP_yes h]
    obtain ⟨_, b⟩ := st_bd l l.length (Nat.le_refl _)
    omega
set_option maxHeartbeats 4000000 in
theorem fnPathHalf_walk (w : World) (a0 : Option Addr) (len0 cap0 : Nat) (z0 : List Int) (w0 : IsRow .u8 w a0 len0 cap0 z0) :
    Calls Try.prog 5 #[.slice a0 len0 cap0] w fun e w' => e = .returned (.bool true) ∧ Below w.heap.size w w' := by
  have HW := Lib.hid w0
  clear w0
  by_cases hl : 1048576 < len0
  · go_enter Try.func5, Try.ntmps5
    go_wp2
    go_ret
    exact ⟨rfl, Below.refl _ _⟩
  · go_enter Try.func5, Try.ntmps5
    go_wp2_with fail
    refine (drawWordValid _ _ _ _ _ HW.out HW.out.le).mono ?_
    rintro e w1 ⟨s, rfl, hs, hb1⟩
    have hz1 := hb1.size
    go_wp2_with fail
    refine (implWordValid s _ (by omega)).mono ?_
    rintro e w2 ⟨rfl, hb2⟩
    have hz2 := hb2.size
    have hb12 := hb1.trans (hb2.mono hz1)
    have hz12 := hb12.size
    clear hb1 hb2
    cases hok : wordOk (bl s) with
    | false =>
      have HOK := Lib.hid hok
      clear hok
      go_wp2_with fail
      refine (specWordValid s _ (by omega)).mono ?_
      rintro e w3 ⟨rfl, hb3⟩
      rw [HOK.out]
      go_wp2_with fail
      go_ret
      exact ⟨rfl, hb12.trans (hb3.mono hz12)⟩
    | true =>
      have HOK := Lib.hid hok
      have hc : creas (bl s) = true := by
        unfold wordOk at hok
        simp only [Bool.and_eq_true] at hok
        exact hok.1.1
      have hs63 := creas_len hc
      have HC := Lib.hid hc
      clear hok hc
      go_wp2_with fail
      refine (specWordValid s _ (by omega)).mono ?_
      rintro e w3 ⟨rfl, hb3⟩
      have hb13 := hb12.trans (hb3.mono hz12)
      have hz13 := hb13.size
      clear hb12 hb3
      rw [HOK.out]
      by_cases h0 : s.size = 0
      · have t0 := str_none h0
        go_wp2_with fail
        go_ret
        exact ⟨rfl, hb13⟩
      · have t0 := str_some (s := s) (by omega)
        have hh : s.size / 2 < s.size := by omega
        have hh2 : (bl s).length / 2 < (bl s).length := by rw [bl_length]; exact hh
        obtain ⟨c, hc⟩ : ∃ c, c = s[s.size / 2] := ⟨_, rfl⟩
        obtain ⟨h, hh3⟩ : ∃ h, h = s.size / 2 := ⟨_, rfl⟩
        have e1 : (s.size : Int) / 2 = (h : Int) := by omega
        have hlt : (h : Int) < (s.size : Int) := by omega
        have hle : (h : Int) ≤ (s.size : Int) := by omega
        have hge : (0 : Int) ≤ (h : Int) := by omega
        obtain ⟨A, hA⟩ : ∃ A, A = endP (bl (s.extract 0 h)) := ⟨_, rfl⟩
        obtain ⟨B, hB⟩ : ∃ B, B = endP (bl s) := ⟨_, rfl⟩
        have hAB : B = (A.1 + (turn c A).1, A.2 + (turn c A).2) := by
          have key := endP_half HOK.out hh2
          rw [← hB] at key
          rw [key, hA, hc, hh3, bl_left]
          simp only [bl_length, bl_getElem s (s.size / 2) hh]
          rfl
        have hcA : creas (bl (s.extract 0 h)) = true := by
          have := wordOk_half HOK.out
          unfold wordOk at this
          simp only [Bool.and_eq_true] at this
          rw [bl_left, hh3, ← bl_length]
          exact this.1.1
        have hbd := endP_bd (bl (s.extract 0 h))
        rw [← hA] at hbd
        have C1 : ∀ w, Calls Try.prog 7 #[.string (s.extract 0 h)] w fun e w' => e = .returned (.tuple #[.agg #[.int .i64 A.1, .int .i64 A.2], .bool true]) ∧ Below w.heap.size w w' := by
          intro w
          have h := implPathEnd (s.extract 0 h) w (by rw [size_left _ _ (by omega)]; omega)
          rw [hcA, ← hA] at h
          exact h
        have C2 : ∀ w, Calls Try.prog 7 #[.string s] w fun e w' => e = .returned (.tuple #[.agg #[.int .i64 B.1, .int .i64 B.2], .bool true]) ∧ Below w.heap.size w w' := by
          intro w
          have h := implPathEnd s w (by omega)
          rw [HC.out, ← hB] at h
          exact h
        have HCC := Lib.hid hc
        have HAB := Lib.hid hAB
        have HHH := Lib.hid hh3
        clear hA hB hcA hc hAB hh3
        go_wp2_with fail
        refine (C1 _).mono ?_
        rintro e w4 ⟨rfl, hb4⟩
        have hz4 := hb4.size
        go_wp2_with fail
        refine (C2 _).mono ?_
        rintro e w5 ⟨rfl, hb5⟩
        have hz5 : w4.heap.size + 1 ≤ w5.heap.size := by simpa using hb5.size
        have hc0 : w5.cell? ⟨w4.heap.size, 0, none⟩ = some (.int .i64 A.1) := (hb5.cell (p := ⟨w4.heap.size, 0, none⟩) (by simp)).trans (World.cell?_alloc_mark w4 _ _ (0, 0) 0)
        have hc1 : w5.cell? ⟨w4.heap.size, 1, none⟩ = some (.int .i64 A.2) := (hb5.cell (p := ⟨w4.heap.size, 1, none⟩) (by simp)).trans (World.cell?_alloc_mark w4 _ _ (0, 0) 1)
        have hb45 : Below w4.heap.size w4 w5 := ((Below.refl _ w4).alloc (Nat.le_refl _) _).trans (hb5.mono (by simp))
        have hd0 : ∀ o, (w5.alloc o).cell? ⟨w4.heap.size, 0, none⟩ = some (.int .i64 A.1) := fun o => (((Below.refl _ w5).alloc (Nat.le_refl _) o).cell (p := ⟨w4.heap.size, 0, none⟩) (by show w4.heap.size < _; omega)).trans hc0
        have hd1 : ∀ o, (w5.alloc o).cell? ⟨w4.heap.size, 1, none⟩ = some (.int .i64 A.2) := fun o => (((Below.refl _ w5).alloc (Nat.le_refl _) o).cell (p := ⟨w4.heap.size, 1, none⟩) (by show w4.heap.size < _; omega)).trans hc1
        have HB : Hid (∀ o, Below w.heap.size w (w5.alloc o)) := Lib.hid (fun o => (hb13.trans ((hb4.trans (hb45.mono hz4)).mono hz13)).alloc (by omega) o)
        clear hb5 hc0 hc1 hb45 hb13 hb4
        have hsh : s[h]'(by omega) = c := by rw [HCC.out]; congr 1
        by_cases h86 : c = 86
        · have b1 : IntKind.i64.wrap (A.1 - A.2) = B.1 := by rw [HAB.out, IntKind.wrap_i64]; unfold turn; rw [if_pos h86]; show _ = A.1 + -A.2; omega
          have b2 : IntKind.i64.wrap (A.1 + A.2) = B.2 := by rw [HAB.out, IntKind.wrap_i64]; unfold turn; rw [if_pos h86]; show _ = A.2 + A.1; omega
          have t86 : ((c.toNat : Int) == 86) = true := by rw [h86]; decide
          go_wp2_with fail
          go_ret
          exact ⟨rfl, HB.out _⟩
        · have b1 : IntKind.i64.wrap (A.1 + A.2) = B.1 := by rw [HAB.out, IntKind.wrap_i64]; unfold turn; rw [if_neg h86]; show _ = A.1 + A.2; omega
          have b2 : IntKind.i64.wrap (A.2 - A.1) = B.2 := by rw [HAB.out, IntKind.wrap_i64]; unfold turn; rw [if_neg h86]; show _ = A.2 + -A.1; omega
          have t86 : ((c.toNat : Int) == 86) = false := by
            rw [beq_eq_false_iff_ne]
            intro h
            exact h86 (byte_eq (n := 86) (by rw [beq_iff_eq]; exact h))
          go_wp2_with fail
          go_ret
          exact ⟨rfl, HB.out _⟩
end Go.Proofs.Ytalbokejljjflaa
