/- The law FnStackLast, walked: it returns true. Conditions: each theorem's own premises. -/
import Derived.Test.YtnpmpkolglmhdaaSame
import Derived.Test.YtnpmpkolglmhdaaDrawS
import Derived.Test.YtnpmpkolglmhdaaPlainU
import Derived.Test.YtnpmpkolglmhdaaStackL
namespace Go.Proofs.Ytnpmpkolglmhdaa
open Go.RowKit
theorem own_cap {w : World} {base n size g cap : Nat} {e : TypeId} {xs : List Value} (h : w.ownsRow base e size (.slice (some ⟨g, 0, none⟩) n cap) n xs) : n ≤ cap := by
  obtain ⟨_, h0 | ⟨g', cap', cur, hv, h1, h2, h3, h4, h5, h6⟩⟩ := h
  · simp at h0
  · simp only [Value.slice.injEq, Option.some.injEq, Addr.mk.injEq, and_true, true_and] at hv
    obtain ⟨rfl, rfl⟩ := hv
    first | exact h3 | exact h4 | exact h5 | omega
/-- A cell of the lower half and the one that lies opposite. -/
theorem last_pair {l : List UInt8} (hok : sheetOk l = true) (h0 : 0 < l.length) {m : Nat} (hm : (stackC l).length = 2 * m) {k : Nat} (hk : k < m) {x y : Cel} (hx : (stackC l)[k]? = some x) (hy : (stackC l)[m + (m - 1 - k)]? = some y) :
    x.up = !y.up ∧ ((x.row = y.row ∧ (x.col - y.col = 1 ∨ x.col - y.col = -1)) ∨ (x.col = y.col ∧ (x.row - y.row = 1 ∨ x.row - y.row = -1))) := by
  obtain ⟨A, B, hl, hs, hp⟩ := last_fold hok h0
  have hA : A.length = m ∧ B.length = m := by
    rcases hs with h | h <;> (rw [h] at hm; simp at hm; omega)
  rcases hs with h | h
  · rw [h] at hx hy
    rw [List.getElem?_append_left (by omega)] at hx
    rw [List.getElem?_append_right (by omega), List.getElem?_reverse (by omega)] at hy
    have e : B.length - 1 - (m + (m - 1 - k) - A.length) = k := by omega
    rw [e] at hy
    exact hp k x y hx hy
  · rw [h] at hx hy
    rw [List.getElem?_append_left (by simp; omega), List.getElem?_reverse (by omega)] at hx
    rw [List.getElem?_append_right (by simp; omega)] at hy
    have e : m + (m - 1 - k) - B.reverse.length = B.length - 1 - k := by simp; omega
    rw [e] at hy
    obtain ⟨u, hr⟩ := hp _ y x hy hx
    refine ⟨by rw [u]; simp, ?_⟩
    rcases hr with ⟨h1, h2⟩ | ⟨h1, h2⟩
    · exact .inl ⟨h1.symm, by omega⟩
    · exact .inr ⟨h1.symm, by omega⟩
set_option maxRecDepth 100000 in
set_option maxHeartbeats 8000000 in
theorem fnStackLast_walk (w : World) (a0 : Option Addr) (len0 cap0 : Nat) (z0 : List Int) (w0 : IsRow .u8 w a0 len0 cap0 z0) :
    Calls Try.prog 5 #[.slice a0 len0 cap0] w fun e w' => e = .returned (.bool true) ∧ Below w.heap.size w w' := by
  have HW := Lib.hid w0
  clear w0
  by_cases hl : 1048576 < len0
  · go_enter Try.func5, Try.ntmps5
    go_wp2
    go_ret
    exact ⟨rfl, Below.refl _ _⟩
  · go_enter Try.func5, Try.ntmps5
    go_wp2_with fail
    refine (drawSheetStack _ _ _ _ _ HW.out HW.out.le).mono ?_
    rintro e w1 ⟨s, rfl, hs, hb1⟩
    have hz1 := hb1.size
    cases hok : sheetOk (bl s) with
    | false =>
      have HOK := Lib.hid hok
      clear hok
      go_wp2_with fail
      refine (implSheetStack_no s _ (by unfold maxLen; omega) HOK.out).mono ?_
      rintro e w2 ⟨A2, rfl, hb2⟩
      have hz2 := hb2.size
      go_wp2_with fail
      refine (specSheetStack_no s _ (by unfold maxLen; omega) HOK.out).mono ?_
      rintro e w3 ⟨A3, rfl, hb3⟩
      go_wp2_with fail
      refine (sameCells_nil _ _ _ _ _).mono ?_
      rintro e w4 ⟨rfl, rfl⟩
      go_wp2_with fail
      refine (sameCells_nil _ _ _ _ _).mono ?_
      rintro e w4 ⟨rfl, rfl⟩
      go_wp2_with fail
      go_ret
      exact ⟨rfl, hb1.trans ((hb2.trans (hb3.mono hz2)).mono hz1)⟩
    | true =>
      obtain ⟨hn1, hn32⟩ := stackC_bd hok
      have hlen := stackC_length (bl s)
      rw [bl_length] at hlen
      obtain ⟨cs, hcs⟩ : ∃ cs, cs = stackC (bl s) := ⟨_, rfl⟩
      have HR1 : Hid (∀ w, Calls Try.prog 18 #[.string s] w (StackRead w cs)) := by rw [hcs]; exact fun w => specSheetStack s w hok
      have HR2 : Hid (∀ w, Calls Try.prog 12 #[.string s] w (StackBack w cs)) := by rw [hcs]; exact fun w => implSheetStack s w hok
      rw [← hcs] at hn1 hn32 hlen
      obtain ⟨n, hn⟩ : ∃ n, cs.length = n := ⟨_, rfl⟩
      have HN := Lib.hid hn
      rw [hn] at hn1 hn32 hlen
      have hs5 : s.size ≤ 5 := by rw [← bl_length]; exact (ok_is hok).2
      have HOK := Lib.hid hok
      have HCS := Lib.hid hcs
      have HLEN := Lib.hid hlen
      clear hcs hn hok hlen
      go_wp2_with fail
      refine (HR2.out _).mono ?_
      rintro e w2 ⟨g2, c2, rfl, hg2, ho2, hb2⟩
      rw [HN.out] at ho2 ⊢
      have hz2 := hb2.size
      have hl2 : g2 < w2.heap.size := (ho2.lt _ rfl).2
      have hr2 := RowC.of_own ho2
      have hc2 := own_cap ho2
      clear ho2
      go_wp2_with fail
      refine (HR1.out _).mono ?_
      rintro e w3 ⟨g3, c3, rfl, hr3, hb3⟩
      rw [HN.out]
      have hz3 := hb3.size
      have hr23 := hr2.keep (hb3.block g2 hl2)
      clear hr2
      go_wp2_with fail
      refine (sameCells g2 g3 n _ _ cs _ HN.out (by omega) hr23 hr3).mono ?_
      rintro e w4 ⟨rfl, hb4⟩
      have hz4 := hb4.size
      have HR4 := Lib.hid (hr23.keep (hb4.block g2 (by omega)))
      have hb14 : Below w.heap.size w w4 := hb1.trans ((hb2.trans ((hb3.trans (hb4.mono hz3)).mono hz2)).mono hz1)
      have hz14 := hb14.size
      have hgl4 : g2 < w4.heap.size := by omega
      clear hb1 hb2 hb3 hb4 hr23 hr3
      by_cases h0 : s.size = 0
      · have hl0 : bl s = [] := List.eq_nil_of_length_eq_zero (by rw [bl_length]; exact h0)
        have hc0 : cs = [⟨0, 0, true, true⟩] := by rw [HCS.out, hl0]; rfl
        have hn0 : n = 1 := by rw [← HN.out, hc0]; rfl
        have t0 : ((s.size : Int) == 0) = true := by rw [h0]; rfl
        obtain ⟨k1, k2, k3, k4⟩ := HR4.out.at (show cs[0]? = some ⟨0, 0, true, true⟩ by rw [hc0]; rfl)
        simp only [Nat.zero_mul, Nat.zero_add] at k1 k2 k3 k4
        subst hn0
        clear hc0 hl0 h0
        go_wp2_with fail
        first | go_quiet (fail) | skip
        go_wp2_with fail
        go_ret
        first | exact ⟨rfl, hb14⟩ | exact ⟨rfl, below_drewN hb14 _⟩
      · have t0 : ((s.size : Int) == 0) = false := by rw [beq_eq_false_iff_ne]; omega
        have hs0 : 0 < (bl s).length := by rw [bl_length]; omega
        obtain ⟨m, hm⟩ : ∃ m, n = 2 * m := by
          have := HLEN.out
          obtain ⟨j, hj⟩ : ∃ j, s.size = j + 1 := ⟨s.size - 1, by omega⟩
          rw [hj, Nat.pow_succ] at this
          exact ⟨2 ^ j, by omega⟩
        have HLF : Hid (∀ k x y, k < m → cs[k]? = some x → cs[m + (m - 1 - k)]? = some y → x.up = !y.up ∧ ((x.row = y.row ∧ (x.col - y.col = 1 ∨ x.col - y.col = -1)) ∨ (x.col = y.col ∧ (x.row - y.row = 1 ∨ x.row - y.row = -1)))) := fun k x y hk hx hy => by
          rw [HCS.out] at hx hy
          exact last_pair HOK.out hs0 (by rw [← HCS.out, HN.out]; exact hm) hk hx hy
        have HRG : Hid (∀ (k : Nat) x, cs[k]? = some x → 0 ≤ x.row ∧ x.row ≤ 32 ∧ 0 ≤ x.col ∧ x.col ≤ 32) := fun k x hx => by
          rw [HCS.out] at hx
          have := in_range HOK.out (List.mem_of_getElem? hx)
          have b1 := (rowsOf_bd (bl s) (ok_is HOK.out).2).2
          have b2 := (colsOf_bd (bl s) (ok_is HOK.out).2).2
          omega
        have e1 : (n : Int) / 2 = (m : Int) := by omega
        have e2 : (m : Int) ≤ (n : Int) := by omega
        have e3 : (0 : Int) ≤ (m : Int) := by omega
        have e4 : (m : Int) ≤ (c2 : Int) := by omega
        have e5 : (n : Int) ≤ (c2 : Int) := by omega
        have e6 : c2 ≠ m := by omega
        have hm1 : 1 ≤ m := by omega
        have HM := Lib.hid hm
        clear hm hs0 h0
        go_wp2_with fail
        go_loopw [12] (fun i wr => ∃ k : Nat, k ≤ m ∧ i = .int .i64 k ∧ Below w4.heap.size w4 wr) (fun i _ => m - (intOf i).toNat)
        case atStart => exact ⟨0, Nat.zero_le _, rfl, Below.refl _ _⟩
        case round =>
          obtain ⟨k, hk, rfl, hbel⟩ := hrel
          have hzr := hbel.size
          by_cases hlt : k < m
          · obtain ⟨j, hj⟩ : ∃ j, j = m - 1 - k := ⟨_, rfl⟩
            obtain ⟨x, hx⟩ : ∃ x, cs[k]? = some x := ⟨_, List.getElem?_eq_getElem (by rw [HN.out]; have := HM.out; omega)⟩
            obtain ⟨y, hy⟩ : ∃ y, cs[m + (m - 1 - k)]? = some y := ⟨_, List.getElem?_eq_getElem (by rw [HN.out]; have := HM.out; omega)⟩
            obtain ⟨hu, hd⟩ := HLF.out k x y hlt hx hy
            obtain ⟨x1, x2, x3, x4⟩ := HRG.out k x hx
            obtain ⟨y1, y2, y3, y4⟩ := HRG.out _ y hy
            obtain ⟨b1, b2, b3, b4⟩ := (HR4.out.below hbel hgl4).at hx
            obtain ⟨b5, b6, b7, b8⟩ := (HR4.out.below hbel hgl4).at hy
            have q5 : (m + (m - 1 - k)) * 4 = m * 4 + j * 4 := by rw [Nat.add_mul, hj]
            rw [q5] at b5 b6 b7 b8
            obtain ⟨xr, xc, xu, xh⟩ := x
            obtain ⟨yr, yc, yu, yh⟩ := y
            simp only at hu hd x1 x2 x3 x4 y1 y2 y3 y4 b1 b2 b3 b4 b5 b6 b7 b8
            have HJ := Lib.hid hj
            have f1 : (m : Int) - 1 - (k : Int) = (j : Int) := by omega
            have f2 : (j : Int) < ((n - m : Nat) : Int) := by have := HM.out; omega
            have f3 : (0 : Int) ≤ (j : Int) := by omega
            have f4 : (k : Int) < (m : Int) := by omega
            have f5 : (0 : Int) ≤ (k : Int) := by omega
            have f6 : IntKind.i64.wrap ((m : Int) - 1) = (m : Int) - 1 := by rw [IntKind.wrap_i64]; omega
            have f7 : IntKind.i64.wrap ((m : Int) - 1 - (k : Int)) = (j : Int) := by rw [f1, IntKind.wrap_i64]; omega
            have f8 : IntKind.i64.wrap (j : Int) = (j : Int) := by rw [IntKind.wrap_i64]; omega
            have tu : (xu == yu) = false := by rw [hu]; cases yu <;> rfl
            have HX := Lib.hid hx
            have HY := Lib.hid hy
            clear hx hy hj hu q5
            have hbA : Below wr.heap.size wr (wr.alloc (.cells #[.int .i64 xr, .int .i64 xc, .bool xu, .bool xh] 30)) := (Below.refl _ _).alloc (Nat.le_refl _) _
            have j5 := (hbA.cell (p := ⟨g2, m * 4 + j * 4, none⟩) (show g2 < wr.heap.size by omega)).trans b5
            have j6 := (hbA.cell (p := ⟨g2, m * 4 + j * 4 + 1, none⟩) (show g2 < wr.heap.size by omega)).trans b6
            have j7 := (hbA.cell (p := ⟨g2, m * 4 + j * 4 + 2, none⟩) (show g2 < wr.heap.size by omega)).trans b7
            have j8 := (hbA.cell (p := ⟨g2, m * 4 + j * 4 + 3, none⟩) (show g2 < wr.heap.size by omega)).trans b8
            have DA := Four.new wr (.int .i64 xr) (.int .i64 xc) (.bool xu) (.bool xh) 30
            obtain ⟨d1, d2, d3, d4, _, _, _, _⟩ := DA.keep (Below.heap_alloc _ (.cells #[.int .i64 yr, .int .i64 yc, .bool yu, .bool yh] 30) _ DA.lt)
            obtain ⟨d5, d6, d7, d8, _, _, _, _⟩ := Four.new (wr.alloc (.cells #[.int .i64 xr, .int .i64 xc, .bool xu, .bool xh] 30)) (.int .i64 yr) (.int .i64 yc) (.bool yu) (.bool yh) 30
            clear b5 b6 b7 b8 hbA DA
            have hbz : Below w4.heap.size w4 ((wr.alloc (.cells #[.int .i64 xr, .int .i64 xc, .bool xu, .bool xh] 30)).alloc (.cells #[.int .i64 yr, .int .i64 yc, .bool yu, .bool yh] 30)) := (hbel.alloc hzr _).alloc (by simp; omega) _
            have HD := Lib.hid hd
            clear hd
            go_wp2_with fail
            all_goals first
              | exact ⟨⟨k + 1, by omega, by go_num, hbz⟩, by simp [intOf]; omega⟩
              | (exfalso
                 have hd := HD.out
                 try simp only [beq_iff_eq] at *
                 omega)
          · go_wp2
            go_ret
            exact ⟨rfl, hb14.trans (hbel.mono hz14)⟩
end Go.Proofs.Ytnpmpkolglmhdaa
