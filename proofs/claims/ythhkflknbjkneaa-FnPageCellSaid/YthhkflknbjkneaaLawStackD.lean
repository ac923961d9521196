/- The laws FnPagesFold and FnPages, walked: each returns true. Conditions: each theorem's own premises. -/
import Derived.Test.YthhkflknbjkneaaStackQ
import Derived.Test.YthhkflknbjkneaaStackN
import Derived.Test.YthhkflknbjkneaaSame
import Derived.Test.YthhkflknbjkneaaDrawS
import Derived.Test.YthhkflknbjkneaaPlainU
namespace Go.Proofs.Ythhkflknbjkneaa
open Go.RowKit
theorem pageC_at {l : List UInt8} {page : Int} {k : Nat} (hok : sheetOk l = true) (hk : k < (stackC l).length) (h : (page - 1) / 2 = ((stackC l).length : Int) - 1 - k) (h1 : 1 ≤ page) : pageC l page = (celOf l k, true) := by
  unfold pageC
  rw [if_pos ⟨hok, h1, by omega⟩]
  congr 2
  omega
/-- The two cells in the midst of a stack lie on different sides. -/
theorem mid_up {l : List UInt8} (hok : sheetOk l = true) (h0 : 0 < l.length) {m : Nat} (hm : (stackC l).length = 2 * m) {x y : Cel} (hx : (stackC l)[m]? = some x) (hy : (stackC l)[m - 1]? = some y) : x.up = !y.up := by
  obtain ⟨A, B, hl, hs, hp⟩ := last_fold hok h0
  have hA : A.length = m ∧ B.length = m := by
    rcases hs with h | h <;> (rw [h] at hm; simp at hm; omega)
  have hm1 : 0 < m := by
    by_cases e : m = 0
    · rw [e] at hm
      have := (stackC_bd hok).1
      omega
    · omega
  rcases hs with h | h
  · rw [h] at hx hy
    rw [List.getElem?_append_right (by omega)] at hx
    rw [List.getElem?_append_left (by omega)] at hy
    rw [List.getElem?_reverse (by omega)] at hx
    have e : B.length - 1 - (m - A.length) = m - 1 := by omega
    rw [e] at hx
    have := (hp (m - 1) y x hy hx).1
    rw [this]
    simp
  · rw [h] at hx hy
    rw [List.getElem?_append_right (by simp; omega)] at hx
    rw [List.getElem?_append_left (by simp; omega)] at hy
    rw [List.getElem?_reverse (by omega)] at hy
    have e : B.length - 1 - (m - 1) = 0 := by omega
    have e2 : m - B.reverse.length = 0 := by simp; omega
    rw [e] at hy
    rw [e2] at hx
    exact (hp 0 x y hx hy).1
set_option maxRecDepth 100000 in
set_option maxHeartbeats 4000000 in
theorem fnPagesFold_walk (w : World) (a0 : Option Addr) (len0 cap0 : Nat) (z0 : List Int) (w0 : IsRow .u8 w a0 len0 cap0 z0) :
    Calls Try.prog 7 #[.slice a0 len0 cap0] w fun e w' => e = .returned (.bool true) ∧ Below w.heap.size w w' := by
  have HW := Lib.hid w0
  clear w0
  by_cases hl : 1048576 < len0
  · go_enter Try.func7, Try.ntmps7
    go_wp2
    go_ret
    exact ⟨rfl, Below.refl _ _⟩
  · go_enter Try.func7, Try.ntmps7
    go_wp2_with fail
    refine (drawSheetStack _ _ _ _ _ HW.out HW.out.le).mono ?_
    rintro e w1 ⟨s, rfl, hs, hb1⟩
    have hz1 := hb1.size
    cases hok : sheetOk (bl s) with
    | false =>
      have HOK := Lib.hid hok
      clear hok
      go_wp2_with fail
      refine (implSheetStack_no s _ (by unfold maxLen; omega) HOK.out).mono ?_
      rintro e w2 ⟨A2, rfl, hb2⟩
      have hz2 := hb2.size
      go_wp2_with fail
      refine (specSheetStack_no s _ (by unfold maxLen; omega) HOK.out).mono ?_
      rintro e w3 ⟨A3, rfl, hb3⟩
      go_wp2_with fail
      refine (sameCells_nil _ _ _ _ _).mono ?_
      rintro e w4 ⟨rfl, rfl⟩
      go_wp2_with fail
      refine (sameCells_nil _ _ _ _ _).mono ?_
      rintro e w4 ⟨rfl, rfl⟩
      go_wp2_with fail
      go_ret
      exact ⟨rfl, hb1.trans ((hb2.trans (hb3.mono hz2)).mono hz1)⟩
    | true =>
      obtain ⟨hn1, hn32⟩ := stackC_bd hok
      have hlen := stackC_length (bl s)
      rw [bl_length] at hlen
      have hPC := fun page w => implPageCell s page w (show s.size ≤ maxLen by unfold maxLen; omega)
      obtain ⟨cs, hcs⟩ : ∃ cs, cs = stackC (bl s) := ⟨_, rfl⟩
      have HR1 : Hid (∀ w, Calls Try.prog 20 #[.string s] w (StackRead w cs)) := by rw [hcs]; exact fun w => specSheetStack s w hok
      have HR2 : Hid (∀ w, Calls Try.prog 19 #[.string s] w (StackBack w cs)) := by rw [hcs]; exact fun w => implSheetStack s w hok
      rw [← hcs] at hn1 hn32 hlen
      obtain ⟨n, hn⟩ : ∃ n, cs.length = n := ⟨_, rfl⟩
      have HN := Lib.hid hn
      rw [hn] at hn1 hn32 hlen
      have HPC := Lib.hid hPC
      have HOK := Lib.hid hok
      have HCS := Lib.hid hcs
      have HLEN := Lib.hid hlen
      clear hcs hn hok hPC hlen
      go_wp2_with fail
      refine (HR2.out _).mono ?_
      rintro e w2 ⟨g2, c2, rfl, hg2, ho2, hb2⟩
      rw [HN.out] at ho2 ⊢
      have hz2 := hb2.size
      have hl2 : g2 < w2.heap.size := (ho2.lt _ rfl).2
      have hr2 := RowC.of_own ho2
      clear ho2
      go_wp2_with fail
      refine (HR1.out _).mono ?_
      rintro e w3 ⟨g3, c3, rfl, hr3, hb3⟩
      rw [HN.out]
      have hz3 := hb3.size
      have hr23 := hr2.keep (hb3.block g2 hl2)
      clear hr2
      go_wp2_with fail
      refine (sameCells g2 g3 n _ _ cs _ HN.out (by omega) hr23 hr3).mono ?_
      rintro e w4 ⟨rfl, hb4⟩
      have hz4 := hb4.size
      have HR4 := Lib.hid (hr23.keep (hb4.block g2 (by omega)))
      have hb14 : Below w.heap.size w w4 := hb1.trans ((hb2.trans ((hb3.trans (hb4.mono hz3)).mono hz2)).mono hz1)
      have hz14 := hb14.size
      clear hb1 hb2 hb3 hb4 hr23 hr3
      by_cases hn2 : n < 2
      · have h0 : s.size = 0 := by
          have := HLEN.out
          by_cases e : s.size = 0
          · exact e
          · have h2 : 2 ^ 1 ≤ 2 ^ s.size := Nat.pow_le_pow_right (by omega) (by omega)
            omega
        have t0 : ((s.size : Int) == 0) = true := by rw [h0]; rfl
        clear h0
        go_wp2_with fail
        go_ret
        exact ⟨rfl, hb14⟩
      · have h0 : 0 < s.size := by
          have := HLEN.out
          by_cases e : s.size = 0
          · rw [e] at this
            omega
          · omega
        obtain ⟨m, hm⟩ : ∃ m, n = 2 * m := by
          have := HLEN.out
          obtain ⟨j, hj⟩ : ∃ j, s.size = j + 1 := ⟨s.size - 1, by omega⟩
          rw [hj, Nat.pow_succ] at this
          exact ⟨2 ^ j, by omega⟩
        obtain ⟨x, hx⟩ : ∃ x, cs[m]? = some x := ⟨_, List.getElem?_eq_getElem (by rw [HN.out]; omega)⟩
        obtain ⟨y, hy⟩ : ∃ y, cs[m - 1]? = some y := ⟨_, List.getElem?_eq_getElem (by rw [HN.out]; omega)⟩
        have hxy : x.up = !y.up := by
          rw [HCS.out] at hx hy
          exact mid_up HOK.out (by rw [bl_length]; exact h0) (by rw [← HCS.out, HN.out]; exact hm) hx hy
        have hcx : celOf (bl s) m = x := by unfold celOf; rw [← HCS.out, hx]; rfl
        have hcy : celOf (bl s) (m - 1) = y := by unfold celOf; rw [← HCS.out, hy]; rfl
        have hp1 : pageC (bl s) (n : Int) = (x, true) := by
          rw [← hcx]
          exact pageC_at HOK.out (by rw [← HCS.out, HN.out]; omega) (by rw [← HCS.out, HN.out]; omega) (by omega)
        have hp2 : pageC (bl s) ((n : Int) + 1) = (y, true) := by
          rw [← hcy]
          exact pageC_at HOK.out (by rw [← HCS.out, HN.out]; omega) (by rw [← HCS.out, HN.out]; omega) (by omega)
        have C1 := fun w => HPC.out (n : Int) w
        have C2 := fun w => HPC.out ((n : Int) + 1) w
        rw [hp1] at C1
        rw [hp2] at C2
        have HC1 := Lib.hid C1
        have HC2 := Lib.hid C2
        have tu : (x.up != y.up) = true := by rw [hxy]; cases y.up <;> rfl
        obtain ⟨k1, k2, k3, k4⟩ := HR4.out.at hx
        obtain ⟨k5, k6, k7, k8⟩ := HR4.out.at hy
        have HM := Lib.hid hm
        have e1 : (n : Int) / 2 = (m : Int) := by omega
        have e2 : (m : Int) - 1 = ((m - 1 : Nat) : Int) := by omega
        have HL4 := HR4.out.1
        obtain ⟨m1, hm1⟩ : ∃ m1, m1 = m - 1 := ⟨_, rfl⟩
        rw [← hm1] at e2 k5 k6 k7 k8
        have g1 : (0 : Int) ≤ (m : Int) := by omega
        have g2' : (m : Int) < (n : Int) := by omega
        have g3' : (0 : Int) ≤ (m1 : Int) := by omega
        have g4 : (m1 : Int) < (n : Int) := by omega
        have HE1 := Lib.hid e1
        have HE2 := Lib.hid e2
        have HTU := Lib.hid tu
        have HTV : Hid ((!(x.up == y.up)) = true) := by show _ = _; rw [hxy]; cases y.up <;> rfl
        clear hx hy hxy hcx hcy hp1 hp2 C1 C2 hm hm1 e1 e2 tu
        go_wp2_with fail
        refine (HC1.out _).mono ?_
        rintro e w5 ⟨rfl, hb5⟩
        have hz5 := hb5.size
        go_wp2_with fail
        refine (HC2.out _).mono ?_
        rintro e w6 ⟨rfl, hb6⟩
        have hz6 : w5.heap.size + 1 ≤ w6.heap.size := by simpa using hb6.size
        have D5 := (Four.new w5 (.int .i64 x.row) (.int .i64 x.col) (.bool x.up) (.bool x.head) 28).below hb6 (Nat.le_refl _)
        obtain ⟨d1, d2, d3, d4, _, _, _, _⟩ := D5.keep (Below.heap_alloc w6 (.cells #[.int .i64 y.row, .int .i64 y.col, .bool y.up, .bool y.head] 28) _ D5.lt)
        have hb46 : Below w4.heap.size w4 w6 := hb5.trans ((((Below.refl _ w5).alloc (Nat.le_refl _) _).trans (hb6.mono (by simp))).mono hz5)
        have hb47 : Below w4.heap.size w4 (w6.alloc (.cells #[.int .i64 y.row, .int .i64 y.col, .bool y.up, .bool y.head] 28)) := hb46.alloc (by omega) _
        have j1 := (hb47.cell (p := ⟨g2, m * 4, none⟩) HL4).trans k1
        have j2 := (hb47.cell (p := ⟨g2, m * 4 + 1, none⟩) HL4).trans k2
        have j3 := (hb47.cell (p := ⟨g2, m * 4 + 2, none⟩) HL4).trans k3
        have j4 := (hb47.cell (p := ⟨g2, m * 4 + 3, none⟩) HL4).trans k4
        have j5 := (hb47.cell (p := ⟨g2, m1 * 4, none⟩) HL4).trans k5
        have j6 := (hb47.cell (p := ⟨g2, m1 * 4 + 1, none⟩) HL4).trans k6
        have j7 := (hb47.cell (p := ⟨g2, m1 * 4 + 2, none⟩) HL4).trans k7
        have j8 := (hb47.cell (p := ⟨g2, m1 * 4 + 3, none⟩) HL4).trans k8
        have HB7 := Lib.hid (hb14.trans (hb47.mono hz14))
        clear k1 k2 k3 k4 k5 k6 k7 k8 hb5 hb6 hb46 hb47 D5
        have e1 := HE1.out
        have e2 := HE2.out
        have tu := HTU.out
        have e1' : (n : Int).tdiv 2 = (m : Int) := by rw [Int.tdiv_eq_ediv_of_nonneg (by omega), e1]
        have e1'' : IntKind.i64.wrap ((n : Int).tdiv 2) = (m : Int) := by rw [e1', IntKind.wrap_i64]; omega
        have e3 : IntKind.i64.wrap (m : Int) = (m : Int) := by rw [IntKind.wrap_i64]; omega
        have e4 : IntKind.i64.wrap ((m : Int) - 1) = (m1 : Int) := by rw [e2, IntKind.wrap_i64]; omega
        have e5 : IntKind.i64.wrap (m1 : Int) = (m1 : Int) := by rw [IntKind.wrap_i64]; omega
        go_wp2_with fail
        go_quiet (fail)
        clear e1 e2 e1' e1'' e3 e4 e5
        go_wp2_with fail
        go_ret
        exact ⟨ret_bool HTV.out, below_drewN HB7.out _⟩
theorem front_page {l : List UInt8} {row col : Int} {k : Nat} (h : lv l row col = some k) : ∃ (q : Nat) (f b : Int), frontC l row col = f ∧ backC l row col = b ∧ 1 ≤ f ∧ f ≤ 64 ∧ 1 ≤ b ∧ b ≤ 64 ∧ (f + 1) / 2 = (q : Int) + 1 ∧ (b + 1) / 2 = (q : Int) + 1 ∧ f ≠ b ∧ (f % 2 = 1 ↔ (celOf l k).up = true) ∧
    pageC l f = (celOf l k, true) ∧ pageC l b = (celOf l k, true) := by
  obtain ⟨q, hq, hq1, hq2⟩ := upper_bd h
  obtain ⟨hok, _⟩ := lv_in h
  have hk := lv_lt h
  have p1 : pageC l (2 * (q : Int) + 1) = (celOf l k, true) := pageC_at hok hk (by omega) (by omega)
  have p2 : pageC l (2 * (q : Int) + 1 + 1) = (celOf l k, true) := pageC_at hok hk (by omega) (by omega)
  rw [frontC_some h, backC_some h, hq]
  cases hu : (celOf l k).up with
  | true => exact ⟨q, _, _, rfl, rfl, by simp; try omega, by simp; try omega, by simp; try omega, by simp; try omega, by simp; try omega, by simp; try omega, by simp; try omega, by simp; try omega, p1, p2⟩
  | false => exact ⟨q, _, _, rfl, rfl, by simp; try omega, by simp; try omega, by simp; try omega, by simp; try omega, by simp; try omega, by simp; try omega, by simp; try omega, by simp; try omega, p2, p1⟩
/-- Neighbors in a row lie on different sides. -/
theorem next_up {l : List UInt8} {row col : Int} {k k' : Nat} (h : lv l row col = some k) (h' : lv l row (col + 1) = some k') : (celOf l k).up = !(celOf l k').up := by
  obtain ⟨hok, e1, r1, c1, _⟩ := lv_in h
  obtain ⟨_, e2, r2, c2, _⟩ := lv_in h'
  obtain ⟨p, q, hp⟩ := stack_par hok
  obtain ⟨a1, a2⟩ := hp _ (List.mem_of_getElem? e1)
  obtain ⟨b1, b2⟩ := hp _ (List.mem_of_getElem? e2)
  rw [r1] at a1
  rw [c1] at a2
  rw [r2] at b1
  rw [c2] at b2
  have hh : (celOf l k).head = (celOf l k').head := by
    rw [Bool.eq_iff_iff, a1, b1]
  have hu : ((celOf l k).up = (celOf l k).head) ↔ ¬ ((celOf l k').up = (celOf l k').head) := by rw [a2, b2]; omega
  rw [hh] at hu
  cases h1 : (celOf l k).up <;> cases h2 : (celOf l k').up <;> cases h3 : (celOf l k').head <;> simp [h1, h2, h3] at hu ⊢
set_option maxRecDepth 100000 in
set_option maxHeartbeats 4000000 in
theorem fnPages_walk (w : World) (a0 : Option Addr) (len0 cap0 : Nat) (z0 : List Int) (w0 : IsRow .u8 w a0 len0 cap0 z0) :
    Calls Try.prog 6 #[.slice a0 len0 cap0] w fun e w' => e = .returned (.bool true) ∧ Below w.heap.size w w' := by
  have HW := Lib.hid w0
  clear w0
  by_cases hl : 1048576 < len0
  · go_enter Try.func6, Try.ntmps6
    go_wp2
    go_ret
    exact ⟨rfl, Below.refl _ _⟩
  · go_enter Try.func6, Try.ntmps6
    go_wp2_with fail
    refine (drawPageFront _ _ _ _ _ HW.out HW.out.le).mono ?_
    rintro e w1 ⟨s, row, col, rfl, hs, r1, r2, c1, c2, hb1⟩
    have hz1 := hb1.size
    have hsl : s.size ≤ maxLen := by unfold maxLen; omega
    have C1 := fun w => implPageFront s row col w hsl
    have C2 := fun w => specPageFront s row col w hsl
    have C3 := fun w => implPageBack s row col w hsl
    have C4 := fun w => implPageFront s row (col + 1) w hsl
    have CP := fun page w => implPageCell s page w hsl
    cases hv : lv (bl s) row col with
    | none =>
      rw [frontC_none hv] at C1 C2
      have HC1 := Lib.hid C1
      have HC2 := Lib.hid C2
      clear C1 C2 C3 C4 CP hv
      go_wp2_with fail
      refine (HC1.out _).mono ?_
      rintro e w2 ⟨rfl, hb2⟩
      have hz2 := hb2.size
      go_wp2_with fail
      refine (HC2.out _).mono ?_
      rintro e w3 ⟨rfl, hb3⟩
      go_wp2_with fail
      go_ret
      exact ⟨rfl, hb1.trans ((hb2.trans (hb3.mono hz2)).mono hz1)⟩
    | some k =>
      obtain ⟨q, f, b, hf, hb, f1, f2, b1, b2, hq1, hq2, hne, hodd, hp1, hp2⟩ := front_page hv
      rw [hf] at C1 C2
      rw [hb] at C3
      have C5 := CP f
      have C6 := CP b
      rw [hp1] at C5
      rw [hp2] at C6
      obtain ⟨_, _, hr, hc, _⟩ := lv_in hv
      obtain ⟨x, hx⟩ : ∃ x, x = celOf (bl s) k := ⟨_, rfl⟩
      have hnx : frontC (bl s) row (col + 1) < 0 ∨ ((f + frontC (bl s) row (col + 1)) % 2 = 1 ∧ 1 ≤ frontC (bl s) row (col + 1) ∧ frontC (bl s) row (col + 1) ≤ 64) := by
        cases hv2 : lv (bl s) row (col + 1) with
        | none => left; rw [frontC_none hv2]; omega
        | some k2 =>
          right
          obtain ⟨q', f', b', hf', _, g1, g2, _, _, _, _, _, hodd', _⟩ := front_page hv2
          rw [hf']
          have := next_up hv hv2
          rw [this] at hodd
          refine ⟨?_, g1, g2⟩
          cases h3 : (celOf (bl s) k2).up <;> rw [h3] at hodd hodd' <;> simp at hodd hodd' <;> omega
      rw [← hx] at C5 C6 hr hc
      obtain ⟨nx, hnxx⟩ : ∃ nx, nx = frontC (bl s) row (col + 1) := ⟨_, rfl⟩
      rw [← hnxx] at C4 hnx
      have t1 : (x.row == row) = true := by rw [hr]; simp
      have t2 : (x.col == col) = true := by rw [hc]; simp
      have t3 : ((f + 1) / 2 == (b + 1) / 2) = true := by rw [hq1, hq2]; simp
      have t4 : (f != b) = true := by rw [bne_iff_ne]; exact hne
      have HC1 := Lib.hid C1
      have HC2 := Lib.hid C2
      have HC3 := Lib.hid C3
      have HC4 := Lib.hid C4
      have HC5 := Lib.hid C5
      have HC6 := Lib.hid C6
      have H1 := Lib.hid t1
      have H2 := Lib.hid t2
      have H3 := Lib.hid t3
      have H4 := Lib.hid t4
      have tf : (f != f) = false := by simp
      clear C1 C2 C3 C4 C5 C6 CP hv hf hb hq1 hq2 hne hodd hp1 hp2 hr hc hx hnxx t1 t2 t3 t4
      go_wp2_with fail
      refine (HC1.out _).mono ?_
      rintro e w2 ⟨rfl, hb2⟩
      have hz2 := hb2.size
      go_wp2_with fail
      refine (HC2.out _).mono ?_
      rintro e w3 ⟨rfl, hb3⟩
      have hz3 := hb3.size
      go_wp2_with fail
      refine (HC3.out _).mono ?_
      rintro e w4 ⟨rfl, hb4⟩
      have hz4 := hb4.size
      go_wp2_with fail
      refine (HC5.out _).mono ?_
      rintro e w5 ⟨rfl, hb5⟩
      have hz5 := hb5.size
      have hb15 : Below w.heap.size w w5 := hb1.trans ((hb2.trans ((hb3.trans ((hb4.trans (hb5.mono hz4)).mono hz3)).mono hz2)).mono hz1)
      have hz15 := hb15.size
      clear hb1 hb2 hb3 hb4 hb5
      go_wp2_with fail
      refine (HC6.out _).mono ?_
      rintro e w6 ⟨rfl, hb6⟩
      have hz6 : w5.heap.size + 1 ≤ w6.heap.size := by simpa using hb6.size
      have D5 := (Four.new w5 (.int .i64 x.row) (.int .i64 x.col) (.bool x.up) (.bool x.head) 28).below hb6 (Nat.le_refl _)
      have hb16 : Below w.heap.size w w6 := (hb15.alloc hz15 _).trans (hb6.mono (by simp; omega))
      clear hb6 hb15
      go_wp2_with fail
      refine (HC4.out _).mono ?_
      rintro e w7 ⟨rfl, hb7⟩
      have hz7 : w6.heap.size + 1 ≤ w7.heap.size := by simpa using hb7.size
      obtain ⟨d1, d2, d3, d4, _, _, _, _⟩ := (D5.keep (Below.heap_alloc w6 _ _ D5.lt)).below hb7 (Nat.le_refl _)
      obtain ⟨d5, d6, d7, d8, _, _, _, _⟩ := (Four.new w6 (.int .i64 x.row) (.int .i64 x.col) (.bool x.up) (.bool x.head) 28).below hb7 (Nat.le_refl _)
      have hb17 : Below w.heap.size w w7 := (hb16.alloc (by omega) _).trans (hb7.mono (by simp; omega))
      have HB17 := Lib.hid hb17
      clear hb7 hb16 hb17 D5
      have t1 := H1.out
      have t2 := H2.out
      have t3 := H3.out
      have t4 := H4.out
      rcases hnx with hnx | ⟨h1, h2, h3⟩
      · have t5 : decide (nx < 0) = true := decide_eq_true hnx
        go_wp2_with fail
        first | go_quiet (fail) | skip
        go_wp2_with fail
        go_ret
        first | exact ⟨rfl, HB17.out⟩ | exact ⟨rfl, below_drewN HB17.out _⟩
      · have t5 : decide (nx < 0) = false := decide_eq_false (by omega)
        have t6 : ((f + nx) % 2 == 1) = true := by rw [beq_iff_eq]; exact h1
        clear h1
        go_wp2_with fail
        first | go_quiet (fail) | skip
        go_wp2_with fail
        go_ret
        first | exact ⟨rfl, HB17.out⟩ | exact ⟨rfl, below_drewN HB17.out _⟩
end Go.Proofs.Ythhkflknbjkneaa
