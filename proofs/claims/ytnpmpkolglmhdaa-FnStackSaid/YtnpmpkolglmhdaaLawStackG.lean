/- The law FnStack, walked: it returns true. Conditions: each theorem's own premises. -/
import Derived.Test.YtnpmpkolglmhdaaSame
import Derived.Test.YtnpmpkolglmhdaaDrawS
import Derived.Test.YtnpmpkolglmhdaaPlainU
import Derived.Test.YtnpmpkolglmhdaaStackL
namespace Go.Proofs.Ytnpmpkolglmhdaa
open Go.RowKit
theorem own_capS {w : World} {base n size g cap : Nat} {e : TypeId} {xs : List Value} (h : w.ownsRow base e size (.slice (some ⟨g, 0, none⟩) n cap) n xs) : n ≤ cap := by
  obtain ⟨_, h0 | ⟨g', cap', cur, hv, h1, h2, h3, h4, h5, h6⟩⟩ := h
  · simp at h0
  · simp only [Value.slice.injEq, Option.some.injEq, Addr.mk.injEq, and_true, true_and] at hv
    obtain ⟨rfl, rfl⟩ := hv
    first | exact h3 | exact h4 | exact h5 | omega
/-- A letter folds over a row, or over a column. -/
theorem area : ∀ {l : List UInt8}, (∀ c ∈ l, letter c = true) → rowsOf l * colsOf l = 2 ^ l.length
  | [], _ => rfl
  | c :: l, h => by
    have ih := area (l := l) fun x hx => h x (List.mem_cons_of_mem _ hx)
    have hc : (high (c.toNat : Int) = true ∧ wide (c.toNat : Int) = false) ∨ (high (c.toNat : Int) = false ∧ wide (c.toNat : Int) = true) := by
      rcases letter_is (h c List.mem_cons_self) with rfl | rfl | rfl | rfl | rfl | rfl | rfl | rfl <;> decide
    unfold rowsOf colsOf at ih ⊢
    rw [List.countP_cons, List.countP_cons, List.length_cons, Nat.pow_succ, ← ih]
    rcases hc with ⟨h1, h2⟩ | ⟨h1, h2⟩
    · rw [h1, h2]
      simp only [if_true, Bool.false_eq_true, if_false, Nat.add_zero, Nat.pow_succ]
      rw [Nat.mul_assoc, Nat.mul_comm 2, ← Nat.mul_assoc]
    · rw [h1, h2]
      simp only [if_true, Bool.false_eq_true, if_false, Nat.add_zero, Nat.pow_succ]
      rw [Nat.mul_assoc]
/-- A cell of the stack is found at its place. -/
theorem lv_at {l : List UInt8} (hok : sheetOk l = true) {k : Nat} {x : Cel} (hx : (stackC l)[k]? = some x) : lv l x.row x.col = some k := by
  unfold lv
  rw [if_pos hok]
  refine find_hit hx rfl rfl fun j q hj hq e => ?_
  obtain ⟨hj1, e1⟩ := List.getElem?_eq_some_iff.1 hq
  obtain ⟨hk1, e2⟩ := List.getElem?_eq_some_iff.1 hx
  have := List.pairwise_iff_getElem.1 (stack_apart hok) j k hj1 hk1 hj
  rw [e1, e2] at this
  exact this e
theorem stack_pair {l : List UInt8} (hok : sheetOk l = true) {x y : Cel} (hx : x ∈ stackC l) (hy : y ∈ stackC l) :
    (x.row = y.row → x.head = y.head) ∧ (x.row - y.row = 1 ∨ y.row - x.row = 1 → x.head = !y.head) ∧ ((x.row = y.row ∧ (x.col - y.col = 1 ∨ y.col - x.col = 1)) ∨ (x.col = y.col ∧ (x.row - y.row = 1 ∨ y.row - x.row = 1)) → x.up = !y.up) := by
  obtain ⟨p, q, hp⟩ := stack_par hok
  obtain ⟨a1, a2⟩ := hp x hx
  obtain ⟨b1, b2⟩ := hp y hy
  obtain ⟨xr, xc, xu, xh⟩ := x
  obtain ⟨yr, yc, yu, yh⟩ := y
  simp only at a1 a2 b1 b2 ⊢
  cases xu <;> cases xh <;> cases yu <;> cases yh <;> simp at a1 a2 b1 b2 ⊢ <;> omega
set_option maxRecDepth 100000 in
set_option maxHeartbeats 8000000 in
theorem fnStack_walk (w : World) (a0 : Option Addr) (len0 cap0 : Nat) (z0 : List Int) (w0 : IsRow .u8 w a0 len0 cap0 z0) :
    Calls Try.prog 6 #[.slice a0 len0 cap0] w fun e w' => e = .returned (.bool true) ∧ Below w.heap.size w w' := by
  have HW := Lib.hid w0
  clear w0
  by_cases hl : 1048576 < len0
  · go_enter Try.func6, Try.ntmps6
    go_wp2
    go_ret
    exact ⟨rfl, Below.refl _ _⟩
  · go_enter Try.func6, Try.ntmps6
    go_wp2_with fail
    refine (drawSheetStack _ _ _ _ _ HW.out HW.out.le).mono ?_
    rintro e w1 ⟨s, rfl, hs, hb1⟩
    have hz1 := hb1.size
    cases hok : sheetOk (bl s) with
    | false =>
      have HOK := Lib.hid hok
      clear hok
      go_wp2_with fail
      refine (implSheetStack_no s _ (by unfold maxLen; omega) HOK.out).mono ?_
      rintro e w2 ⟨A2, rfl, hb2⟩
      have hz2 := hb2.size
      go_wp2_with fail
      refine (specSheetStack_no s _ (by unfold maxLen; omega) HOK.out).mono ?_
      rintro e w3 ⟨A3, rfl, hb3⟩
      go_wp2_with fail
      refine (sameCells_nil _ _ _ _ _).mono ?_
      rintro e w4 ⟨rfl, rfl⟩
      go_wp2_with fail
      refine (sameCells_nil _ _ _ _ _).mono ?_
      rintro e w4 ⟨rfl, rfl⟩
      go_wp2_with fail
      go_ret
      exact ⟨rfl, hb1.trans ((hb2.trans (hb3.mono hz2)).mono hz1)⟩
    | true =>
      obtain ⟨hn1, hn32⟩ := stackC_bd hok
      have hlen := stackC_length (bl s)
      rw [bl_length] at hlen
      obtain ⟨cs, hcs⟩ : ∃ cs, cs = stackC (bl s) := ⟨_, rfl⟩
      have HLV : Hid (∀ (k : Nat) x, cs[k]? = some x → ∀ w, Calls Try.prog 20 #[.string s, .int .i64 x.row, .int .i64 x.col] w fun e w' => e = .returned (.int .i64 k) ∧ Below w.heap.size w w') := fun k x hx w => by
        have h := implSheetLevel s x.row x.col w (by unfold maxLen; omega)
        rw [hcs] at hx
        rw [lv_at hok hx] at h
        exact h
      have HPR : Hid (∀ (k m : Nat) x y, cs[k]? = some x → cs[m]? = some y → (x.row = y.row → x.head = y.head) ∧ (x.row - y.row = 1 ∨ y.row - x.row = 1 → x.head = !y.head) ∧ ((x.row = y.row ∧ (x.col - y.col = 1 ∨ y.col - x.col = 1)) ∨ (x.col = y.col ∧ (x.row - y.row = 1 ∨ y.row - x.row = 1)) → x.up = !y.up)) := fun k m x y hx hy => by
        rw [hcs] at hx hy
        exact stack_pair hok (List.mem_of_getElem? hx) (List.mem_of_getElem? hy)
      have HRG : Hid (∀ (k : Nat) x, cs[k]? = some x → 0 ≤ x.row ∧ x.row ≤ 32 ∧ 0 ≤ x.col ∧ x.col ≤ 32) := fun k x hx => by
        rw [hcs] at hx
        have := in_range hok (List.mem_of_getElem? hx)
        have b1 := (rowsOf_bd (bl s) (ok_is hok).2).2
        have b2 := (colsOf_bd (bl s) (ok_is hok).2).2
        omega
      have C4 := fun w => implSheetSize s w (show s.size ≤ maxLen by unfold maxLen; omega)
      obtain ⟨R, hR⟩ : ∃ R, R = sheetRows (bl s) := ⟨_, rfl⟩
      obtain ⟨C, hC⟩ : ∃ C, C = sheetCols (bl s) := ⟨_, rfl⟩
      have hRC : R * C = 2 ^ s.size ∧ R ≤ 32 ∧ C ≤ 32 := by
        have b1 := (rowsOf_bd (bl s) (ok_is hok).2).2
        have b2 := (colsOf_bd (bl s) (ok_is hok).2).2
        have := area (ok_is hok).1
        rw [bl_length] at this
        unfold sheetRows at hR
        unfold sheetCols at hC
        rw [if_pos hok] at hR hC
        rw [hR, hC]
        exact ⟨this, b1, b2⟩
      rw [← hR, ← hC, hok] at C4
      have HC4 := Lib.hid C4
      clear C4 hR hC
      have HR1 : Hid (∀ w, Calls Try.prog 18 #[.string s] w (StackRead w cs)) := by rw [hcs]; exact fun w => specSheetStack s w hok
      have HR2 : Hid (∀ w, Calls Try.prog 12 #[.string s] w (StackBack w cs)) := by rw [hcs]; exact fun w => implSheetStack s w hok
      rw [← hcs] at hn1 hn32 hlen
      obtain ⟨n, hn⟩ : ∃ n, cs.length = n := ⟨_, rfl⟩
      have HN := Lib.hid hn
      rw [hn] at hn1 hn32 hlen
      have hs5 : s.size ≤ 5 := by rw [← bl_length]; exact (ok_is hok).2
      have HOK := Lib.hid hok
      have HCS := Lib.hid hcs
      have HLEN := Lib.hid hlen
      clear hcs hn hok hlen
      go_wp2_with fail
      refine (HR2.out _).mono ?_
      rintro e w2 ⟨g2, c2, rfl, hg2, ho2, hb2⟩
      rw [HN.out] at ho2 ⊢
      have hz2 := hb2.size
      have hl2 : g2 < w2.heap.size := (ho2.lt _ rfl).2
      have hr2 := RowC.of_own ho2
      have hc2 := own_capS ho2
      clear ho2
      go_wp2_with fail
      refine (HR1.out _).mono ?_
      rintro e w3 ⟨g3, c3, rfl, hr3, hb3⟩
      rw [HN.out]
      have hz3 := hb3.size
      have hr23 := hr2.keep (hb3.block g2 hl2)
      clear hr2
      go_wp2_with fail
      refine (sameCells g2 g3 n _ _ cs _ HN.out (by omega) hr23 hr3).mono ?_
      rintro e w4 ⟨rfl, hb4⟩
      have hz4 := hb4.size
      have HR4 := Lib.hid (hr23.keep (hb4.block g2 (by omega)))
      have hb14 : Below w.heap.size w w4 := hb1.trans ((hb2.trans ((hb3.trans (hb4.mono hz3)).mono hz2)).mono hz1)
      have hz14 := hb14.size
      have hgl4 : g2 < w4.heap.size := by omega
      clear hb1 hb2 hb3 hb4 hr23 hr3
      have hRCn : ((R : Int) * (C : Int)) = (n : Int) := by
        have := HLEN.out
        rw [this, ← hRC.1]
        simp
      go_wp2_with fail
      refine (HC4.out _).mono ?_
      rintro e w5 ⟨rfl, hb5⟩
      have hz5 := hb5.size
      have HR5 := Lib.hid (HR4.out.keep (hb5.block g2 hgl4))
      have hb15 : Below w.heap.size w w5 := hb14.trans (hb5.mono hz14)
      have hz15 := hb15.size
      have hgl5 : g2 < w5.heap.size := by omega
      clear hb14 hb5 HR4
      go_wp2_with fail
      go_loopw [11] (fun i wr => ∃ k : Nat, k ≤ n ∧ i = .int .i64 k ∧ Below w5.heap.size w5 wr) (fun i _ => n - (intOf i).toNat)
      case atStart => exact ⟨0, Nat.zero_le _, rfl, Below.refl _ _⟩
      case round =>
        obtain ⟨k, hk, rfl, hbel⟩ := hrel
        have hzr := hbel.size
        by_cases hlt : k < n
        · obtain ⟨x, hx⟩ : ∃ x, cs[k]? = some x := ⟨_, List.getElem?_eq_getElem (by rw [HN.out]; exact hlt)⟩
          obtain ⟨x1, x2, x3, x4⟩ := HRG.out k x hx
          obtain ⟨b1, b2, b3, b4⟩ := (HR5.out.below hbel hgl5).at hx
          have hx' := hx
          have HX := Lib.hid hx'
          have HL := Lib.hid (HLV.out k x hx)
          have k0 : (0 : Int) ≤ (k : Int) := by omega
          have k1 : (k : Int) < (n : Int) := by omega
          have m1 : g2 < wr.heap.size := by omega
          have HK : Hid (∀ w', Below wr.heap.size wr w' → w'.cell? ⟨g2, k * 4, none⟩ = some (.int .i64 x.row) ∧ w'.cell? ⟨g2, k * 4 + 1, none⟩ = some (.int .i64 x.col)) := fun w' hb =>
            ⟨(hb.cell (p := ⟨g2, k * 4, none⟩) m1).trans b1, (hb.cell (p := ⟨g2, k * 4 + 1, none⟩) m1).trans b2⟩
          clear hx hx'
          go_wp2
          go_region_held3 (fun w' => w'.cell? ⟨g2, k * 4, none⟩ = some (.int .i64 x.row) ∧ w'.cell? ⟨g2, k * 4 + 1, none⟩ = some (.int .i64 x.col))
            (first | exact HK.out _ (Below.refl _ _) | exact HK.out _ ((Below.refl _ _).drew) | exact HK.out _ (((Below.refl _ wr).drew).trans hb6))
            ((go_at_call 20; refine (HL.out _).mono ?_; rintro e w6 ⟨rfl, hb6⟩))
          go_wp2
          have hz6 : wr.heap.size ≤ w6.heap.size := by simpa using hb6.size
          have hb06 : Below w5.heap.size w5 w6 := hbel.trans ((Below.refl _ wr).drew.trans (hb6.mono hzr))
          have hz06 := hb06.size
          have HR6 := Lib.hid (HR5.out.below hb06 hgl5)
          have hgl6 : g2 < w6.heap.size := by omega
          clear hbel hb6 b1 b2 b3 b4
          go_loopw [12] (fun i wq => ∃ m : Nat, m ≤ k ∧ i = .int .i64 m ∧ Below w6.heap.size w6 wq) (fun i _ => k - (intOf i).toNat)
          case atStart => exact ⟨0, Nat.zero_le _, rfl, Below.refl _ _⟩
          case round =>
            obtain ⟨m, hm, rfl, hbelq⟩ := hrel
            have hzq := hbelq.size
            by_cases hlt2 : m < k
            · obtain ⟨y, hy⟩ : ∃ y, cs[m]? = some y := ⟨_, List.getElem?_eq_getElem (by rw [HN.out]; omega)⟩
              obtain ⟨y1, y2, y3, y4⟩ := HRG.out m y hy
              obtain ⟨p1, p2, p3⟩ := HPR.out k m x y HX.out hy
              obtain ⟨b1, b2, b3, b4⟩ := (HR6.out.below hbelq hgl6).at HX.out
              obtain ⟨b5, b6, b7, b8⟩ := (HR6.out.below hbelq hgl6).at hy
              clear hy
              clear HX HL HK
              obtain ⟨xr, xc, xu, xh⟩ := x
              obtain ⟨yr, yc, yu, yh⟩ := y
              simp only at p1 p2 p3 x1 x2 x3 x4 y1 y2 y3 y4 b1 b2 b3 b4 b5 b6 b7 b8
              have f4 : (m : Int) < (n : Int) := by omega
              have f5 : (0 : Int) ≤ (m : Int) := by omega
              have f6 : (m : Int) < (k : Int) := by omega
              have hgq : g2 < wr.heap.size := by omega
              have hbA : Below wr.heap.size wr (wr.alloc (.cells #[.int .i64 xr, .int .i64 xc, .bool xu, .bool xh] 30)) := (Below.refl _ _).alloc (Nat.le_refl _) _
              have j5 := (hbA.cell (p := ⟨g2, m * 4, none⟩) hgq).trans b5
              have j6 := (hbA.cell (p := ⟨g2, m * 4 + 1, none⟩) hgq).trans b6
              have j7 := (hbA.cell (p := ⟨g2, m * 4 + 2, none⟩) hgq).trans b7
              have j8 := (hbA.cell (p := ⟨g2, m * 4 + 3, none⟩) hgq).trans b8
              have DA := Four.new wr (.int .i64 xr) (.int .i64 xc) (.bool xu) (.bool xh) 30
              obtain ⟨d1, d2, d3, d4, _, _, _, _⟩ := DA.keep (Below.heap_alloc _ (.cells #[.int .i64 yr, .int .i64 yc, .bool yu, .bool yh] 30) _ DA.lt)
              obtain ⟨d5, d6, d7, d8, _, _, _, _⟩ := Four.new (wr.alloc (.cells #[.int .i64 xr, .int .i64 xc, .bool xu, .bool xh] 30)) (.int .i64 yr) (.int .i64 yc) (.bool yu) (.bool yh) 30
              have hbz : Below w6.heap.size w6 ((wr.alloc (.cells #[.int .i64 xr, .int .i64 xc, .bool xu, .bool xh] 30)).alloc (.cells #[.int .i64 yr, .int .i64 yc, .bool yu, .bool yh] 30)) := (hbelq.alloc hzq _).alloc (by simp; omega) _
              clear b5 b6 b7 b8 hbA DA
              have hhf : ((xh == yh) = true ∧ (!(xh == yh)) = false ∧ ¬ (xr - yr = 1 ∨ yr - xr = 1)) ∨ ((xh == yh) = false ∧ (!(xh == yh)) = true ∧ xr ≠ yr) := by
                by_cases e : xh = yh
                · left
                  exact ⟨by simp [e], by simp [e], fun h => by have := p2 h; rw [e] at this; cases yh <;> simp at this⟩
                · right
                  exact ⟨by simp [e], by simp [e], fun h => e (p1 h)⟩
              have huf : ((xu == yu) = true ∧ ¬ ((xr = yr ∧ (xc - yc = 1 ∨ yc - xc = 1)) ∨ (xc = yc ∧ (xr - yr = 1 ∨ yr - xr = 1)))) ∨ (xu == yu) = false := by
                by_cases e : xu = yu
                · left
                  exact ⟨by simp [e], fun h => by have := p3 h; rw [e] at this; cases yu <;> simp at this⟩
                · right
                  simp [e]
              clear p1 p2 p3
              rcases hhf with ⟨t1, t2, t3⟩ | ⟨t1, t2, t3⟩
              · rcases huf with ⟨t4, t5⟩ | t4
                · go_wp2_with fail
                  all_goals first
                    | exact ⟨⟨m + 1, by omega, by go_num, hbz⟩, by simp [intOf]; omega⟩
                    | (have e : xr = yr := by omega
                       rw [e] at hbz
                       exact ⟨⟨m + 1, by omega, by first | go_num | omega | simp, hbz⟩, by simp [intOf]; omega⟩)
                    | (exfalso
                       try simp only [beq_iff_eq] at *
                       omega)
                · go_wp2_with fail
                  all_goals first
                    | exact ⟨⟨m + 1, by omega, by go_num, hbz⟩, by simp [intOf]; omega⟩
                    | (have e : xr = yr := by omega
                       rw [e] at hbz
                       exact ⟨⟨m + 1, by omega, by first | go_num | omega | simp, hbz⟩, by simp [intOf]; omega⟩)
                    | (exfalso
                       try simp only [beq_iff_eq] at *
                       omega)
              · rcases huf with ⟨t4, t5⟩ | t4
                · go_wp2_with fail
                  all_goals first
                    | exact ⟨⟨m + 1, by omega, by go_num, hbz⟩, by simp [intOf]; omega⟩
                    | (have e : xr = yr := by omega
                       rw [e] at hbz
                       exact ⟨⟨m + 1, by omega, by first | go_num | omega | simp, hbz⟩, by simp [intOf]; omega⟩)
                    | (exfalso
                       try simp only [beq_iff_eq] at *
                       omega)
                · go_wp2_with fail
                  all_goals first
                    | exact ⟨⟨m + 1, by omega, by go_num, hbz⟩, by simp [intOf]; omega⟩
                    | (have e : xr = yr := by omega
                       rw [e] at hbz
                       exact ⟨⟨m + 1, by omega, by first | go_num | omega | simp, hbz⟩, by simp [intOf]; omega⟩)
                    | (exfalso
                       try simp only [beq_iff_eq] at *
                       omega)
            · go_wp2
              go_roundw
              case rel => exact ⟨k + 1, by omega, by go_num, hb06.trans (hbelq.mono hz06)⟩
              case measure => simp [intOf]; omega
        · go_wp2
          go_ret
          first
            | exact ⟨rfl, hb15.trans (hbel.mono hz15)⟩
            | exact ⟨by rw [hRCn]; simp, hb15.trans (hbel.mono hz15)⟩
end Go.Proofs.Ytnpmpkolglmhdaa
