/- The law FnCreaseRow, walked: it returns true. The words' texts lie in the namespace W. (Printed by gen_row.py.) Conditions: each theorem's own premises. -/
import Derived.Test.YtdgkjlehofkooaaLawStackK
import Derived.Deep.CutRange
namespace Go.Proofs.Ytdgkjlehofkooaa
set_option maxRecDepth 100000
open Go.RowKit
/-- The first k letters: the wide ones ahead of the high ones; behind them. -/
def FirstTo (s : ByteArray) (k : Nat) : Prop := ∀ (j : Nat) (a b : UInt8), j + 1 < k → (bl s)[j]? = some a → (bl s)[j + 1]? = some b → isW b = true → isW a = true
def LastTo (s : ByteArray) (k : Nat) : Prop := ∀ (j : Nat) (a b : UInt8), j + 1 < k → (bl s)[j]? = some a → (bl s)[j + 1]? = some b → isW a = true → isW b = true
theorem firstTo_step {s : ByteArray} {k m : Nat} (hk : k = m + 1) (hlt : k < s.size) (hm : m < s.size) {f : Bool} (h : f = true ↔ FirstTo s k) : ((f && (isW s[m] || !isW s[k])) = true) ↔ FirstTo s (k + 1) := by
  rw [Bool.and_eq_true, h]
  subst hk
  have e1 := bl_get s m hm
  have e2 := bl_get s (m + 1) hlt
  constructor
  · rintro ⟨h1, h2⟩ j a b hj ha hb hw
    by_cases e : j + 1 < m + 1
    · exact h1 j a b e ha hb hw
    · have : j = m := by omega
      subst this
      rw [e1] at ha
      rw [e2] at hb
      obtain rfl := Option.some.inj ha
      obtain rfl := Option.some.inj hb
      rw [hw] at h2
      simpa using h2
  · intro h1
    refine ⟨fun j a b hj => h1 j a b (by omega), ?_⟩
    have := h1 m _ _ (by omega) e1 e2
    cases h2 : isW s[m + 1]
    · simp
    · rw [this h2]; rfl
theorem lastTo_step {s : ByteArray} {k m : Nat} (hk : k = m + 1) (hlt : k < s.size) (hm : m < s.size) {f : Bool} (h : f = true ↔ LastTo s k) : ((f && (isW s[k] || !isW s[m])) = true) ↔ LastTo s (k + 1) := by
  rw [Bool.and_eq_true, h]
  subst hk
  have e1 := bl_get s m hm
  have e2 := bl_get s (m + 1) hlt
  constructor
  · rintro ⟨h1, h2⟩ j a b hj ha hb hw
    by_cases e : j + 1 < m + 1
    · exact h1 j a b e ha hb hw
    · have : j = m := by omega
      subst this
      rw [e1] at ha
      rw [e2] at hb
      obtain rfl := Option.some.inj ha
      obtain rfl := Option.some.inj hb
      rw [hw] at h2
      simpa using h2
  · intro h1
    refine ⟨fun j a b hj => h1 j a b (by omega), ?_⟩
    have := h1 m _ _ (by omega) e1 e2
    cases h2 : isW s[m]
    · simp
    · rw [this h2]; rfl
theorem firstTo_end {s : ByteArray} (k : Nat) (hk : s.size ≤ k) (h : FirstTo s k) : WideFirst (bl s) := fun j a b ha hb hw => by
  have := (List.getElem?_eq_some_iff.1 hb).1
  rw [bl_length] at this
  exact h j a b (by omega) ha hb hw
theorem lastTo_end {s : ByteArray} (k : Nat) (hk : s.size ≤ k) (h : LastTo s k) : WideLast (bl s) := fun j a b ha hb hw => by
  have := (List.getElem?_eq_some_iff.1 hb).1
  rw [bl_length] at this
  exact h j a b (by omega) ha hb hw
/-- Which letters fold the width, as the law asks. -/
theorem letter_wide (c : UInt8) :
    (isW c = true ∧ ((c.toNat : Int) == 82) = true) ∨ (isW c = true ∧ ((c.toNat : Int) == 82) = false ∧ ((c.toNat : Int) == 76) = true) ∨
    (isW c = true ∧ ((c.toNat : Int) == 82) = false ∧ ((c.toNat : Int) == 76) = false ∧ ((c.toNat : Int) == 114) = true) ∨
    (isW c = true ∧ ((c.toNat : Int) == 82) = false ∧ ((c.toNat : Int) == 76) = false ∧ ((c.toNat : Int) == 114) = false ∧ ((c.toNat : Int) == 108) = true) ∨
    (isW c = false ∧ ((c.toNat : Int) == 82) = false ∧ ((c.toNat : Int) == 76) = false ∧ ((c.toNat : Int) == 114) = false ∧ ((c.toNat : Int) == 108) = false) := by
  unfold isW wide
  cases (c.toNat : Int) == 82 <;> cases (c.toNat : Int) == 76 <;> cases (c.toNat : Int) == 114 <;> cases (c.toNat : Int) == 108 <;> simp
set_option maxRecDepth 100000 in
set_option maxHeartbeats 4000000 in
theorem fnCreaseRow_walk (w : World) (a0 : Option Addr) (len0 cap0 : Nat) (z0 : List Int) (w0 : IsRow .u8 w a0 len0 cap0 z0) (a1 : Option Addr) (len1 cap1 : Nat) (z1 : List Int) (_w1 : IsRow .u8 w a1 len1 cap1 z1) :
    Calls Try.prog 3 #[.slice a0 len0 cap0, .slice a1 len1 cap1] w fun e w' => e = .returned (.bool true) ∧ Below w.heap.size w w' := by
  have hc0 : len0 ≤ cap0 := w0.le
  have HW := Lib.hid w0
  clear w0 _w1
  by_cases hl : 1048576 < len0
  · go_enter Try.func3, Try.ntmps3
    go_wp2
    go_ret
    exact ⟨rfl, Below.refl _ _⟩
  · by_cases hl1 : 1048576 < len1
    · go_enter Try.func3, Try.ntmps3
      go_wp2
      go_ret
      exact ⟨rfl, Below.refl _ _⟩
    · go_enter Try.func3, Try.ntmps3
      go_wp2_with fail
      refine (drawSheetRight _ _ _ _ _ HW.out hc0).mono ?_
      rintro e w1 ⟨s, row, col, rfl, hs, r1, r2, c1, c2, hb1⟩
      have hz1 := hb1.size
      have hsl : s.size ≤ maxLen := by unfold maxLen; omega
      have C1 := fun w => implSheetRight s row col w hsl
      have C2 := fun w => specSheetRight s row col w hsl
      cases hU : rU (bl s) row col with
      | none =>
        rw [rU_none hU] at C1 C2
        have HC1 := Lib.hid C1
        have HC2 := Lib.hid C2
        clear C1 C2 hU
        go_wp2_with fail
        refine (HC1.out _).mono ?_
        rintro e w2 ⟨rfl, hb2⟩
        have hz2 := hb2.size
        go_wp2_with fail
        refine (HC2.out _).mono ?_
        rintro e w3 ⟨rfl, hb3⟩
        go_wp2_with fail
        go_ret
        exact ⟨rfl, hb1.trans ((hb2.trans (hb3.mono hz2)).mono hz1)⟩
      | some u =>
        rw [rightC_is, hU] at C1 C2
        obtain ⟨a, b, ha, hb, hab, hu⟩ := rU_form hU
        have hok := (lv_in ha).1
        have hs5 : s.size ≤ 5 := by rw [← bl_length]; exact (ok_is hok).2
        obtain ⟨o, ho⟩ : ∃ o, o = upS (some u) := ⟨_, rfl⟩
        rw [← ho] at C1 C2
        have too : (o.toList == o.toList) = true := by simp
        have tn : o.toList.isEmpty = false := str_some (by rw [ho]; exact upS_size u)
        have hin : 0 ≤ row ∧ row < (rowsOf (bl s) : Int) ∧ 0 ≤ col + 1 ∧ col + 1 < (colsOf (bl s) : Int) := of_decide_eq_true (lv_in hb).2.2.2.2
        have hcol : 0 ≤ col := (of_decide_eq_true (lv_in ha).2.2.2.2 : 0 ≤ row ∧ row < (rowsOf (bl s) : Int) ∧ 0 ≤ col ∧ col < (colsOf (bl s) : Int)).2.2.1
        have hRb := rowsOf_bd (bl s) (by rw [bl_length]; exact hs5)
        have C3 := fun w => implSheetSize s w hsl
        have hr0 : sheetRows (bl s) = rowsOf (bl s) := by unfold sheetRows; rw [hok]; rfl
        have hcc0 : sheetCols (bl s) = colsOf (bl s) := by unfold sheetCols; rw [hok]; rfl
        rw [hr0, hcc0, hok] at C3
        obtain ⟨R, hRR⟩ : ∃ R, R = rowsOf (bl s) := ⟨_, rfl⟩
        obtain ⟨C, hCC⟩ : ∃ C, C = colsOf (bl s) := ⟨_, rfl⟩
        rw [← hRR, ← hCC] at C3
        rw [← hRR] at hRb
        obtain ⟨K, hK⟩ : ∃ K, K = len1 % R := ⟨_, rfl⟩
        have hKR : K < R := by rw [hK]; exact Nat.mod_lt _ (by omega)
        have g1 : (len1 : Int).tmod (R : Int) = (K : Int) := by rw [Int.tmod_eq_emod_of_nonneg (by omega), hK]; rfl
        obtain ⟨a', b', ha', hb', _⟩ := lv_two (t := bl s) (row := K) (col := col) hok (by omega) (by rw [← hRR]; omega) hcol hin.2.2.2
        have C4 := fun w => implSheetRight s K col w hsl
        obtain ⟨v, hv⟩ : ∃ v, rU (bl s) K col = some v := ⟨_, rU_some ha' hb'⟩
        rw [rightC_is, hv] at C4
        obtain ⟨X, hX⟩ : ∃ X, X = upS (some v) := ⟨_, rfl⟩
        rw [← hX] at C4
        obtain ⟨E, hE⟩ : ∃ E : Bool, (((K : Int) - row).tmod 2 == 0) = E := ⟨_, rfl⟩
        have hfirst : WideFirst (bl s) → v = u := fun h => by
          have := crease_first hok h hin.1 hin.2.1 (show (0 : Int) ≤ (K : Int) by omega) (by rw [← hRR]; omega) hcol hin.2.2.2
          rw [hv, hU] at this
          exact Option.some.inj this
        have hlast : WideLast (bl s) → v = if E then u else !u := fun h => by
          obtain ⟨k1, k2⟩ := crease_last hok h hin.1 hin.2.1 (show (0 : Int) ≤ (K : Int) by omega) (by rw [← hRR]; omega) hcol hin.2.2.2
          rw [hv, hU] at k1 k2
          have hmod : ((K : Int) - row) % 2 = 0 ↔ E = true := by
            rw [← hE, beq_iff_eq]
            by_cases h : 0 ≤ (K : Int) - row
            · rw [Int.tmod_eq_emod_of_nonneg h]
            · have e : ((K : Int) - row).tmod 2 = -((-((K : Int) - row)).tmod 2) := by rw [Int.neg_tmod, Int.neg_neg]
              rw [e, Int.tmod_eq_emod_of_nonneg (by omega)]
              omega
          cases E with
          | true => exact Option.some.inj (k1 (hmod.2 rfl))
          | false =>
            have := k2 fun e => by have := hmod.1 e; cases this
            exact Option.some.inj this
        have HC1 := Lib.hid C1
        have HC2 := Lib.hid C2
        have HC3 := Lib.hid C3
        have HC4 := Lib.hid C4
        have HO := Lib.hid ho
        have HX := Lib.hid hX
        have HF := Lib.hid hfirst
        have HLs := Lib.hid hlast
        have hrow := hin.1
        have hrow2 : row < (R : Int) := by rw [hRR]; exact hin.2.1
        have C6 : ∀ u : Bool, ∀ w, Calls Try.prog 11 #[.string (upS (some u))] w fun e w' => e = .returned (.string (upS (some !u))) ∧ Below w.heap.size w w' := fun u w => by
          have h := W.implFoldsSwap (upS (some u)) w (by cases u <;> decide)
          have e : mkS ((bl (upS (some u))).map W.swp) = upS (some !u) := by cases u <;> decide
          rw [e] at h
          exact h
        have HC6 := Lib.hid C6
        clear C1 C2 C3 C4 C6 ho hX hfirst hlast hv hU hu ha hb ha' hb' hab hin hr0 hcc0 hRR hCC hok hK
        go_wp2_with fail
        refine (HC1.out _).mono ?_
        rintro e w2 ⟨rfl, hb2⟩
        have hbf2 := hb1.trans (hb2.mono hz1)
        have hz2 := hbf2.size
        clear hb1 hb2
        go_wp2_with fail
        refine (HC2.out _).mono ?_
        rintro e w3 ⟨rfl, hb3⟩
        have hbf3 := hbf2.trans (hb3.mono hz2)
        have hz3 := hbf3.size
        clear hbf2 hb3
        go_wp2_with fail
        refine (HC3.out _).mono ?_
        rintro e w4 ⟨rfl, hb4⟩
        have hbf4 := hbf3.trans (hb4.mono hz3)
        have hz4 := hbf4.size
        clear hbf3 hb4
        go_wp2_with fail
        refine (HC4.out _).mono ?_
        rintro e w5 ⟨rfl, hb5⟩
        have hbf8 := hbf4.trans (hb5.mono hz4)
        have hz8 := hbf8.size
        clear hbf4 hb5
        go_wp2_with fail
        go_loopw [15, 16, 17] (fun p q i wr => ∃ (k : Nat) (f g : Bool), 1 ≤ k ∧ k ≤ 6 ∧ k ≤ s.size + 1 ∧ i = .int .i64 k ∧ p = .bool f ∧ q = .bool g ∧ Hid (f = true ↔ FirstTo s k) ∧ Hid (g = true ↔ LastTo s k) ∧ wr = w5) (fun _ _ i _ => 10 - (intOf i).toNat)
        case atStart => exact ⟨1, true, true, Nat.le_refl _, by omega, by omega, rfl, rfl, rfl, ⟨fun _ j a b hj => by omega, fun _ => rfl⟩, ⟨fun _ j a b hj => by omega, fun _ => rfl⟩, rfl⟩
        case round =>
          obtain ⟨k, f, g, hk1, hk6, hks, rfl, rfl, rfl, HFi, HLa, rfl⟩ := hrel
          by_cases hlt : k < s.size
          · obtain ⟨m, hm⟩ : ∃ m, k = m + 1 := ⟨k - 1, by omega⟩
            have hms : m < s.size := by omega
            have HM := Lib.hid hm
            have f2 : (k : Int) - 1 = (m : Int) := by omega
            have k0 : (0 : Int) ≤ (m : Int) := by omega
            have k1 : (m : Int) < (s.size : Int) := by omega
            obtain ⟨x, hx⟩ : ∃ x, x = isW s[k] := ⟨_, rfl⟩
            obtain ⟨y, hy⟩ : ∃ y, y = isW s[m] := ⟨_, rfl⟩
            have HFi2 : Hid (((f && (y || !x)) = true) ↔ FirstTo s (k + 1)) := by show _ ↔ _; rw [hx, hy]; exact firstTo_step hm hlt hms HFi.out
            have HLa2 : Hid (((g && (x || !y)) = true) ↔ LastTo s (k + 1)) := by show _ ↔ _; rw [hx, hy]; exact lastTo_step hm hlt hms HLa.out
            have HXX := Lib.hid hx
            have HYY := Lib.hid hy
            clear hm hx hy
            go_upto_region 16 with fail
            go_cut [18] from 66 to 135 (fun p wx => p = .bool x ∧ wx = wr)
            case first =>
              rcases letter_wide s[k] with ⟨hw, t1⟩ | ⟨hw, t1, t2⟩ | ⟨hw, t1, t2, t3⟩ | ⟨hw, t1, t2, t3, t4⟩ | ⟨hw, t1, t2, t3, t4⟩
              all_goals
                have hxv := HXX.out.trans hw
                clear hw
                go_wp2_with fail
                go_meet
                exact ⟨by rw [hxv], rfl⟩
            case rest =>
              obtain ⟨rfl, rfl⟩ := hcut
              go_upto_region 17 with fail
              go_cut [19] from 66 to 135 (fun p wx => p = .bool y ∧ wx = wc)
              case first =>
                rcases letter_wide s[m] with ⟨hw, t1⟩ | ⟨hw, t1, t2⟩ | ⟨hw, t1, t2, t3⟩ | ⟨hw, t1, t2, t3, t4⟩ | ⟨hw, t1, t2, t3, t4⟩
                all_goals
                  have hyv := HYY.out.trans hw
                  clear hw
                  go_wp2_with fail
                  go_meet
                  exact ⟨by rw [hyv], rfl⟩
              case rest =>
                obtain ⟨rfl, rfl⟩ := hcut
                clear HXX HYY
                cases f <;> cases g <;> cases x <;> cases y
                all_goals
                  go_wp2_with fail
                  go_roundw
                  case rel => exact ⟨k + 1, _, _, by omega, by omega, by omega, by go_num, rfl, rfl, HFi2, HLa2, (by first | rfl | trivial)⟩
                  case measure => simp [intOf]; omega
          · have HFst : Hid (f = true → v = u) := fun h => HF.out (firstTo_end k (by omega) (HFi.out.1 h))
            have HLst : Hid (g = true → v = if E then u else !u) := fun h => HLs.out (lastTo_end k (by omega) (HLa.out.1 h))
            clear HFi HLa HF HLs
            cases f with
            | true =>
              have huv : v = u := HFst.out rfl
              subst huv
              cases g <;> cases E <;> cases v
              · have ho' : o = ⟨#[77]⟩ := HO.out
                have hX' : X = ⟨#[77]⟩ := HX.out
                subst ho' hX'
                clear HC6 HX HO
                go_wp2_with fail
                go_ret
                exact ⟨rfl, hbf8⟩
              · have ho' : o = ⟨#[86]⟩ := HO.out
                have hX' : X = ⟨#[86]⟩ := HX.out
                subst ho' hX'
                clear HC6 HX HO
                go_wp2_with fail
                go_ret
                exact ⟨rfl, hbf8⟩
              · have ho' : o = ⟨#[77]⟩ := HO.out
                have hX' : X = ⟨#[77]⟩ := HX.out
                subst ho' hX'
                clear HC6 HX HO
                go_wp2_with fail
                go_ret
                exact ⟨rfl, hbf8⟩
              · have ho' : o = ⟨#[86]⟩ := HO.out
                have hX' : X = ⟨#[86]⟩ := HX.out
                subst ho' hX'
                clear HC6 HX HO
                go_wp2_with fail
                go_ret
                exact ⟨rfl, hbf8⟩
              · have ho' : o = ⟨#[77]⟩ := HO.out
                have hX' : X = ⟨#[77]⟩ := HX.out
                subst ho' hX'
                clear HC6 HX HO
                go_wp2_with fail
                go_ret
                exact ⟨rfl, hbf8⟩
              · have ho' : o = ⟨#[86]⟩ := HO.out
                have hX' : X = ⟨#[86]⟩ := HX.out
                subst ho' hX'
                clear HC6 HX HO
                go_wp2_with fail
                go_ret
                exact ⟨rfl, hbf8⟩
              · have ho' : o = ⟨#[77]⟩ := HO.out
                have hX' : X = ⟨#[77]⟩ := HX.out
                subst ho' hX'
                clear HC6 HX HO
                go_wp2_with fail
                go_ret
                exact ⟨rfl, hbf8⟩
              · have ho' : o = ⟨#[86]⟩ := HO.out
                have hX' : X = ⟨#[86]⟩ := HX.out
                subst ho' hX'
                clear HC6 HX HO
                go_wp2_with fail
                go_ret
                exact ⟨rfl, hbf8⟩
            | false =>
              cases g with
              | true =>
                have huv := HLst.out rfl
                cases E <;> cases u
                · have hv' : v = true := huv
                  clear huv
                  subst hv'
                  have ho' : o = ⟨#[77]⟩ := HO.out
                  have hX' : X = ⟨#[86]⟩ := HX.out
                  subst ho' hX'
                  have HQ : Hid (∀ w, Calls Try.prog 11 #[.string ⟨#[77]⟩] w fun e w' => e = .returned (.string ⟨#[86]⟩) ∧ Below w.heap.size w w') := HC6.out false
                  clear HC6 HX HO
                  go_wp2_with fail
                  refine (HQ.out _).mono ?_
                  rintro e w9 ⟨rfl, hb9⟩
                  go_wp2_with fail
                  go_ret
                  exact ⟨rfl, hbf8.trans (hb9.mono hz8)⟩
                · have hv' : v = false := huv
                  clear huv
                  subst hv'
                  have ho' : o = ⟨#[86]⟩ := HO.out
                  have hX' : X = ⟨#[77]⟩ := HX.out
                  subst ho' hX'
                  have HQ : Hid (∀ w, Calls Try.prog 11 #[.string ⟨#[86]⟩] w fun e w' => e = .returned (.string ⟨#[77]⟩) ∧ Below w.heap.size w w') := HC6.out true
                  clear HC6 HX HO
                  go_wp2_with fail
                  refine (HQ.out _).mono ?_
                  rintro e w9 ⟨rfl, hb9⟩
                  go_wp2_with fail
                  go_ret
                  exact ⟨rfl, hbf8.trans (hb9.mono hz8)⟩
                · have hv' : v = false := huv
                  clear huv
                  subst hv'
                  have ho' : o = ⟨#[77]⟩ := HO.out
                  have hX' : X = ⟨#[77]⟩ := HX.out
                  subst ho' hX'
                  clear HC6 HX HO
                  go_wp2_with fail
                  go_ret
                  exact ⟨rfl, hbf8⟩
                · have hv' : v = true := huv
                  clear huv
                  subst hv'
                  have ho' : o = ⟨#[86]⟩ := HO.out
                  have hX' : X = ⟨#[86]⟩ := HX.out
                  subst ho' hX'
                  clear HC6 HX HO
                  go_wp2_with fail
                  go_ret
                  exact ⟨rfl, hbf8⟩
              | false =>
                cases u <;> cases v
                · have ho' : o = ⟨#[77]⟩ := HO.out
                  have hX' : X = ⟨#[77]⟩ := HX.out
                  subst ho' hX'
                  clear HC6 HX HO
                  go_wp2_with fail
                  go_ret
                  exact ⟨rfl, hbf8⟩
                · have ho' : o = ⟨#[77]⟩ := HO.out
                  have hX' : X = ⟨#[86]⟩ := HX.out
                  subst ho' hX'
                  have HQ : Hid (∀ w, Calls Try.prog 11 #[.string ⟨#[77]⟩] w fun e w' => e = .returned (.string ⟨#[86]⟩) ∧ Below w.heap.size w w') := HC6.out false
                  clear HC6 HX HO
                  go_wp2_with fail
                  refine (HQ.out _).mono ?_
                  rintro e w9 ⟨rfl, hb9⟩
                  go_wp2_with fail
                  go_ret
                  exact ⟨rfl, hbf8.trans (hb9.mono hz8)⟩
                · have ho' : o = ⟨#[86]⟩ := HO.out
                  have hX' : X = ⟨#[77]⟩ := HX.out
                  subst ho' hX'
                  have HQ : Hid (∀ w, Calls Try.prog 11 #[.string ⟨#[86]⟩] w fun e w' => e = .returned (.string ⟨#[77]⟩) ∧ Below w.heap.size w w') := HC6.out true
                  clear HC6 HX HO
                  go_wp2_with fail
                  refine (HQ.out _).mono ?_
                  rintro e w9 ⟨rfl, hb9⟩
                  go_wp2_with fail
                  go_ret
                  exact ⟨rfl, hbf8.trans (hb9.mono hz8)⟩
                · have ho' : o = ⟨#[86]⟩ := HO.out
                  have hX' : X = ⟨#[86]⟩ := HX.out
                  subst ho' hX'
                  clear HC6 HX HO
                  go_wp2_with fail
                  go_ret
                  exact ⟨rfl, hbf8⟩
end Go.Proofs.Ytdgkjlehofkooaa
