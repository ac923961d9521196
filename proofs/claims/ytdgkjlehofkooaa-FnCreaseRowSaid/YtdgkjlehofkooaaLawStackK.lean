/- The law FnCreaseLevels, walked: it returns true. The words' texts lie in the namespace W. Conditions: each theorem's own premises. -/
import Derived.Test.YtdgkjlehofkooaaPlainH
import Derived.Test.YtdgkjlehofkooaaDrawS
import Derived.Test.YtdgkjlehofkooaaWordA
namespace Go.Proofs.Ytdgkjlehofkooaa
set_option maxRecDepth 100000
open Go.RowKit
def isW (c : UInt8) : Bool := wide (c.toNat : Int)
theorem filter_ok {l : List UInt8} (hok : sheetOk l = true) : sheetOk (l.filter isW) = true := by
  obtain ⟨h1, h2⟩ := ok_is hok
  unfold sheetOk
  simp only [Bool.and_eq_true, List.all_eq_true, decide_eq_true_eq]
  refine ⟨fun x hx => h1 x (List.mem_filter.1 hx).1, ?_⟩
  exact Nat.le_trans (List.length_filter_le _ _) h2
theorem filter_wide {l : List UInt8} : ∀ x ∈ l.filter isW, wide (x.toNat : Int) = true := fun _ hx => (List.mem_filter.1 hx).2
theorem filter_cols (l : List UInt8) : colsOf (l.filter isW) = colsOf l := by
  unfold colsOf
  rw [List.countP_filter]
  congr 1
  exact List.countP_congr fun x _ => by simp [isW]
theorem filter_rows {l : List UInt8} (hok : sheetOk l = true) : rowsOf (l.filter isW) = 1 := no_high_rows fun x hx => by
  have h1 := (List.mem_filter.1 hx).2
  have h2 := letter_high ((ok_is hok).1 x (List.mem_filter.1 hx).1)
  unfold isW at h1
  rw [h1] at h2
  cases e : high (x.toNat : Int)
  · rfl
  · rw [e] at h2; cases h2
theorem filter_take (s : ByteArray) {k : Nat} (h : k < s.size) : ((bl s).take (k + 1)).filter isW = ((bl s).take k).filter isW ++ if isW s[k] then [s[k]] else [] := by
  rw [bl_take s k h, List.filter_append]
  congr 1
  cases e : isW s[k] <;> simp [e]
/-- Which letters fold the width. -/
theorem letter_kind {c : UInt8} (h : letter c = true) :
    (isW c = true ∧ ((c.toNat : Int) != 85) = true ∧ ((c.toNat : Int) != 68) = true ∧ ((c.toNat : Int) != 117) = true ∧ ((c.toNat : Int) != 100) = true) ∨
    (isW c = false ∧ ((c.toNat : Int) != 85) = false) ∨ (isW c = false ∧ ((c.toNat : Int) != 85) = true ∧ ((c.toNat : Int) != 68) = false) ∨
    (isW c = false ∧ ((c.toNat : Int) != 85) = true ∧ ((c.toNat : Int) != 68) = true ∧ ((c.toNat : Int) != 117) = false) ∨
    (isW c = false ∧ ((c.toNat : Int) != 85) = true ∧ ((c.toNat : Int) != 68) = true ∧ ((c.toNat : Int) != 117) = true ∧ ((c.toNat : Int) != 100) = false) := by
  rcases letter_is h with rfl | rfl | rfl | rfl | rfl | rfl | rfl | rfl <;> decide
theorem rU_form {l : List UInt8} {row col : Int} {u : Bool} (h : rU l row col = some u) : ∃ a b, lv l row col = some a ∧ lv l row (col + 1) = some b ∧ a ≠ b ∧ u = (celOf l (min a b)).up := by
  unfold rU at h
  split at h
  · rename_i a b ha hb
    exact ⟨a, b, ha, hb, lv_ne ha hb (.inr (by omega)), (Option.some.inj h).symm⟩
  · cases h
theorem rU_none {l : List UInt8} {row col : Int} (h : rU l row col = none) : rightC l row col = ⟨#[]⟩ := by rw [rightC_is, h]; rfl
theorem upS_size (u : Bool) : 0 < (upS (some u)).size := by cases u <;> decide
set_option maxRecDepth 100000 in
set_option maxHeartbeats 4000000 in
theorem fnCreaseLevels_walk (w : World) (a0 : Option Addr) (len0 cap0 : Nat) (z0 : List Int) (w0 : IsRow .u8 w a0 len0 cap0 z0) :
    Calls Try.prog 4 #[.slice a0 len0 cap0] w fun e w' => e = .returned (.bool true) ∧ Below w.heap.size w w' := by
  have HW := Lib.hid w0
  clear w0
  by_cases hl : 1048576 < len0
  · go_enter Try.func4, Try.ntmps4
    go_wp2
    go_ret
    exact ⟨rfl, Below.refl _ _⟩
  · go_enter Try.func4, Try.ntmps4
    go_wp2_with fail
    refine (drawSheetRight _ _ _ _ _ HW.out HW.out.le).mono ?_
    rintro e w1 ⟨s, row, col, rfl, hs, r1, r2, c1, c2, hb1⟩
    have hz1 := hb1.size
    have hsl : s.size ≤ maxLen := by unfold maxLen; omega
    have C1 := fun w => implSheetRight s row col w hsl
    have C2 := fun w => specSheetRight s row col w hsl
    cases hU : rU (bl s) row col with
    | none =>
      rw [rU_none hU] at C1 C2
      have HC1 := Lib.hid C1
      have HC2 := Lib.hid C2
      clear C1 C2 hU
      go_wp2_with fail
      refine (HC1.out _).mono ?_
      rintro e w2 ⟨rfl, hb2⟩
      have hz2 := hb2.size
      go_wp2_with fail
      refine (HC2.out _).mono ?_
      rintro e w3 ⟨rfl, hb3⟩
      go_wp2_with fail
      go_ret
      exact ⟨rfl, hb1.trans ((hb2.trans (hb3.mono hz2)).mono hz1)⟩
    | some u =>
      rw [rightC_is, hU] at C1 C2
      obtain ⟨a, b, ha, hb, hab, hu⟩ := rU_form hU
      have hok := (lv_in ha).1
      have hs5 : s.size ≤ 5 := by rw [← bl_length]; exact (ok_is hok).2
      obtain ⟨o, ho⟩ : ∃ o, o = upS (some u) := ⟨_, rfl⟩
      rw [← ho] at C1 C2
      have to : (o.toList == o.toList) = true := by simp
      have tn : o.toList.isEmpty = false := str_some (by rw [ho]; exact upS_size u)
      have hin : 0 ≤ row ∧ row < (rowsOf (bl s) : Int) ∧ 0 ≤ col + 1 ∧ col + 1 < (colsOf (bl s) : Int) := of_decide_eq_true (lv_in hb).2.2.2.2
      have hcol : 0 ≤ col := (of_decide_eq_true (lv_in ha).2.2.2.2 : 0 ≤ row ∧ row < (rowsOf (bl s) : Int) ∧ 0 ≤ col ∧ col < (colsOf (bl s) : Int)).2.2.1
      have hcols := hin.2.2.2
      have C3 := fun w => implSheetLevel s row col w hsl
      have C4 := fun w => implSheetLevel s row (col + 1) w hsl
      rw [ha] at C3
      rw [hb] at C4
      have C3 : ∀ w, Calls Try.prog 12 #[.string s, .int .i64 row, .int .i64 col] w fun e w' => e = .returned (.int .i64 (a : Int)) ∧ Below w.heap.size w w' := C3
      have C4 : ∀ w, Calls Try.prog 12 #[.string s, .int .i64 row, .int .i64 (col + 1)] w fun e w' => e = .returned (.int .i64 (b : Int)) ∧ Below w.heap.size w w' := C4
      obtain ⟨hn1, hn32⟩ := stackC_bd hok
      have hal := lv_lt ha
      have hbl := lv_lt hb
      obtain ⟨m, hm⟩ : ∃ m, m = min a b := ⟨_, rfl⟩
      rw [← hm] at hu
      obtain ⟨cs, hcs⟩ : ∃ cs, cs = stackC (bl s) := ⟨_, rfl⟩
      obtain ⟨p, hp⟩ : ∃ p, cs[m]? = some p := ⟨_, List.getElem?_eq_getElem (by rw [hcs]; omega)⟩
      have hup : u = p.up := by rw [hu, cel_at (by rw [← hcs]; exact hp)]
      have HRS : Hid (∀ w, Calls Try.prog 13 #[.string s] w (StackBack w cs)) := by rw [hcs]; exact fun w => implSheetStack s w hok
      rw [← hcs] at hn1 hn32 hal hbl
      obtain ⟨n, hn⟩ : ∃ n, cs.length = n := ⟨_, rfl⟩
      rw [hn] at hn1 hn32 hal hbl
      have HC1 := Lib.hid C1
      have HC2 := Lib.hid C2
      have HC3 := Lib.hid C3
      have HC4 := Lib.hid C4
      have HP := Lib.hid hp
      have HN := Lib.hid hn
      have HO := Lib.hid ho
      have HOK := Lib.hid hok
      have HUP := Lib.hid hup
      have HM := Lib.hid hm
      have HCL := Lib.hid hcols
      have HL : Hid (∀ k (h : k < s.size), letter s[k] = true) := fun k h => by
        have := (ok_is HOK.out).1 s[k]
        exact this (List.mem_of_getElem? (bl_get s k h))
      clear C1 C2 C3 C4 hU ha hb hok ho hin hu hm hcs hp hup hn hcols
      go_wp2_with fail
      refine (HC1.out _).mono ?_
      rintro e w2 ⟨rfl, hb2⟩
      have hbf2 := hb1.trans (hb2.mono hz1)
      have hz2 := hbf2.size
      clear hb1 hb2
      go_wp2_with fail
      refine (HC2.out _).mono ?_
      rintro e w3 ⟨rfl, hb3⟩
      have hbf3 := hbf2.trans (hb3.mono hz2)
      have hz3 := hbf3.size
      clear hbf2 hb3
      go_wp2_with fail
      refine (HC3.out _).mono ?_
      rintro e w4 ⟨rfl, hb4⟩
      have hbf4 := hbf3.trans (hb4.mono hz3)
      have hz4 := hbf4.size
      clear hbf3 hb4
      go_wp2_with fail
      refine (HC4.out _).mono ?_
      rintro e w5 ⟨rfl, hb5⟩
      have hbf5 := hbf4.trans (hb5.mono hz4)
      have hz5 := hbf5.size
      clear hbf4 hb5
      go_wp2_with fail
      refine (HRS.out _).mono ?_
      rintro e w6 ⟨g, cap, rfl, hg, hown, hb6⟩
      rw [HN.out] at hown ⊢
      have hbf6 := hbf5.trans (hb6.mono hz5)
      have hz6 := hbf6.size
      have hgl := (hown.lt g rfl).2
      obtain ⟨_, _, x3, _⟩ := (RowC.of_own hown).at HP.out
      clear hbf5 hb6 hown
      go_wp2_with fail
      go_loopw [12, 13] (fun o i wr => ∃ (k : Nat) (b : ByteArray), k ≤ s.size ∧ i = .int .i64 k ∧ o = .string b ∧ b.size ≤ k ∧ Hid (bl b = ((bl s).take k).filter isW) ∧ Below w6.heap.size w6 wr) (fun _ i _ => s.size - (intOf i).toNat)
      case atStart => exact ⟨0, ⟨#[]⟩, Nat.zero_le _, rfl, rfl, Nat.le_refl _, Lib.hid (by rw [List.take_zero]; rfl), Below.refl _ _⟩
      case round =>
        obtain ⟨k, bb, hk, rfl, rfl, hbs, HB, hbel⟩ := hrel
        by_cases hlt : k < s.size
        · have HF := Lib.hid (filter_take s hlt)
          have hext1 : (s.extract k (k + 1)).size = 1 := by rw [ByteArray.size_extract]; omega
          rcases letter_kind (HL.out k hlt) with ⟨hw, t1, t2, t3, t4⟩ | ⟨hw, t1⟩ | ⟨hw, t1, t2⟩ | ⟨hw, t1, t2, t3⟩ | ⟨hw, t1, t2, t3, t4⟩
          · have HB2 : Hid (bl (bb ++ s.extract k (k + 1)) = ((bl s).take (k + 1)).filter isW) := by
              show _ = _
              rw [HF.out, bl_append, HB.out, hw, bl_slice1 s k hlt]
              rfl
            have hsz : (bb ++ s.extract k (k + 1)).size ≤ k + 1 := by rw [ByteArray.size_append, hext1]; omega
            clear hw
            go_wp2
            go_roundw
            case rel => exact ⟨k + 1, _, by omega, by go_num, rfl, hsz, HB2, hbel⟩
            case measure => simp [intOf]; omega
          all_goals
            have HB2 : Hid (bl bb = ((bl s).take (k + 1)).filter isW) := by
              show _ = _
              rw [HF.out, HB.out, hw]
              simp
            clear hw
            go_wp2
            go_roundw
            case rel => exact ⟨k + 1, _, by omega, by go_num, rfl, by omega, HB2, hbel⟩
            case measure => simp [intOf]; omega
        · obtain rfl : k = s.size := by omega
          have hbb : bl bb = (bl s).filter isW := by rw [HB.out, bl_full]
          have C5 := fun w => implSheetRight bb 0 col w (by unfold maxLen; omega)
          obtain ⟨a', b', ha', hb', _⟩ := lv_two (t := (bl s).filter isW) (row := 0) (col := col) (filter_ok HOK.out) (Int.le_refl _) (by rw [filter_rows HOK.out]; decide) hcol (by rw [filter_cols]; exact HCL.out)
          rw [hbb, rightC_is, rU_some ha' hb'] at C5
          obtain ⟨v, hv⟩ : ∃ v, v = (celOf ((bl s).filter isW) (min a' b')).up := ⟨_, rfl⟩
          rw [← hv] at C5
          obtain ⟨X, hX⟩ : ∃ X, X = upS (some v) := ⟨_, rfl⟩
          rw [← hX] at C5
          have HX := Lib.hid hX
          clear hX
          have HC5 := Lib.hid C5
          have x4 := (hbel.cell (p := ⟨g, m * 4 + 2, none⟩) hgl).trans x3
          have hbf7 := hbf6.trans (hbel.mono hz6)
          have hz7 := hbf7.size
          have hzr := hbel.size
          have hglr : g < wr.heap.size := by omega
          clear C5 hv ha' hb' hbb HB hbs hbel x3
          rw [← HUP.out] at x4
          go_wp2_with fail
          refine (HC5.out _).mono ?_
          rintro e w8 ⟨rfl, hb8⟩
          have x5 := (hb8.cell (p := ⟨g, m * 4 + 2, none⟩) hglr).trans x4
          have hbf8 := hbf7.trans (hb8.mono hz7)
          have hz8 := hbf8.size
          have hm0 := HM.out
          have C6 : ∀ u : Bool, ∀ w, Calls Try.prog 11 #[.string (upS (some u))] w fun e w' => e = .returned (.string (upS (some !u))) ∧ Below w.heap.size w w' := fun u w => by
            have h := W.implFoldsSwap (upS (some u)) w (by cases u <;> decide)
            have e : mkS ((bl (upS (some u))).map W.swp) = upS (some !u) := by cases u <;> decide
            rw [e] at h
            exact h
          have HC6 := Lib.hid C6
          have ho := HO.out
          clear hb8 x4 hbf7 C6
          have k0 : (0 : Int) ≤ (a : Int) := by omega
          have k1 : (0 : Int) ≤ (b : Int) := by omega
          have k2 : (a : Int) < (n : Int) := by omega
          have k3 : (b : Int) < (n : Int) := by omega
          by_cases hlt2 : a < b
          · obtain rfl : m = a := by omega
            have k4 : (m : Int) < (b : Int) := by omega
            have k5 : (m : Int) ≤ (b : Int) := by omega
            clear hm0
            cases u <;> cases v
            · have ho' : o = ⟨#[77]⟩ := ho
              have hX' : X = ⟨#[77]⟩ := HX.out
              subst ho' hX'
              clear HC6 HX HO ho
              go_wp2_with fail
              go_ret
              exact ⟨rfl, hbf8⟩
            · have ho' : o = ⟨#[77]⟩ := ho
              have hX' : X = ⟨#[86]⟩ := HX.out
              subst ho' hX'
              have HQ : Hid (∀ w, Calls Try.prog 11 #[.string ⟨#[77]⟩] w fun e w' => e = .returned (.string ⟨#[86]⟩) ∧ Below w.heap.size w w') := HC6.out false
              clear HC6 HX HO ho
              go_wp2_with fail
              refine (HQ.out _).mono ?_
              rintro e w9 ⟨rfl, hb9⟩
              go_wp2_with fail
              go_ret
              exact ⟨rfl, hbf8.trans (hb9.mono hz8)⟩
            · have ho' : o = ⟨#[86]⟩ := ho
              have hX' : X = ⟨#[77]⟩ := HX.out
              subst ho' hX'
              have HQ : Hid (∀ w, Calls Try.prog 11 #[.string ⟨#[86]⟩] w fun e w' => e = .returned (.string ⟨#[77]⟩) ∧ Below w.heap.size w w') := HC6.out true
              clear HC6 HX HO ho
              go_wp2_with fail
              refine (HQ.out _).mono ?_
              rintro e w9 ⟨rfl, hb9⟩
              go_wp2_with fail
              go_ret
              exact ⟨rfl, hbf8.trans (hb9.mono hz8)⟩
            · have ho' : o = ⟨#[86]⟩ := ho
              have hX' : X = ⟨#[86]⟩ := HX.out
              subst ho' hX'
              clear HC6 HX HO ho
              go_wp2_with fail
              go_ret
              exact ⟨rfl, hbf8⟩
          · obtain rfl : m = b := by omega
            have k4 : (m : Int) < (a : Int) := by omega
            clear hm0
            cases u <;> cases v
            · have ho' : o = ⟨#[77]⟩ := ho
              have hX' : X = ⟨#[77]⟩ := HX.out
              subst ho' hX'
              clear HC6 HX HO ho
              go_wp2_with fail
              go_ret
              exact ⟨rfl, hbf8⟩
            · have ho' : o = ⟨#[77]⟩ := ho
              have hX' : X = ⟨#[86]⟩ := HX.out
              subst ho' hX'
              have HQ : Hid (∀ w, Calls Try.prog 11 #[.string ⟨#[77]⟩] w fun e w' => e = .returned (.string ⟨#[86]⟩) ∧ Below w.heap.size w w') := HC6.out false
              clear HC6 HX HO ho
              go_wp2_with fail
              refine (HQ.out _).mono ?_
              rintro e w9 ⟨rfl, hb9⟩
              go_wp2_with fail
              go_ret
              exact ⟨rfl, hbf8.trans (hb9.mono hz8)⟩
            · have ho' : o = ⟨#[86]⟩ := ho
              have hX' : X = ⟨#[77]⟩ := HX.out
              subst ho' hX'
              have HQ : Hid (∀ w, Calls Try.prog 11 #[.string ⟨#[86]⟩] w fun e w' => e = .returned (.string ⟨#[77]⟩) ∧ Below w.heap.size w w') := HC6.out true
              clear HC6 HX HO ho
              go_wp2_with fail
              refine (HQ.out _).mono ?_
              rintro e w9 ⟨rfl, hb9⟩
              go_wp2_with fail
              go_ret
              exact ⟨rfl, hbf8.trans (hb9.mono hz8)⟩
            · have ho' : o = ⟨#[86]⟩ := ho
              have hX' : X = ⟨#[86]⟩ := HX.out
              subst ho' hX'
              clear HC6 HX HO ho
              go_wp2_with fail
              go_ret
              exact ⟨rfl, hbf8⟩
end Go.Proofs.Ytdgkjlehofkooaa
