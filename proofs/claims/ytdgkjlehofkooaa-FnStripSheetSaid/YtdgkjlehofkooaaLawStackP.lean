/- The law FnStripSheet, walked: it returns true. (Printed by gen_strip.py.) Conditions: each theorem's own premises. -/
import Derived.Test.YtdgkjlehofkooaaPlainY
import Derived.Test.YtdgkjlehofkooaaSame
import Derived.Test.YtdgkjlehofkooaaDrawS
import Derived.Maps.AppendAt
namespace Go.Proofs.Ytdgkjlehofkooaa
set_option maxRecDepth 100000
open Go.RowKit
theorem own_cap {w : World} {base n size g cap : Nat} {e : TypeId} {xs : List Value} (_ : w.ownsRow base e size (.slice (some ⟨g, 0, none⟩) n cap) n xs) : True := trivial
set_option maxRecDepth 100000 in
set_option maxHeartbeats 8000000 in
theorem fnStripSheet_walk (w : World) (a0 : Option Addr) (len0 cap0 : Nat) (z0 : List Int) (w0 : IsRow .u8 w a0 len0 cap0 z0) :
    Calls Try.prog 6 #[.slice a0 len0 cap0] w fun e w' => e = .returned (.bool true) ∧ Below w.heap.size w w' := by
  have HW := Lib.hid w0
  clear w0
  by_cases hl : 1048576 < len0
  · go_enter Try.func6, Try.ntmps6
    go_wp2
    go_ret
    exact ⟨rfl, Below.refl _ _⟩
  · go_enter Try.func6, Try.ntmps6
    go_wp2_with fail
    refine (drawSheetStack _ _ _ _ _ HW.out HW.out.le).mono ?_
    rintro e w1 ⟨s, rfl, hs, hb1⟩
    have hz1 := hb1.size
    cases hok : sheetOk (bl s) with
    | false =>
      have HOK := Lib.hid hok
      clear hok
      go_wp2_with fail
      refine (implSheetStack_no s _ (by unfold maxLen; omega) HOK.out).mono ?_
      rintro e w2 ⟨A2, rfl, hb2⟩
      have hz2 := hb2.size
      go_wp2_with fail
      refine (specSheetStack_no s _ (by unfold maxLen; omega) HOK.out).mono ?_
      rintro e w3 ⟨A3, rfl, hb3⟩
      go_wp2_with fail
      refine (sameCells_nil _ _ _ _ _).mono ?_
      rintro e w4 ⟨rfl, rfl⟩
      go_wp2_with fail
      refine (sameCells_nil _ _ _ _ _).mono ?_
      rintro e w4 ⟨rfl, rfl⟩
      go_wp2_with fail
      go_ret
      exact ⟨rfl, hb1.trans ((hb2.trans (hb3.mono hz2)).mono hz1)⟩
    | true =>
      obtain ⟨hn1, hn32⟩ := stackC_bd hok
      have hlen := stackC_length (bl s)
      rw [bl_length] at hlen
      obtain ⟨cs, hcs⟩ : ∃ cs, cs = stackC (bl s) := ⟨_, rfl⟩
      have HR1 : Hid (∀ w, Calls Try.prog 21 #[.string s] w (StackRead w cs)) := by rw [hcs]; exact fun w => specSheetStack s w hok
      have HR2 : Hid (∀ w, Calls Try.prog 13 #[.string s] w (StackBack w cs)) := by rw [hcs]; exact fun w => implSheetStack s w hok
      rw [← hcs] at hn1 hn32 hlen
      obtain ⟨n, hn⟩ : ∃ n, cs.length = n := ⟨_, rfl⟩
      have HN := Lib.hid hn
      rw [hn] at hn1 hn32 hlen
      have hs5 : s.size ≤ 5 := by rw [← bl_length]; exact (ok_is hok).2
      have HOK := Lib.hid hok
      have HCS := Lib.hid hcs
      have HLEN := Lib.hid hlen
      clear hcs hn hok hlen
      go_wp2_with fail
      refine (HR2.out _).mono ?_
      rintro e w2 ⟨g2, c2, rfl, hg2, ho2, hb2⟩
      rw [HN.out] at ho2 ⊢
      have hz2 := hb2.size
      have hl2 : g2 < w2.heap.size := (ho2.lt _ rfl).2
      have hr2 := RowC.of_own ho2
      have hc2 := own_cap ho2
      clear ho2
      go_wp2_with fail
      refine (HR1.out _).mono ?_
      rintro e w3 ⟨g3, c3, rfl, hr3, hb3⟩
      rw [HN.out]
      have hz3 := hb3.size
      have hr23 := hr2.keep (hb3.block g2 hl2)
      clear hr2
      go_wp2_with fail
      refine (sameCells g2 g3 n _ _ cs _ HN.out (by omega) hr23 hr3).mono ?_
      rintro e w4 ⟨rfl, hb4⟩
      have hz4 := hb4.size
      have HR4 := Lib.hid (hr23.keep (hb4.block g2 (by omega)))
      have hb14 : Below w.heap.size w w4 := hb1.trans ((hb2.trans ((hb3.trans (hb4.mono hz3)).mono hz2)).mono hz1)
      have hz14 := hb14.size
      have hgl4 : g2 < w4.heap.size := by omega
      clear hb1 hb2 hb3 hb4 hr23 hr3
      have C5 := fun w => implSheetSize s w (show s.size ≤ maxLen by unfold maxLen; omega)
      have hr0 : sheetRows (bl s) = rowsOf (bl s) := by unfold sheetRows; rw [HOK.out]; rfl
      have hcc0 : sheetCols (bl s) = colsOf (bl s) := by unfold sheetCols; rw [HOK.out]; rfl
      rw [hr0, hcc0, HOK.out] at C5
      obtain ⟨R, hRR⟩ : ∃ R, R = rowsOf (bl s) := ⟨_, rfl⟩
      obtain ⟨C, hCC⟩ : ∃ C, C = colsOf (bl s) := ⟨_, rfl⟩
      rw [← hRR, ← hCC] at C5
      have HC5 := Lib.hid C5
      have HRR := Lib.hid hRR
      have HCC := Lib.hid hCC
      clear C5 hr0 hcc0 hRR hCC hz1 hz2 hz3 hz4 hg2 hl2 hc2
      by_cases hR1 : 1 < R
      · have k1 : (1 : Int) < (R : Int) := by omega
        go_wp2_with fail
        refine (HC5.out _).mono ?_
        rintro e w5 ⟨rfl, hb5⟩
        go_wp2_with fail
        go_ret
        exact ⟨rfl, hb14.trans (hb5.mono hz14)⟩
      by_cases hC4 : 4 < C
      · have k1 : ¬ (1 : Int) < (R : Int) := by omega
        have k2 : (4 : Int) < (C : Int) := by omega
        go_wp2_with fail
        refine (HC5.out _).mono ?_
        rintro e w5 ⟨rfl, hb5⟩
        go_wp2_with fail
        go_ret
        exact ⟨rfl, hb14.trans (hb5.mono hz14)⟩
      have k1 : ¬ (1 : Int) < (R : Int) := by omega
      have k2 : ¬ (4 : Int) < (C : Int) := by omega
      have hin : bl s ∈ txts := txts_in HOK.out (by rw [← HRR.out]; omega) (by rw [← HCC.out]; omega)
      have hokT := txts_ok _ hin
      unfold okT at hokT
      rw [Bool.and_eq_true, Bool.and_eq_true, Bool.and_eq_true, decide_eq_true_eq, decide_eq_true_eq, ← HCC.out, ← HCS.out, HN.out] at hokT
      obtain ⟨hCn, hfs, hlay, hpos⟩ := hokT
      have HFS : Hid (∀ k, k ≤ C → (foR (bl s) k).size ≤ 5) := fun k hk => hfs ⟨k, by omega⟩
      have HLAY := Lib.hid hlay
      have HPOS := Lib.hid hpos
      have hY : ysT (bl s) = if upT (bl s) C then layT (bl s) C else (layT (bl s) C).reverse := by unfold ysT; rw [← HCC.out]
      have HYS := Lib.hid hY
      have HLT : Hid (∀ k, layT (bl s) k = (cs.take k).map fun x => x.col) := fun k => by unfold layT; rw [HCS.out]
      have HUT : Hid (∀ k, upT (bl s) k = (cs.take k).any fun x => x.col == 0 && x.up) := fun k => by unfold upT; rw [HCS.out]
      have HC6 : Hid (∀ k w, Calls Try.prog 8 #[.string s, .int .i64 0, .int .i64 (k : Nat)] w fun e w' => e = .returned (.string (rightC (bl s) 0 k)) ∧ Below w.heap.size w w') := fun k w => implSheetRight s 0 k w (by unfold maxLen; omega)
      obtain ⟨i0, hi0, hz0, hz1', hz2'⟩ := info_parts infoI
      have HI := Lib.hid hi0; have HZ0 := Lib.hid hz0; have HZ1 := Lib.hid hz1'; have HZ2 := Lib.hid hz2'
      obtain ⟨FO, hFO⟩ : ∃ FO : Nat → ByteArray, FO = foR (bl s) := ⟨_, rfl⟩
      have HFO0 : Hid ((⟨#[]⟩ : ByteArray) = FO 0) := by show _ = _; rw [hFO]; rfl
      have HFOS : Hid (∀ k, FO k ++ rightC (bl s) 0 (k : Nat) = FO (k + 1)) := fun k => by rw [hFO]; rfl
      rw [← hFO] at HLAY HFS
      obtain ⟨RC, hRC⟩ : ∃ RC : Nat → ByteArray, RC = fun k => rightC (bl s) 0 (k : Nat) := ⟨_, rfl⟩
      have HC7 : Hid (∀ k w, Calls Try.prog 8 #[.string s, .int .i64 0, .int .i64 (k : Nat)] w fun e w' => e = .returned (.string (RC k)) ∧ Below w.heap.size w w') := by rw [hRC]; exact HC6.out
      have HFO2 : Hid (∀ k, FO k ++ RC k = FO (k + 1)) := by rw [hRC]; exact HFOS.out
      have hC4' : C ≤ 4 := by omega
      clear hfs hlay hpos hY hi0 hz0 hz1' hz2' hin HC6 HFOS hFO hRC hR1 hC4
      go_wp2_with fail
      refine (HC5.out _).mono ?_
      rintro e w5 ⟨rfl, hb5⟩
      have hb15 := hb14.trans (hb5.mono hz14)
      have hz15 := hb15.size
      have HR5 := Lib.hid (HR4.out.keep (hb5.block g2 hgl4))
      have hgl5 : g2 < w5.heap.size := by have := hb5.size; omega
      clear hb14 hb5 HR4 hgl4 hz14
      go_wp2_with fail
      go_loopw [11, 12, 13, 14] (fun f v u i wr => ∃ (k g' cap : Nat) (ub : Bool) (fo : ByteArray), k ≤ C ∧ i = .int .i64 k ∧ v = .slice (some ⟨g', 0, none⟩) k cap ∧ u = .bool ub ∧ f = .string fo ∧ fo.size ≤ 5 ∧ Hid (fo = FO k) ∧ Hid (ub = upT (bl s) k) ∧
          wr.ownsRow w5.heap.size 3 1 (.slice (some ⟨g', 0, none⟩) k cap) k ((layT (bl s) k).map (Value.int .i64)) ∧ w5.heap.size ≤ g' ∧ Below w5.heap.size w5 wr)
        (fun _ _ _ i _ => C - (intOf i).toNat)
      case atStart => exact ⟨0, w5.heap.size, 0, false, ⟨#[]⟩, Nat.zero_le _, rfl, rfl, rfl, rfl, Nat.zero_le _, HFO0, Lib.hid rfl, by
        have := World.ownsRow_lit (base := w5.heap.size) (e := 3) (size := 1) w5 #[] 0 (Nat.le_refl _) (by unfold maxLen; omega) rfl
        simpa [layT] using this, Nat.le_refl _, (by repeat (first | exact Below.refl _ _ | assumption | (refine Below.setCell ?_ (by first | omega | (simp; done) | (simp; omega)) _) | (refine Below.alloc ?_ (by first | omega | (simp; done) | (simp; omega)) _) | (refine below_drewN ?_ _) | (refine Below.drew ?_)))⟩
      case round =>
        obtain ⟨k, g', cap, ub, fo, hk, rfl, rfl, rfl, rfl, hfs, HF, HU, hown, hg', hbel⟩ := hrel
        have hzr := hbel.size
        by_cases hlt : k < C
        · obtain ⟨p, hp⟩ : ∃ p, cs[k]? = some p := ⟨_, List.getElem?_eq_getElem (by rw [HN.out]; omega)⟩
          have htake : cs.take (k + 1) = cs.take k ++ [p] := by
            obtain ⟨h1, h2⟩ := List.getElem?_eq_some_iff.1 hp
            rw [List.take_succ_eq_append_getElem h1, h2]
          obtain ⟨x1, x2, x3, _⟩ := (HR5.out.keep (hbel.block g2 hgl5)).at hp
          have k3 : (0 : Int) ≤ (k : Int) := by omega
          have k4 : (k : Int) < (n : Int) := by omega
          have HMAP : Hid ((layT (bl s) (k + 1)).map (Value.int .i64) = (layT (bl s) k).map (Value.int .i64) ++ [.int .i64 p.col]) := by
            show _ = _
            rw [HLT.out, HLT.out, htake]
            simp
          have HUP : Hid (upT (bl s) (k + 1) = (ub || (p.col == 0 && p.up))) := by
            show _ = _
            rw [HUT.out, HU.out, HUT.out, htake, List.any_append]
            simp
          have HF2 : Hid (fo ++ RC k = FO (k + 1)) := by show _ = _; rw [HF.out]; exact HFO2.out k
          have hfs2 : (fo ++ RC k).size ≤ 5 := by rw [HF2.out]; exact HFS.out (k + 1) (by omega)
          have hrc : (RC k).size ≤ 5 := by
            have := hfs2
            rw [ByteArray.size_append] at this
            omega
          obtain ⟨pc, hpc⟩ : ∃ pc, pc = p.col := ⟨_, rfl⟩
          obtain ⟨pu, hpu⟩ : ∃ pu, pu = p.up := ⟨_, rfl⟩
          rw [← hpc] at x2 HMAP HUP
          rw [← hpu] at x3 HUP
          have HX : Hid (∀ w', Below w5.heap.size w5 w' → w'.cell? ⟨g2, k * 4 + 1, none⟩ = some (.int .i64 pc) ∧ w'.cell? ⟨g2, k * 4 + 2, none⟩ = some (.bool pu)) := fun w' hb => by
            obtain ⟨_, h2, h3, _⟩ := (HR5.out.keep (hb.block g2 hgl5)).at hp
            rw [hpc, hpu]
            exact ⟨h2, h3⟩
          clear hp htake hpc hpu x1
          go_wp2_with (at_builtin; refine wpList_append_own _ rfl _ _ 43 rfl w5.heap.size 3 i0 (.int .i64 0) 1 8 Try.underlying43 HI.out HZ0.out HZ1.out HZ2.out rfl (by decide) _ k _ rfl (hown.alloc _) ⟨wr.heap.size, 0, none⟩ 1 1 [.int .i64 pc] rfl rfl (cell_one_new _ _ _) (ints_oneCell .i64 [pc]) (by unfold maxLen; omega) (by omega) (by simp; omega) ?_; intro v' w6 hown6 hgr6 _; obtain ⟨g6, cap6, hv6, hg6, hl6⟩ := ownI_form hown6 (by omega); subst hv6)
          have hbel6 : Below w5.heap.size w5 w6 := below_grown_at' (hbel.alloc hzr _) hgr6 (by simp; omega) hg'
          have hz6 := hbel6.size
          refine (HC7.out k _).mono ?_
          rintro e w7 ⟨rfl, hb7⟩
          have hbel7 := hbel6.trans (hb7.mono hz6)
          have hown7 := ownsRow_of_block hown6 (hb7.block g6 hl6)
          obtain ⟨y2, y3⟩ := HX.out w7 hbel7
          have hgr7 := hb7.size
          clear x2 x3 hown6 hgr6 hbel6 hb7
          cases ub with
          | true =>
            go_wp2_with fail
            go_roundw
            case rel => exact ⟨k + 1, g6, cap6, _, _, by omega, by go_num, rfl, rfl, rfl, hfs2, HF2, Lib.hid (by rw [HUP.out]; rfl), by rw [HMAP.out]; exact hown7, hg6, hbel7⟩
            case measure => simp [intOf]; omega
          | false =>
            cases he : (pc == 0) with
            | false =>
              go_wp2_with fail
              go_roundw
              case rel => exact ⟨k + 1, g6, cap6, _, _, by omega, by go_num, rfl, rfl, rfl, hfs2, HF2, Lib.hid (by rw [HUP.out, he]; rfl), by rw [HMAP.out]; exact hown7, hg6, hbel7⟩
              case measure => simp [intOf]; omega
            | true =>
              go_wp2_with fail
              go_roundw
              case rel => exact ⟨k + 1, g6, cap6, _, _, by omega, by go_num, rfl, rfl, rfl, hfs2, HF2, Lib.hid (by rw [HUP.out, he]; rfl), by rw [HMAP.out]; exact hown7, hg6, hbel7⟩
              case measure => simp [intOf]; omega
        · obtain rfl : k = C := by omega
          obtain ⟨hyr, hyl⟩ := RowI.of_own hown
          obtain ⟨ys, hys⟩ : ∃ ys, ys = ysT (bl s) := ⟨_, rfl⟩
          have hyeq := HYS.out
          rw [← HU.out, ← hys] at hyeq
          rw [← hys] at HLAY HPOS
          have hb16 := hb15.trans (hbel.mono hz15)
          have hz16 := hb16.size
          clear hown hys HYS
          cases ub with
          | true =>
            have e1 : ys = layT (bl s) k := hyeq
            rw [← e1] at hyr hyl
            have HYR := Lib.hid hyr
            have HYL := Lib.hid hyl
            have hbY := hb16
            have hzY := hz16
            clear hyr hyl hyeq e1
            have hR1 := HYR.out.1
            go_wp2_with fail
            refine (ones k _ (by omega)).mono ?_
            rintro e wb ⟨gb, nb, cb, hnb, rfl, hgb, hrb, hbb⟩
            rw [List.length_replicate] at hnb
            subst hnb
            have hzb := hbb.size
            have HYR2 := Lib.hid (HYR.out.below hbb hR1)
            have hR2 := HYR2.out.1
            have HRB := Lib.hid hrb
            clear hrb
            have C8 := stripLayers gb k cb g' k cap (List.replicate k 1) ys fo wb List.length_replicate (by omega) HRB.out (by omega) HYL.out rfl HYR2.out
            rw [HF.out, HLAY.out, ← HF.out] at C8
            have HC8 := Lib.hid C8
            clear C8
            go_wp2_with fail
            refine HC8.out.mono ?_
            rintro e wc ⟨rfl, hbc⟩
            have HYR3 := Lib.hid (HYR2.out.below hbc hR2)
            have hzc := hbc.size
            have C9 := implStampPossible g' k cap ys wc HYL.out (by omega) HYR3.out
            rw [HPOS.out] at C9
            have HC9 := Lib.hid C9
            clear C9
            go_wp2_with fail
            refine HC9.out.mono ?_
            rintro e wd ⟨rfl, hbd⟩
            go_wp2_with fail
            go_ret
            exact ⟨rfl, hbY.trans ((hbb.trans ((hbc.trans (hbd.mono hzc)).mono hzb)).mono hzY)⟩
          | false =>
            have e1 : ys = (layT (bl s) k).reverse := hyeq
            have C10 := reversed g' k cap (layT (bl s) k) wr hyl (by omega) hyr
            rw [← e1] at C10
            have HYL : Hid (ys.length = k) := by show _ = _; rw [e1, List.length_reverse, hyl]
            have HC10 := Lib.hid C10
            clear hyr hyl hyeq e1 C10
            go_wp2_with fail
            refine HC10.out.mono ?_
            rintro e w8 ⟨g8, n8, c8, hn8, rfl, hg8, hr8, hb8⟩
            rw [HYL.out] at hn8
            subst hn8
            have HYR := Lib.hid hr8
            have hbY := hb16.trans (hb8.mono hz16)
            have hzY := hbY.size
            clear hr8
            have hR1 := HYR.out.1
            go_wp2_with fail
            refine (ones k _ (by omega)).mono ?_
            rintro e wb ⟨gb, nb, cb, hnb, rfl, hgb, hrb, hbb⟩
            rw [List.length_replicate] at hnb
            subst hnb
            have hzb := hbb.size
            have HYR2 := Lib.hid (HYR.out.below hbb hR1)
            have hR2 := HYR2.out.1
            have HRB := Lib.hid hrb
            clear hrb
            have C8 := stripLayers gb k cb g8 k c8 (List.replicate k 1) ys fo wb List.length_replicate (by omega) HRB.out (by omega) HYL.out rfl HYR2.out
            rw [HF.out, HLAY.out, ← HF.out] at C8
            have HC8 := Lib.hid C8
            clear C8
            go_wp2_with fail
            refine HC8.out.mono ?_
            rintro e wc ⟨rfl, hbc⟩
            have HYR3 := Lib.hid (HYR2.out.below hbc hR2)
            have hzc := hbc.size
            have C9 := implStampPossible g8 k c8 ys wc HYL.out (by omega) HYR3.out
            rw [HPOS.out] at C9
            have HC9 := Lib.hid C9
            clear C9
            go_wp2_with fail
            refine HC9.out.mono ?_
            rintro e wd ⟨rfl, hbd⟩
            go_wp2_with fail
            go_ret
            exact ⟨rfl, hbY.trans ((hbb.trans ((hbc.trans (hbd.mono hzc)).mono hzb)).mono hzY)⟩
end Go.Proofs.Ytdgkjlehofkooaa
