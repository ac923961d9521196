/- The law FnRowStack, walked: it returns true. (Printed by gen_rowstack.py.) Conditions: each theorem's own premises. -/
import Derived.Test.YtnpmpkolglmhdaaPlainK
import Derived.Test.YtnpmpkolglmhdaaSame
import Derived.Test.YtnpmpkolglmhdaaDrawS
import Derived.Test.YtnpmpkolglmhdaaSheetB
import Derived.Maps.AppendAt
namespace Go.Proofs.Ytnpmpkolglmhdaa
open Go.RowKit
theorem infoInt : (Try.prog.info? 3).map (fun i => (i.zero, i.size, i.bytes)) = some (some (.int .i64 0), 1, 8) := by kernel_rfl
theorem own_cap {w : World} {base n size g cap : Nat} {e : TypeId} {xs : List Value} (_ : w.ownsRow base e size (.slice (some ⟨g, 0, none⟩) n cap) n xs) : True := trivial
theorem filter_takeW (s : ByteArray) {k : Nat} (h : k < s.size) : ((bl s).take (k + 1)).filter isWide = ((bl s).take k).filter isWide ++ if isWide s[k] then [s[k]] else [] := by
  rw [bl_take s k h, List.filter_append]
  congr 1
  cases e : isWide s[k] <;> simp [e]
theorem letter_wideW (c : UInt8) :
    (isWide c = true ∧ ((c.toNat : Int) == 82) = true) ∨ (isWide c = true ∧ ((c.toNat : Int) == 82) = false ∧ ((c.toNat : Int) == 76) = true) ∨
    (isWide c = true ∧ ((c.toNat : Int) == 82) = false ∧ ((c.toNat : Int) == 76) = false ∧ ((c.toNat : Int) == 114) = true) ∨
    (isWide c = true ∧ ((c.toNat : Int) == 82) = false ∧ ((c.toNat : Int) == 76) = false ∧ ((c.toNat : Int) == 114) = false ∧ ((c.toNat : Int) == 108) = true) ∨
    (isWide c = false ∧ ((c.toNat : Int) == 82) = false ∧ ((c.toNat : Int) == 76) = false ∧ ((c.toNat : Int) == 114) = false ∧ ((c.toNat : Int) == 108) = false) := by
  unfold isWide wide
  cases (c.toNat : Int) == 82 <;> cases (c.toNat : Int) == 76 <;> cases (c.toNat : Int) == 114 <;> cases (c.toNat : Int) == 108 <;> simp
theorem powerP (n : Nat) (w : World) (hn : n ≤ 20) : Calls Try.prog 21 #[.int .i64 n] w fun e w' => e = .returned (.int .i64 ((2 ^ n : Nat) : Int)) ∧ w = w' := by
  obtain ⟨Z, hZ⟩ : ∃ Z : Nat → Nat, Z = fun n => 2 ^ n := ⟨_, rfl⟩
  have h1 : ∀ k, Z (k + 1) = Z k * 2 := fun k => by rw [hZ]; exact Nat.pow_succ 2 k
  have h2 : ∀ k, k ≤ 20 → Z k ≤ 1048576 := fun k hk => by rw [hZ]; exact Nat.le_trans (Nat.pow_le_pow_right (by omega) hk) (by decide)
  have h0 : Z 0 = 1 := by rw [hZ]
  have e : ((2 ^ n : Nat) : Int) = (Z n : Int) := by rw [hZ]
  rw [e]
  have H1 := Lib.hid h1
  have H2 := Lib.hid h2
  have H0 := Lib.hid h0
  clear hZ h1 h2 h0 e
  go_enter Try.func21, Try.ntmps21
  go_wp2
  go_loop [3, 4] (fun o i => ∃ k : Nat, ∃ x : Nat, k ≤ n ∧ i = .int .i64 k ∧ o = .int .i64 x ∧ x ≤ 1048576 ∧ Hid (x = Z k)) (fun _ i => n - (intOf i).toNat)
  case atStart => exact ⟨0, 1, Nat.zero_le _, rfl, rfl, by omega, Lib.hid H0.out.symm⟩
  case round =>
    obtain ⟨k, x, hk, rfl, rfl, hx, HX⟩ := hrel
    by_cases hlt : k < n
    · go_wp2
      have hp : Z (k + 1) = x * 2 := by rw [H1.out, HX.out]
      have hq : x * 2 ≤ 1048576 := by
        rw [← hp]
        exact H2.out _ (by omega)
      go_round
      case rel => exact ⟨k + 1, x * 2, by omega, by go_num, by go_num, hq, Lib.hid hp.symm⟩
      case measure => simp [intOf]; omega
    · have HE : Hid (x = Z n) := by
        obtain rfl : k = n := by omega
        exact HX
      clear HX
      go_wp2
      go_ret
      exact ⟨ret_int (congrArg (fun n : Nat => (n : Int)) HE.out), rfl⟩
set_option maxRecDepth 100000 in
set_option maxHeartbeats 8000000 in
theorem fnRowStack_walk (w : World) (a0 : Option Addr) (len0 cap0 : Nat) (z0 : List Int) (w0 : IsRow .u8 w a0 len0 cap0 z0) (a1 : Option Addr) (len1 cap1 : Nat) (z1 : List Int) (w1 : IsRow .u8 w a1 len1 cap1 z1) :
    Calls Try.prog 7 #[.slice a0 len0 cap0, .slice a1 len1 cap1] w fun e w' => e = .returned (.bool true) ∧ Below w.heap.size w w' := by
  have HW := Lib.hid w0
  clear w0
  by_cases hl : 1048576 < len0
  · go_enter Try.func7, Try.ntmps7
    go_wp2
    go_ret
    exact ⟨rfl, Below.refl _ _⟩
  by_cases hl1 : 1048576 < len1
  · go_enter Try.func7, Try.ntmps7
    go_wp2
    go_ret
    exact ⟨rfl, Below.refl _ _⟩
  · have HW1 := Lib.hid w1
    clear w1
    go_enter Try.func7, Try.ntmps7
    go_wp2_with fail
    refine (drawSheetStack _ _ _ _ _ HW.out HW.out.le).mono ?_
    rintro e w1 ⟨s, rfl, hs, hb1⟩
    have hz1 := hb1.size
    cases hok : sheetOk (bl s) with
    | false =>
      have HOK := Lib.hid hok
      clear hok
      go_wp2_with fail
      refine (implSheetStack_no s _ (by unfold maxLen; omega) HOK.out).mono ?_
      rintro e w2 ⟨A2, rfl, hb2⟩
      have hz2 := hb2.size
      go_wp2_with fail
      refine (specSheetStack_no s _ (by unfold maxLen; omega) HOK.out).mono ?_
      rintro e w3 ⟨A3, rfl, hb3⟩
      go_wp2_with fail
      refine (sameCells_nil _ _ _ _ _).mono ?_
      rintro e w4 ⟨rfl, rfl⟩
      go_wp2_with fail
      refine (sameCells_nil _ _ _ _ _).mono ?_
      rintro e w4 ⟨rfl, rfl⟩
      go_wp2_with fail
      go_ret
      exact ⟨rfl, hb1.trans ((hb2.trans (hb3.mono hz2)).mono hz1)⟩
    | true =>
      obtain ⟨hn1, hn32⟩ := stackC_bd hok
      have hlen := stackC_length (bl s)
      rw [bl_length] at hlen
      obtain ⟨cs, hcs⟩ : ∃ cs, cs = stackC (bl s) := ⟨_, rfl⟩
      have HR1 : Hid (∀ w, Calls Try.prog 18 #[.string s] w (StackRead w cs)) := by rw [hcs]; exact fun w => specSheetStack s w hok
      have HR2 : Hid (∀ w, Calls Try.prog 12 #[.string s] w (StackBack w cs)) := by rw [hcs]; exact fun w => implSheetStack s w hok
      rw [← hcs] at hn1 hn32 hlen
      obtain ⟨n, hn⟩ : ∃ n, cs.length = n := ⟨_, rfl⟩
      have HN := Lib.hid hn
      rw [hn] at hn1 hn32 hlen
      have hs5 : s.size ≤ 5 := by rw [← bl_length]; exact (ok_is hok).2
      have HOK := Lib.hid hok
      have HCS := Lib.hid hcs
      have HLEN := Lib.hid hlen
      clear hcs hn hok hlen
      go_wp2_with fail
      refine (HR2.out _).mono ?_
      rintro e w2 ⟨g2, c2, rfl, hg2, ho2, hb2⟩
      rw [HN.out] at ho2 ⊢
      have hz2 := hb2.size
      have hl2 : g2 < w2.heap.size := (ho2.lt _ rfl).2
      have hr2 := RowC.of_own ho2
      have hc2 := own_cap ho2
      clear ho2
      go_wp2_with fail
      refine (HR1.out _).mono ?_
      rintro e w3 ⟨g3, c3, rfl, hr3, hb3⟩
      rw [HN.out]
      have hz3 := hb3.size
      have hr23 := hr2.keep (hb3.block g2 hl2)
      clear hr2
      go_wp2_with fail
      refine (sameCells g2 g3 n _ _ cs _ HN.out (by omega) hr23 hr3).mono ?_
      rintro e w4 ⟨rfl, hb4⟩
      have hz4 := hb4.size
      have HR4 := Lib.hid (hr23.keep (hb4.block g2 (by omega)))
      have hb14 : Below w.heap.size w w4 := hb1.trans ((hb2.trans ((hb3.trans (hb4.mono hz3)).mono hz2)).mono hz1)
      have hz14 := hb14.size
      have hgl4 : g2 < w4.heap.size := by omega
      clear hb1 hb2 hb3 hb4 hr23 hr3
      have C5 := fun w => implSheetSize s w (show s.size ≤ maxLen by unfold maxLen; omega)
      have hr0 : sheetRows (bl s) = rowsOf (bl s) := by unfold sheetRows; rw [HOK.out]; rfl
      have hcc0 : sheetCols (bl s) = colsOf (bl s) := by unfold sheetCols; rw [HOK.out]; rfl
      have hRb := rowsOf_bd (bl s) (by rw [bl_length]; exact hs5)
      rw [hr0, hcc0, HOK.out] at C5
      obtain ⟨R, hRR⟩ : ∃ R, R = rowsOf (bl s) := ⟨_, rfl⟩
      obtain ⟨C, hCC⟩ : ∃ C, C = colsOf (bl s) := ⟨_, rfl⟩
      rw [← hRR, ← hCC] at C5
      rw [← hRR] at hRb
      obtain ⟨K, hK⟩ : ∃ K, K = len1 % R := ⟨_, rfl⟩
      have hKR : K < R := by rw [hK]; exact Nat.mod_lt _ (by omega)
      have g1 : (len1 : Int).tmod (R : Int) = (K : Int) := by rw [Int.tmod_eq_emod_of_nonneg (by omega), hK]; rfl
      obtain ⟨T, hT, hTq⟩ := row_cols (row := (K : Int)) HOK.out (by omega) (by rw [← hRR]; omega)
      have hRow : Hid (rowQ (bl s) K = (cs.filter fun x => x.row == (K : Int)).map fun x => x.col) := by
        show _ = _
        unfold rowQ
        rw [HCS.out]
      obtain ⟨qs, hqs⟩ : ∃ qs, qs = rowQ (bl s) K := ⟨_, rfl⟩
      rw [← hqs] at hTq
      have HQS := Lib.hid hqs
      have HC5 := Lib.hid C5
      have HTQ := Lib.hid hTq
      have HT := Lib.hid hT
      obtain ⟨i0, hi0, hz0, hz1', hz2'⟩ := info_parts infoInt
      have HI := Lib.hid hi0; have HZ0 := Lib.hid hz0; have HZ1 := Lib.hid hz1'; have HZ2 := Lib.hid hz2'
      have HL : Hid (∀ k (h : k < s.size), letter s[k] = true) := fun k h => (ok_is HOK.out).1 s[k] (List.mem_of_getElem? (bl_get s k h))
      clear C5 hr0 hcc0 hRR hCC hK hT hTq hqs hi0 hz0 hz1' hz2' hz1 hz2 hz3 hz4 hg2 hl2 hc2
      go_wp2_with fail
      refine (HC5.out _).mono ?_
      rintro e w5 ⟨rfl, hb5⟩
      have hb15 := hb14.trans (hb5.mono hz14)
      have hz15 := hb15.size
      have HR5 := Lib.hid (HR4.out.keep (hb5.block g2 hgl4))
      have hgl5 : g2 < w5.heap.size := by have := hb5.size; omega
      clear hb14 hb5 HR4 hgl4 hz14
      go_wp2_with fail
      go_loopw [14, 15] (fun v i wr => ∃ k g' m cap : Nat, k ≤ n ∧ m ≤ k ∧ i = .int .i64 k ∧ v = .slice (some ⟨g', 0, none⟩) m cap ∧ (∃ xs : List Int, Hid (xs = ((cs.take k).filter fun x => x.row == (K : Int)).map fun x => x.col) ∧ wr.ownsRow w5.heap.size 3 1 (.slice (some ⟨g', 0, none⟩) m cap) m (xs.map (Value.int .i64))) ∧ w5.heap.size ≤ g' ∧ Below w5.heap.size w5 wr)
        (fun _ i _ => n - (intOf i).toNat)
      case atStart => exact ⟨0, w5.heap.size, 0, 0, Nat.zero_le _, Nat.le_refl _, rfl, rfl, ⟨[], Lib.hid rfl, by
        have := World.ownsRow_lit (base := w5.heap.size) (e := 3) (size := 1) w5 #[] 0 (Nat.le_refl _) (by unfold maxLen; omega) rfl
        simpa using this⟩, Nat.le_refl _, (by repeat (first | exact Below.refl _ _ | assumption | (refine Below.setCell ?_ (by first | omega | (simp; done) | (simp; omega)) _) | (refine Below.alloc ?_ (by first | omega | (simp; done) | (simp; omega)) _) | (refine below_drewN ?_ _) | (refine Below.drew ?_)))⟩
      case round =>
        obtain ⟨k, g', m, cap, hk, hmk, rfl, rfl, ⟨xs, HXS, hown⟩, hg', hbel⟩ := hrel
        have hzr := hbel.size
        by_cases hlt : k < n
        · obtain ⟨p, hp⟩ : ∃ p, cs[k]? = some p := ⟨_, List.getElem?_eq_getElem (by rw [HN.out]; exact hlt)⟩
          obtain ⟨x1, x2, _, _⟩ := (HR5.out.keep (hbel.block g2 hgl5)).at hp
          have htake : cs.take (k + 1) = cs.take k ++ [p] := by
            obtain ⟨h1, h2⟩ := List.getElem?_eq_some_iff.1 hp
            rw [List.take_succ_eq_append_getElem h1, h2]
          have k0 : (0 : Int) ≤ (k : Int) := by omega
          have k1 : (k : Int) < (n : Int) := by omega
          cases hrow : (p.row == (K : Int)) with
          | false =>
            have HX2 : Hid (xs = ((cs.take (k + 1)).filter fun x => x.row == (K : Int)).map fun x => x.col) := by
              show _ = _
              rw [htake, List.filter_append, List.map_append, HXS.out]
              simp [hrow]
            clear htake hp
            go_wp2_with fail
            go_roundw
            case rel => exact ⟨k + 1, g', m, cap, by omega, by omega, by go_num, rfl, ⟨xs, HX2, hown⟩, hg', hbel⟩
            case measure => simp [intOf]; omega
          | true =>
            have HX2 : Hid (xs ++ [p.col] = ((cs.take (k + 1)).filter fun x => x.row == (K : Int)).map fun x => x.col) := by
              show _ = _
              rw [htake, List.filter_append, List.map_append, HXS.out]
              simp [hrow]
            have HMAP : Hid ((xs ++ [p.col]).map (Value.int .i64) = xs.map (Value.int .i64) ++ [.int .i64 p.col]) := by show _ = _; simp
            clear htake hp
            go_wp2_with (at_builtin; refine wpList_append_own _ rfl _ _ 36 rfl w5.heap.size 3 i0 (.int .i64 0) 1 8 Try.underlying36 HI.out HZ0.out HZ1.out HZ2.out rfl (by decide) _ m _ rfl (hown.alloc _) ⟨wr.heap.size, 0, none⟩ 1 1 [.int .i64 p.col] rfl rfl (cell_one_new _ _ _) (ints_oneCell .i64 [p.col]) (by unfold maxLen; omega) (by omega) (by simp; omega) ?_; intro v' w6 hown6 hgr6 _; obtain ⟨g6, cap6, hv6, hg6, hl6⟩ := own_form hown6 (by omega); subst hv6)
            have hbel6 : Below w5.heap.size w5 w6 := below_grown_at' (hbel.alloc hzr _) hgr6 (by simp; omega) hg'
            go_roundw
            case rel => exact ⟨k + 1, g6, m + 1, cap6, by omega, by omega, by go_num, rfl, ⟨xs ++ [p.col], HX2, by rw [HMAP.out]; exact hown6⟩, hg6, hbel6⟩
            case measure => simp [intOf]; omega
        · obtain rfl : k = n := by omega
          have hxs : xs = qs := by
            rw [HXS.out, HQS.out, hRow.out, ← HN.out, List.take_length]
          subst hxs
          have hml : xs.length = m := by have := hown.1; simpa using this
          have HRI : Hid (∀ (i : Nat) (x : Int), xs[i]? = some x → wr.cell? ⟨g', i, none⟩ = some (.int .i64 x)) := fun i x hx => own_at hown (by rw [List.getElem?_map, hx]; rfl)
          have hgr : g' < wr.heap.size := (hown.lt g' rfl).2
          have HML := Lib.hid hml
          have hb16 : Below w.heap.size w wr := hb15.trans (hbel.mono hz15)
          have hz16 := hb16.size
          generalize hw6 : wr = w6 at hb16 hz16 HRI hgr ⊢
          clear hw6 hown hbel hzr hml hb15 HXS
          go_wp2_with fail
          go_loopw [16, 17] (fun o i wr => ∃ (k : Nat) (b : ByteArray), k ≤ s.size ∧ i = .int .i64 k ∧ o = .string b ∧ b.size ≤ k ∧ Hid (bl b = ((bl s).take k).filter isWide) ∧ w6 = wr) (fun _ i _ => s.size - (intOf i).toNat)
          case atStart => exact ⟨0, ⟨#[]⟩, Nat.zero_le _, rfl, rfl, Nat.le_refl _, Lib.hid (by rw [List.take_zero]; rfl), rfl⟩
          case round =>
            obtain ⟨k, bb, hk, rfl, rfl, hbs, HB, rfl⟩ := hrel
            by_cases hlt : k < s.size
            · have HF := Lib.hid (filter_takeW s hlt)
              have hext1 : (s.extract k (k + 1)).size = 1 := by rw [ByteArray.size_extract]; omega
              rcases letter_wideW s[k] with ⟨hw, t1⟩ | ⟨hw, t1, t2⟩ | ⟨hw, t1, t2, t3⟩ | ⟨hw, t1, t2, t3, t4⟩ | ⟨hw, t1, t2, t3, t4⟩
              rotate_left 4
              · have HB2 : Hid (bl bb = ((bl s).take (k + 1)).filter isWide) := by
                  show _ = _
                  rw [HF.out, HB.out, hw]
                  simp
                clear hw
                go_wp2
                go_roundw
                case rel => exact ⟨k + 1, _, by omega, by go_num, rfl, by omega, HB2, (by first | rfl | trivial)⟩
                case measure => simp [intOf]; omega
              all_goals
                have HB2 : Hid (bl (bb ++ s.extract k (k + 1)) = ((bl s).take (k + 1)).filter isWide) := by
                  show _ = _
                  rw [HF.out, bl_append, HB.out, hw, bl_slice1 s k hlt]
                  rfl
                have hsz : (bb ++ s.extract k (k + 1)).size ≤ k + 1 := by rw [ByteArray.size_append, hext1]; omega
                clear hw
                go_wp2
                go_roundw
                case rel => exact ⟨k + 1, _, by omega, by go_num, rfl, hsz, HB2, (by first | rfl | trivial)⟩
                case measure => simp [intOf]; omega
            · obtain rfl : k = s.size := by omega
              have hbb : bl bb = (bl s).filter isWide := by rw [HB.out, bl_full]
              have hbs5 : bb.size ≤ 5 := by omega
              have hTb : T < 2 ^ bb.size := by rw [← bl_length, hbb]; exact HT.out
              have HTB : Hid (xs = (stackC (vary T (bl bb))).map fun x => x.col) := by show _ = _; rw [hbb]; exact HTQ.out
              have HWB : Hid (∀ x ∈ bl bb, wide (x.toNat : Int) = true) := by rw [hbb]; exact filter_w
              obtain ⟨N, hN⟩ : ∃ N, N = 2 ^ bb.size := ⟨_, rfl⟩
              have hN32 : N ≤ 32 := by rw [hN]; exact Nat.le_trans (Nat.pow_le_pow_right (by omega) hbs5) (by decide)
              rw [← hN] at hTb
              have C6 : ∀ w, Calls Try.prog 21 #[.int .i64 bb.size] w fun e w' => e = .returned (.int .i64 (N : Int)) ∧ w = w' := fun w => by rw [hN]; exact powerP bb.size w (by omega)
              have HC6 := Lib.hid C6
              clear hbb HB hbs hN C6
              go_wp2_with fail
              go_loopw [18] (fun i wr => ∃ t : Nat, t ≤ T ∧ i = .int .i64 t ∧ Below w6.heap.size w6 wr) (fun i _ => 40 - (intOf i).toNat)
              case atStart => exact ⟨0, Nat.zero_le _, rfl, Below.refl _ _⟩
              case round =>
                obtain ⟨t, ht, rfl, hbel3⟩ := hrel
                have hz3 := hbel3.size
                have htN : (t : Int) < (N : Int) := by omega
                go_wp2_with fail
                refine (HC6.out _).mono ?_
                rintro e w7 ⟨rfl, rfl⟩
                go_wp2_with fail
                go_loopw [19, 20, 21] (fun o b i wr => ∃ (k q : Nat) (ob : ByteArray), k ≤ bb.size ∧ q ≤ 32 ∧ ob.size = k ∧ i = .int .i64 k ∧ b = .int .i64 q ∧ o = .string ob ∧ Hid (bl ob ++ vary q ((bl bb).drop k) = vary t (bl bb)) ∧ Below w6.heap.size w6 wr) (fun _ _ i _ => bb.size - (intOf i).toNat)
                case atStart => exact ⟨0, t, ⟨#[]⟩, Nat.zero_le _, by omega, rfl, rfl, rfl, rfl, Lib.hid rfl, hbel3⟩
                case round =>
                  obtain ⟨k, q, ob, hk, hq, hob, rfl, rfl, rfl, HV, hbel4⟩ := hrel
                  have hz4 := hbel4.size
                  by_cases hlt : k < bb.size
                  · have hwk : wide (bb[k].toNat : Int) = true := HWB.out bb[k] (List.mem_of_getElem? (bl_get bb k hlt))
                    have hd := HV.out
                    rw [bl_drop bb k hlt] at hd
                    have hext : bl (bb.extract k (k + 1)) = [bb[k]] := bl_slice1 bb k hlt
                    have hext1 : (bb.extract k (k + 1)).size = 1 := by rw [ByteArray.size_extract]; omega
                    obtain ⟨q2, hq2⟩ : ∃ q2, q2 = q / 2 := ⟨_, rfl⟩
                    have g2 : (q : Int) / 2 = (q2 : Int) := by omega
                    have hq2b : q2 ≤ 32 := by omega
                    by_cases hq1 : q % 2 = 1
                    · have g3 : ((q : Int) % 2 == 1) = true := by rw [beq_iff_eq]; omega
                      have C8 := fun w => implSheetOver (bb.extract k (k + 1)) w (by unfold maxLen; omega)
                      have hok1 : sheetOk [bb[k]] = true := wide_ok (fun x hx => by rw [List.mem_singleton] at hx; rw [hx]; exact hwk) (by simp)
                      rw [hext, hok1, show overL [bb[k]] = [overC bb[k]] from by unfold overL; rw [hok1]; rfl] at C8
                      have HC8 := Lib.hid C8
                      have HV2 : Hid (bl (ob ++ mkS [overC bb[k]]) ++ vary q2 ((bl bb).drop (k + 1)) = vary t (bl bb)) := by
                        show _ = _
                        rw [hq2, ← hd, bl_append, bl_mkS, List.append_assoc]
                        show _ ++ (overC bb[k] :: _) = _ ++ ((if q % 2 = 1 then overC bb[k] else bb[k]) :: _)
                        rw [if_pos hq1]
                        rfl
                      have hsz : (ob ++ mkS [overC bb[k]]).size = k + 1 := by rw [ByteArray.size_append, mkS_size, hob]; rfl
                      have hms : (mkS [overC bb[k]]).size = 1 := rfl
                      clear C8 hd hext hok1 hq1 hwk hq2
                      go_wp2_with fail
                      refine (HC8.out _).mono ?_
                      rintro e w8 ⟨rfl, hb8⟩
                      go_wp2_with fail
                      go_roundw
                      case rel => exact ⟨k + 1, q2, _, by omega, hq2b, hsz, by go_num, rfl, rfl, HV2, hbel4.trans (hb8.mono hz4)⟩
                      case measure => simp [intOf]; omega
                    · have g3 : ((q : Int) % 2 == 1) = false := by rw [beq_eq_false_iff_ne]; omega
                      have HV2 : Hid (bl (ob ++ bb.extract k (k + 1)) ++ vary q2 ((bl bb).drop (k + 1)) = vary t (bl bb)) := by
                        show _ = _
                        rw [hq2, ← hd, bl_append, hext, List.append_assoc]
                        show _ ++ (bb[k] :: _) = _ ++ ((if q % 2 = 1 then overC bb[k] else bb[k]) :: _)
                        rw [if_neg hq1]
                        rfl
                      have hsz : (ob ++ bb.extract k (k + 1)).size = k + 1 := by rw [ByteArray.size_append, hext1, hob]
                      clear hd hext hq1 hwk hq2
                      go_wp2_with fail
                      go_roundw
                      case rel => exact ⟨k + 1, q2, _, by omega, hq2b, hsz, by go_num, rfl, rfl, HV2, hbel4⟩
                      case measure => simp [intOf]; omega
                  · obtain rfl : k = bb.size := by omega
                    have hvo : bl ob = vary t (bl bb) := by
                      have := HV.out
                      rw [List.drop_of_length_le (by rw [bl_length]; exact Nat.le_refl _)] at this
                      rw [← this]
                      show bl ob = bl ob ++ []
                      rw [List.append_nil]
                    have hoko : sheetOk (bl ob) = true := by
                      rw [hvo]
                      exact wide_ok (vary_wide _ _ HWB.out) (by rw [vary_length, bl_length]; exact hbs5)
                    obtain ⟨hm1, hm32⟩ := stackC_bd hoko
                    obtain ⟨cs2, hcs2⟩ : ∃ cs2, cs2 = stackC (bl ob) := ⟨_, rfl⟩
                    have HR8 : Hid (∀ w, Calls Try.prog 12 #[.string ob] w (StackBack w cs2)) := by rw [hcs2]; exact fun w => implSheetStack ob w hoko
                    rw [← hcs2] at hm1 hm32
                    obtain ⟨m2, hm2⟩ : ∃ m2, cs2.length = m2 := ⟨_, rfl⟩
                    rw [hm2] at hm1 hm32
                    have HM2 := Lib.hid hm2
                    have HTT : Hid (t = T → cs2.map (fun x => x.col) = xs) := fun e => by rw [hcs2, hvo, e]; exact HTB.out.symm
                    clear hcs2 hm2 hoko hvo HV
                    go_wp2_with fail
                    refine (HR8.out _).mono ?_
                    rintro e w8 ⟨g8, c8, rfl, hg8, ho8, hb8⟩
                    rw [HM2.out] at ho8 ⊢
                    have hl8 : g8 < w8.heap.size := (ho8.lt _ rfl).2
                    have HR9 := Lib.hid (RowC.of_own ho8)
                    have hb68 := hbel4.trans (hb8.mono hz4)
                    have hz8 := hb68.size
                    obtain ⟨e0, he0⟩ : ∃ e0, ((m2 : Int) == (m : Int)) = e0 := ⟨_, rfl⟩
                    have HE1 : Hid (cs2.map (fun x => x.col) = xs → e0 = true) := fun h => by
                      have := congrArg List.length h
                      rw [List.length_map, HM2.out, HML.out] at this
                      rw [← he0, beq_iff_eq]
                      omega
                    have HE2 : Hid (e0 = true → m2 = m) := fun h => by
                      rw [h, beq_iff_eq] at he0
                      omega
                    clear ho8 hb8 hbel4 hbel3
                    go_wp2_with fail
                    go_loopw [25, 26] (fun o i wr => ∃ (j : Nat) (sm : Bool), j ≤ m ∧ i = .int .i64 j ∧ o = .bool sm ∧ Hid (cs2.map (fun x => x.col) = xs → sm = true) ∧ Hid (sm = true → m2 = m) ∧ Below w8.heap.size w8 wr) (fun _ i _ => m - (intOf i).toNat)
                    case atStart => exact ⟨0, e0, Nat.zero_le _, rfl, by first | rfl | (rw [he0]), HE1, HE2, Below.refl _ _⟩
                    case round =>
                      obtain ⟨j, sm, hj, rfl, rfl, HF1, HF2, hbel5⟩ := hrel
                      have hz5 := hbel5.size
                      clear he0
                      cases sm with
                      | false =>
                        have hne : t < T := by
                          apply Nat.lt_of_le_of_ne ht
                          intro e
                          have := HF1.out (HTT.out e)
                          cases this
                        have hfin := hb68.trans (hbel5.mono hz8)
                        by_cases hjm : j < m
                        · have j0 : (j : Int) < (m : Int) := by omega
                          go_wp2_with fail
                          go_roundw
                          case rel => exact ⟨t + 1, by omega, by go_num, hfin⟩
                          case measure => simp [intOf]; omega
                        · have j0 : ¬ (j : Int) < (m : Int) := by omega
                          go_wp2_with fail
                          go_roundw
                          case rel => exact ⟨t + 1, by omega, by go_num, hfin⟩
                          case measure => simp [intOf]; omega
                      | true =>
                        by_cases hjm : j < m
                        · have hmm := HF2.out rfl
                          obtain ⟨p, hp⟩ : ∃ p, cs2[j]? = some p := ⟨_, List.getElem?_eq_getElem (by rw [HM2.out]; omega)⟩
                          obtain ⟨x, hx⟩ : ∃ x, xs[j]? = some x := ⟨_, List.getElem?_eq_getElem (by rw [HML.out]; exact hjm)⟩
                          obtain ⟨_, b2, _, _⟩ := (HR9.out.keep (hbel5.block g8 hl8)).at hp
                          have b5 := ((hb68.trans (hbel5.mono hz8)).cell (p := ⟨g', j, none⟩) hgr).trans (HRI.out j x hx)
                          have j0 : (j : Int) < (m : Int) := by omega
                          have j1 : (j : Int) < (m2 : Int) := by omega
                          have j2 : (0 : Int) ≤ (j : Int) := by omega
                          obtain ⟨e1, he1⟩ : ∃ e1, (p.col == x) = e1 := ⟨_, rfl⟩
                          have HG1 : Hid (cs2.map (fun x => x.col) = xs → e1 = true) := fun h => by
                            have := congrArg (fun l : List Int => l[j]?) h
                            simp only [List.getElem?_map, hp, hx] at this
                            rw [← he1, beq_iff_eq]
                            exact Option.some.inj this
                          have HG2 : Hid (e1 = true → m2 = m) := fun _ => hmm
                          clear hp hx hmm
                          go_wp2_with fail
                          go_quiet (fail)
                          go_wp2_with fail
                          go_roundw
                          case rel => exact ⟨j + 1, e1, by omega, by go_num, by first | rfl | (rw [he1]), HG1, HG2, below_drewN hbel5 _⟩
                          case measure => simp [intOf]; omega
                        · have j0 : ¬ (j : Int) < (m : Int) := by omega
                          go_wp2_with fail
                          go_ret
                          exact ⟨rfl, hb16.trans ((hb68.trans (hbel5.mono hz8)).mono hz16)⟩
end Go.Proofs.Ytnpmpkolglmhdaa
