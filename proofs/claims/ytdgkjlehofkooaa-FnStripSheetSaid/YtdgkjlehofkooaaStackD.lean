/- The walks of the reference's function that folds a grid: folds of the width. Conditions: each theorem's own premises. -/
import Derived.Test.YtdgkjlehofkooaaStackB
namespace Go.Proofs.Ytdgkjlehofkooaa
set_option maxRecDepth 100000
open Go.RowKit
set_option maxRecDepth 100000 in
set_option maxHeartbeats 4000000 in
theorem l4Fold_wide_first1 (v : Value) (half R : Nat) (c : UInt8) (f : Nat → Nat → List Cel) (w : World) (hg : GridV w anyB v R (2 * half) f) (h1 : 1 ≤ half) (h2 : half ≤ 16) (hR1 : 1 ≤ R) (hR2 : R ≤ 32) (hl : ∀ r k, 1 ≤ (f r k).length ∧ (f r k).length ≤ 32) (hh : high (c.toNat : Int) = false) (t1 : ((c.toNat : Int) == 76) = true) :
    Calls Try.prog 65 #[v, .int .u8 (c.toNat : Int)] w (GridBack w R half (foldW true (under c) half f)) := by
  obtain ⟨i0, hi0, hz0, hz1, hz2⟩ := info_parts infoStack
  have HI := Lib.hid hi0; have HZ0 := Lib.hid hz0; have HZ1 := Lib.hid hz1; have HZ2 := Lib.hid hz2
  clear hi0 hz0 hz1 hz2
  obtain ⟨i0', hi0, hz0, hz1, hz2⟩ := info_parts infoLine
  have HI' := Lib.hid hi0; have HZ0' := Lib.hid hz0; have HZ1' := Lib.hid hz1; have HZ2' := Lib.hid hz2
  clear hi0 hz0 hz1 hz2
  obtain ⟨g, cap, rfl, _, hgl, hrows⟩ := id hg
  have HG := Lib.hid hg
  have HL := Lib.hid hl
  have HR := Lib.hid hrows
  obtain ⟨u0, hu0, g0, cap0, rfl, _, _, hu00⟩ := hrows 0 (by omega)
  have HH := Lib.hid hh
  clear hg hl hrows hu00 hh
  obtain ⟨C, hD⟩ : ∃ C, C = 2 * half := ⟨_, rfl⟩
  rw [← hD] at HR
  rw [← hD] at hu0
  try rw [← hD]
  have HDD := Lib.hid hD
  have HE0 : Hid ((C : Int) / 2 = (half : Int)) := by show _ = _; omega
  clear hD
  have hD32 : C ≤ 32 := by have := HDD.out; omega
  have hpos : (0 : Int) < (R : Int) := by omega
  go_enter Try.func65, Try.ntmps65
  go_wp2_with fail
  refine (l4High _ _).mono ?_
  rintro e w1 ⟨rfl, rfl⟩
  rw [HH.out]
  go_wp2_with fail
  go_loopw [7, 11] (fun o i wr => ∃ k g' cap' : Nat, ∃ vs : List Value, k ≤ R ∧ vs.length = k ∧ i = .int .i64 k ∧ o = .slice (some ⟨g', 0, none⟩) k cap' ∧
      wr.ownsRow w.heap.size 87 1 (.slice (some ⟨g', 0, none⟩) k cap') k vs ∧ Hid (Ls wr (fun k => k ≠ g') vs half (foldW true (under c) half f)) ∧ w.heap.size ≤ g' ∧ Below w.heap.size w wr) (fun _ i _ => R - (intOf i).toNat)
  case atStart => exact ⟨0, w.heap.size, 0, [], Nat.zero_le _, rfl, rfl, rfl, by
    have := World.ownsRow_lit (base := w.heap.size) (e := 87) (size := 1) w #[] 0 (Nat.le_refl _) (by unfold maxLen; omega) rfl
    simpa using this, Lib.hid (fun i u hu => by simp at hu), Nat.le_refl _, (by repeat (first | exact Below.refl _ _ | assumption | (refine Below.setCell ?_ (by first | omega | (simp; done) | (simp; omega)) _) | (refine Below.alloc ?_ (by first | omega | (simp; done) | (simp; omega)) _) | (refine below_drewN ?_ _) | (refine Below.drew ?_)))⟩
  case round =>
    obtain ⟨k, g', cap', vs, hk, hvs, rfl, rfl, hown, HLS, hg', hbel⟩ := hrel
    have hzr := hbel.size
    obtain ⟨wo, rfl⟩ : ∃ wo : World, wo = wr := ⟨_, rfl⟩
    have HVL := Lib.hid hvs
    clear hvs
    by_cases hlt : k < R
    · have e1 : (k : Int) < (R : Int) := by omega
      go_wp2_with fail
      go_loopw [12, 13] (fun o i wr => ∃ m g2 cap2 : Nat, ∃ us : List Value, m ≤ half ∧ us.length = m ∧ i = .int .i64 m ∧ o = .slice (some ⟨g2, 0, none⟩) m cap2 ∧
          wr.ownsRow wo.heap.size 31 1 (.slice (some ⟨g2, 0, none⟩) m cap2) m us ∧ Hid (Vs wr (inB wo.heap.size g2) us (foldW true (under c) half f k)) ∧ wo.heap.size ≤ g2 ∧ Below wo.heap.size wo wr) (fun _ i _ => half - (intOf i).toNat)
      case atStart => exact ⟨0, wo.heap.size, 0, [], Nat.zero_le _, rfl, rfl, rfl, by
        have := World.ownsRow_lit (base := wo.heap.size) (e := 31) (size := 1) wo #[] 0 (Nat.le_refl _) (by unfold maxLen; omega) rfl
        simpa using this, Lib.hid (fun i u hu => by simp at hu), Nat.le_refl _, (by repeat (first | exact Below.refl _ _ | assumption | (refine Below.setCell ?_ (by first | omega | (simp; done) | (simp; omega)) _) | (refine Below.alloc ?_ (by first | omega | (simp; done) | (simp; omega)) _) | (refine below_drewN ?_ _) | (refine Below.drew ?_)))⟩
      case round =>
        obtain ⟨m, g2, cap2, us, hm, hus, rfl, rfl, hown2, HVS, hg2, hbel2⟩ := hrel
        have hzr2 := hbel2.size
        have HUL := Lib.hid hus
        clear hus
        have hbel3 := hbel.trans (hbel2.mono hzr)
        by_cases hlm : m < half
        · obtain ⟨sr, hsr⟩ : ∃ sr, sr = half + m := ⟨_, rfl⟩
          obtain ⟨mr, hmr⟩ : ∃ mr, mr = half - 1 - m := ⟨_, rfl⟩
          obtain ⟨u1, hu1, gs, cs, rfl, _, _, hus⟩ := HR.out k hlt
          obtain ⟨u2, hu2, ks, cks, rfl, hrs, _⟩ := hus sr (by have := HDD.out; omega)
          obtain ⟨u4, hu4, km, ckm, rfl, hrm, _⟩ := hus mr (by have := HDD.out; omega)
          have d1 := (hbel3.cell (p := ⟨g, k, none⟩) (World.block_lt_of_cell? w _ hu1)).trans hu1
          have d2 := (hbel3.cell (p := ⟨gs, sr, none⟩) (World.block_lt_of_cell? w _ hu2)).trans hu2
          have d3 := (hbel3.cell (p := ⟨gs, mr, none⟩) (World.block_lt_of_cell? w _ hu4)).trans hu4
          have hrs3 := hrs.below hbel3 hrs.1
          have hrm3 := hrm.below hbel3 hrm.1
          have HS3 : Hid (RowC wr.drew ks (f k sr)) := hrs3.keep rfl
          have HM3 : Hid (RowC wr.drew km (f k mr)) := hrm3.keep rfl
          have HSK : Hid (∀ w', Below wo.heap.size wr w' → w'.cell? ⟨g, k, none⟩ = some (.slice (some ⟨gs, 0, none⟩) C cs) ∧ w'.cell? ⟨gs, sr, none⟩ = some (.slice (some ⟨ks, 0, none⟩) (f k sr).length cks) ∧ w'.cell? ⟨gs, mr, none⟩ = some (.slice (some ⟨km, 0, none⟩) (f k mr).length ckm)) := fun w' hb =>
            ⟨((hb.mono hzr).cell (p := ⟨g, k, none⟩) (World.block_lt_of_cell? w _ hu1)).trans d1, ((hb.mono hzr).cell (p := ⟨gs, sr, none⟩) (World.block_lt_of_cell? w _ hu2)).trans d2, ((hb.mono hzr).cell (p := ⟨gs, mr, none⟩) (World.block_lt_of_cell? w _ hu4)).trans d3⟩
          have hg2l := (hown2.lt g2 rfl).2
          have n0 : (0 : Int) ≤ (m : Int) := by omega
          have n1 : (m : Int) < (half : Int) := by omega
          have n2 : (0 : Int) ≤ (sr : Int) := by omega
          have n3 : (sr : Int) < (C : Int) := by have := HDD.out; omega
          have n4 : (0 : Int) ≤ (mr : Int) := by omega
          have n5 : (mr : Int) < (C : Int) := by have := HDD.out; omega
          have n6 : (0 : Int) ≤ (k : Int) := by omega
          have n7 : (k : Int) < (R : Int) := by omega
          obtain ⟨ls, hls⟩ : ∃ ls, ls = (f k sr).length := ⟨_, rfl⟩
          obtain ⟨lm, hlm'⟩ : ∃ lm, lm = (f k mr).length := ⟨_, rfl⟩
          have hls1 : 1 ≤ ls ∧ ls ≤ 32 := by rw [hls]; exact HL.out _ _
          have hlm1 : 1 ≤ lm ∧ lm ≤ 32 := by rw [hlm']; exact HL.out _ _
          rw [← hls] at d2
          rw [← hlm'] at d3
          rw [← hls, ← hlm'] at HSK
          have HLS' := Lib.hid hls
          have HLM' := Lib.hid hlm'
          have p1 : (C : Int).tdiv 2 = (half : Int) := by rw [Int.tdiv_eq_ediv_of_nonneg (by omega), HE0.out]
          have p0 : IntKind.i64.wrap ((C : Int).tdiv 2) = (half : Int) := by rw [p1, IntKind.wrap_i64]; omega
          have p2 : IntKind.i64.wrap (half : Int) = (half : Int) := by rw [IntKind.wrap_i64]; omega
          have q1 : IntKind.i64.wrap ((half : Int) + (m : Int)) = (sr : Int) := by rw [IntKind.wrap_i64]; omega
          have q2 : IntKind.i64.wrap ((half : Int) - 1) = (half : Int) - 1 := by rw [IntKind.wrap_i64]; omega
          have q3 : IntKind.i64.wrap ((half : Int) - 1 - (m : Int)) = (mr : Int) := by rw [IntKind.wrap_i64]; omega
          have HFK : Hid (putC (under c) (high (c.toNat : Int)) (f k sr) (f k mr) = foldW true (under c) half f k m) := by
            show _ = _
            rw [HH.out, hsr, hmr]
            rfl
          have p3 : (C : Int) / 2 = (half : Int) := HE0.out
          clear hus hrs hrm hu1 hu2 hu4 hrs3 hrm3 hsr hmr hls hlm'
          go_wp2_with fail
          go_region_held3 (fun w' => w'.cell? ⟨g, k, none⟩ = some (.slice (some ⟨gs, 0, none⟩) C cs) ∧ w'.cell? ⟨gs, sr, none⟩ = some (.slice (some ⟨ks, 0, none⟩) ls cks) ∧ w'.cell? ⟨gs, mr, none⟩ = some (.slice (some ⟨km, 0, none⟩) lm ckm))
            (exact HSK.out _ (by repeat (first | exact Below.refl _ _ | assumption | (refine Below.alloc ?_ (by first | omega | (simp; omega)) _) | (refine Below.drew ?_))))
            (first
              | (go_at_call 78; refine (l4Put ks ls cks km lm ckm (f k sr) (f k mr) c _ HLS'.out.symm HLM'.out.symm hls1.1 hlm1.1 (by omega) (by omega) HS3.out HM3.out).mono ?_; rintro e w5 ⟨g5, cap5, rfl, hg5, ho5, hb5⟩; obtain ⟨hb5', hown5, hst5, hz5, hg5', hb5''⟩ := line_put hb5 ho5 rfl hzr2 hg5 hown2)
              | (refine step_append_lies _ (by rfl) _ _ _ (by rfl) wo.heap.size 31 i0 _ 1 24 Try.underlying87 HI.out HZ0.out HZ1.out HZ2.out rfl (by omega) _ m us (by rfl) (hown5.alloc _) ⟨w5.heap.size, 0, none⟩ 1 1 [.slice (some ⟨g5, 0, none⟩) (putC (under c) (high (c.toNat : Int)) (f k sr) (f k mr)).length cap5] (by rfl) (by rfl) (cells_new1 _ _ _) (by simp [Value.oneCell']) (by omega) (by unfold maxLen; omega) (by omega) (by simp; omega) (w5.heap.size + 1) (by simp) ?_; intro g6 cap6 w6 hown6 hgr6 hat6 hlt6; obtain ⟨hv6, hb6, hg6⟩ := line_snoc (cap5 := cap5) HVS.out HUL.out HFK.out hb5' hg5' hst5 hgr6 rfl hat6 hzr2 hg2 hg2l))
          clear p0 p1 p2 p3 q1 q2 q3
          go_wp2_with fail
          go_roundw
          case rel => exact ⟨m + 1, g6, cap6, _, by omega, by rw [List.length_append, HUL.out]; rfl, by go_num, by go_num, hown6, hv6, hg6, hbel2.trans hb6⟩
          case measure => simp [intOf]; omega
        · obtain rfl : m = half := by omega
          have hgl' := (hown.lt g' rfl).2
          have hown3 := ownsRow_of_block hown (hbel2.block g' hgl')
          have e2 : ¬ (m : Int) < (m : Int) := by omega
          have p3 : (C : Int) / 2 = (m : Int) := HE0.out
          go_wp2_with (at_builtin; refine wpList_append_lies _ rfl _ _ 86 rfl w.heap.size 87 i0' (.slice none 0 0) 1 24 Try.underlying86 HI'.out HZ0'.out HZ1'.out HZ2'.out rfl (by decide) _ k _ rfl (hown3.alloc _) ⟨wr.heap.size, 0, none⟩ 1 1 [.slice (some ⟨g2, 0, none⟩) m cap2] rfl rfl (cells_new1 _ _ _) (by simp [Value.oneCell']) (by omega) (by unfold maxLen; omega) (by omega) (by simp; omega) (wr.heap.size + 1) (by simp) ?_; intro g6 cap6 w6 hown6 hgr6 hat6 hlt6; obtain ⟨hl6, hb6, hg6⟩ := grid_snoc HLS.out HVL.out hbel2 hown2 HVS.out HUL.out hgr6 rfl hat6 hzr hg' hgl' hg2)
          clear p3
          go_roundw
          case rel => exact ⟨k + 1, g6, cap6, _, by omega, by rw [List.length_append, HVL.out]; rfl, by go_num, by go_num, hown6, hl6, hg6, hbel.trans hb6⟩
          case measure => simp [intOf]; omega
    · obtain rfl : k = R := by omega
      have e1 : ¬ (k : Int) < (k : Int) := by omega
      go_wp2_with fail
      go_ret
      refine ⟨_, rfl, ⟨g', cap', rfl, trivial, (hown.lt g' rfl).2, fun r hr => ?_⟩, hbel⟩
      have hx : vs[r]? = some (vs[r]'(by have := HVL.out; omega)) := List.getElem?_eq_getElem _
      exact ⟨_, own_at hown hx, (HLS.out r _ hx).keep fun _ _ _ => ⟨rfl, trivial⟩⟩
set_option maxRecDepth 100000 in
set_option maxHeartbeats 4000000 in
theorem l4Fold_wide_first2 (v : Value) (half R : Nat) (c : UInt8) (f : Nat → Nat → List Cel) (w : World) (hg : GridV w anyB v R (2 * half) f) (h1 : 1 ≤ half) (h2 : half ≤ 16) (hR1 : 1 ≤ R) (hR2 : R ≤ 32) (hl : ∀ r k, 1 ≤ (f r k).length ∧ (f r k).length ≤ 32) (hh : high (c.toNat : Int) = false) (t1 : ((c.toNat : Int) == 76) = false) (t2 : ((c.toNat : Int) == 108) = true) :
    Calls Try.prog 65 #[v, .int .u8 (c.toNat : Int)] w (GridBack w R half (foldW true (under c) half f)) := by
  obtain ⟨i0, hi0, hz0, hz1, hz2⟩ := info_parts infoStack
  have HI := Lib.hid hi0; have HZ0 := Lib.hid hz0; have HZ1 := Lib.hid hz1; have HZ2 := Lib.hid hz2
  clear hi0 hz0 hz1 hz2
  obtain ⟨i0', hi0, hz0, hz1, hz2⟩ := info_parts infoLine
  have HI' := Lib.hid hi0; have HZ0' := Lib.hid hz0; have HZ1' := Lib.hid hz1; have HZ2' := Lib.hid hz2
  clear hi0 hz0 hz1 hz2
  obtain ⟨g, cap, rfl, _, hgl, hrows⟩ := id hg
  have HG := Lib.hid hg
  have HL := Lib.hid hl
  have HR := Lib.hid hrows
  obtain ⟨u0, hu0, g0, cap0, rfl, _, _, hu00⟩ := hrows 0 (by omega)
  have HH := Lib.hid hh
  clear hg hl hrows hu00 hh
  obtain ⟨C, hD⟩ : ∃ C, C = 2 * half := ⟨_, rfl⟩
  rw [← hD] at HR
  rw [← hD] at hu0
  try rw [← hD]
  have HDD := Lib.hid hD
  have HE0 : Hid ((C : Int) / 2 = (half : Int)) := by show _ = _; omega
  clear hD
  have hD32 : C ≤ 32 := by have := HDD.out; omega
  have hpos : (0 : Int) < (R : Int) := by omega
  go_enter Try.func65, Try.ntmps65
  go_wp2_with fail
  refine (l4High _ _).mono ?_
  rintro e w1 ⟨rfl, rfl⟩
  rw [HH.out]
  go_wp2_with fail
  go_loopw [7, 11] (fun o i wr => ∃ k g' cap' : Nat, ∃ vs : List Value, k ≤ R ∧ vs.length = k ∧ i = .int .i64 k ∧ o = .slice (some ⟨g', 0, none⟩) k cap' ∧
      wr.ownsRow w.heap.size 87 1 (.slice (some ⟨g', 0, none⟩) k cap') k vs ∧ Hid (Ls wr (fun k => k ≠ g') vs half (foldW true (under c) half f)) ∧ w.heap.size ≤ g' ∧ Below w.heap.size w wr) (fun _ i _ => R - (intOf i).toNat)
  case atStart => exact ⟨0, w.heap.size, 0, [], Nat.zero_le _, rfl, rfl, rfl, by
    have := World.ownsRow_lit (base := w.heap.size) (e := 87) (size := 1) w #[] 0 (Nat.le_refl _) (by unfold maxLen; omega) rfl
    simpa using this, Lib.hid (fun i u hu => by simp at hu), Nat.le_refl _, (by repeat (first | exact Below.refl _ _ | assumption | (refine Below.setCell ?_ (by first | omega | (simp; done) | (simp; omega)) _) | (refine Below.alloc ?_ (by first | omega | (simp; done) | (simp; omega)) _) | (refine below_drewN ?_ _) | (refine Below.drew ?_)))⟩
  case round =>
    obtain ⟨k, g', cap', vs, hk, hvs, rfl, rfl, hown, HLS, hg', hbel⟩ := hrel
    have hzr := hbel.size
    obtain ⟨wo, rfl⟩ : ∃ wo : World, wo = wr := ⟨_, rfl⟩
    have HVL := Lib.hid hvs
    clear hvs
    by_cases hlt : k < R
    · have e1 : (k : Int) < (R : Int) := by omega
      go_wp2_with fail
      go_loopw [12, 13] (fun o i wr => ∃ m g2 cap2 : Nat, ∃ us : List Value, m ≤ half ∧ us.length = m ∧ i = .int .i64 m ∧ o = .slice (some ⟨g2, 0, none⟩) m cap2 ∧
          wr.ownsRow wo.heap.size 31 1 (.slice (some ⟨g2, 0, none⟩) m cap2) m us ∧ Hid (Vs wr (inB wo.heap.size g2) us (foldW true (under c) half f k)) ∧ wo.heap.size ≤ g2 ∧ Below wo.heap.size wo wr) (fun _ i _ => half - (intOf i).toNat)
      case atStart => exact ⟨0, wo.heap.size, 0, [], Nat.zero_le _, rfl, rfl, rfl, by
        have := World.ownsRow_lit (base := wo.heap.size) (e := 31) (size := 1) wo #[] 0 (Nat.le_refl _) (by unfold maxLen; omega) rfl
        simpa using this, Lib.hid (fun i u hu => by simp at hu), Nat.le_refl _, (by repeat (first | exact Below.refl _ _ | assumption | (refine Below.setCell ?_ (by first | omega | (simp; done) | (simp; omega)) _) | (refine Below.alloc ?_ (by first | omega | (simp; done) | (simp; omega)) _) | (refine below_drewN ?_ _) | (refine Below.drew ?_)))⟩
      case round =>
        obtain ⟨m, g2, cap2, us, hm, hus, rfl, rfl, hown2, HVS, hg2, hbel2⟩ := hrel
        have hzr2 := hbel2.size
        have HUL := Lib.hid hus
        clear hus
        have hbel3 := hbel.trans (hbel2.mono hzr)
        by_cases hlm : m < half
        · obtain ⟨sr, hsr⟩ : ∃ sr, sr = half + m := ⟨_, rfl⟩
          obtain ⟨mr, hmr⟩ : ∃ mr, mr = half - 1 - m := ⟨_, rfl⟩
          obtain ⟨u1, hu1, gs, cs, rfl, _, _, hus⟩ := HR.out k hlt
          obtain ⟨u2, hu2, ks, cks, rfl, hrs, _⟩ := hus sr (by have := HDD.out; omega)
          obtain ⟨u4, hu4, km, ckm, rfl, hrm, _⟩ := hus mr (by have := HDD.out; omega)
          have d1 := (hbel3.cell (p := ⟨g, k, none⟩) (World.block_lt_of_cell? w _ hu1)).trans hu1
          have d2 := (hbel3.cell (p := ⟨gs, sr, none⟩) (World.block_lt_of_cell? w _ hu2)).trans hu2
          have d3 := (hbel3.cell (p := ⟨gs, mr, none⟩) (World.block_lt_of_cell? w _ hu4)).trans hu4
          have hrs3 := hrs.below hbel3 hrs.1
          have hrm3 := hrm.below hbel3 hrm.1
          have HS3 : Hid (RowC wr.drew ks (f k sr)) := hrs3.keep rfl
          have HM3 : Hid (RowC wr.drew km (f k mr)) := hrm3.keep rfl
          have HSK : Hid (∀ w', Below wo.heap.size wr w' → w'.cell? ⟨g, k, none⟩ = some (.slice (some ⟨gs, 0, none⟩) C cs) ∧ w'.cell? ⟨gs, sr, none⟩ = some (.slice (some ⟨ks, 0, none⟩) (f k sr).length cks) ∧ w'.cell? ⟨gs, mr, none⟩ = some (.slice (some ⟨km, 0, none⟩) (f k mr).length ckm)) := fun w' hb =>
            ⟨((hb.mono hzr).cell (p := ⟨g, k, none⟩) (World.block_lt_of_cell? w _ hu1)).trans d1, ((hb.mono hzr).cell (p := ⟨gs, sr, none⟩) (World.block_lt_of_cell? w _ hu2)).trans d2, ((hb.mono hzr).cell (p := ⟨gs, mr, none⟩) (World.block_lt_of_cell? w _ hu4)).trans d3⟩
          have hg2l := (hown2.lt g2 rfl).2
          have n0 : (0 : Int) ≤ (m : Int) := by omega
          have n1 : (m : Int) < (half : Int) := by omega
          have n2 : (0 : Int) ≤ (sr : Int) := by omega
          have n3 : (sr : Int) < (C : Int) := by have := HDD.out; omega
          have n4 : (0 : Int) ≤ (mr : Int) := by omega
          have n5 : (mr : Int) < (C : Int) := by have := HDD.out; omega
          have n6 : (0 : Int) ≤ (k : Int) := by omega
          have n7 : (k : Int) < (R : Int) := by omega
          obtain ⟨ls, hls⟩ : ∃ ls, ls = (f k sr).length := ⟨_, rfl⟩
          obtain ⟨lm, hlm'⟩ : ∃ lm, lm = (f k mr).length := ⟨_, rfl⟩
          have hls1 : 1 ≤ ls ∧ ls ≤ 32 := by rw [hls]; exact HL.out _ _
          have hlm1 : 1 ≤ lm ∧ lm ≤ 32 := by rw [hlm']; exact HL.out _ _
          rw [← hls] at d2
          rw [← hlm'] at d3
          rw [← hls, ← hlm'] at HSK
          have HLS' := Lib.hid hls
          have HLM' := Lib.hid hlm'
          have p1 : (C : Int).tdiv 2 = (half : Int) := by rw [Int.tdiv_eq_ediv_of_nonneg (by omega), HE0.out]
          have p0 : IntKind.i64.wrap ((C : Int).tdiv 2) = (half : Int) := by rw [p1, IntKind.wrap_i64]; omega
          have p2 : IntKind.i64.wrap (half : Int) = (half : Int) := by rw [IntKind.wrap_i64]; omega
          have q1 : IntKind.i64.wrap ((half : Int) + (m : Int)) = (sr : Int) := by rw [IntKind.wrap_i64]; omega
          have q2 : IntKind.i64.wrap ((half : Int) - 1) = (half : Int) - 1 := by rw [IntKind.wrap_i64]; omega
          have q3 : IntKind.i64.wrap ((half : Int) - 1 - (m : Int)) = (mr : Int) := by rw [IntKind.wrap_i64]; omega
          have HFK : Hid (putC (under c) (high (c.toNat : Int)) (f k sr) (f k mr) = foldW true (under c) half f k m) := by
            show _ = _
            rw [HH.out, hsr, hmr]
            rfl
          have p3 : (C : Int) / 2 = (half : Int) := HE0.out
          clear hus hrs hrm hu1 hu2 hu4 hrs3 hrm3 hsr hmr hls hlm'
          go_wp2_with fail
          go_region_held3 (fun w' => w'.cell? ⟨g, k, none⟩ = some (.slice (some ⟨gs, 0, none⟩) C cs) ∧ w'.cell? ⟨gs, sr, none⟩ = some (.slice (some ⟨ks, 0, none⟩) ls cks) ∧ w'.cell? ⟨gs, mr, none⟩ = some (.slice (some ⟨km, 0, none⟩) lm ckm))
            (exact HSK.out _ (by repeat (first | exact Below.refl _ _ | assumption | (refine Below.alloc ?_ (by first | omega | (simp; omega)) _) | (refine Below.drew ?_))))
            (first
              | (go_at_call 78; refine (l4Put ks ls cks km lm ckm (f k sr) (f k mr) c _ HLS'.out.symm HLM'.out.symm hls1.1 hlm1.1 (by omega) (by omega) HS3.out HM3.out).mono ?_; rintro e w5 ⟨g5, cap5, rfl, hg5, ho5, hb5⟩; obtain ⟨hb5', hown5, hst5, hz5, hg5', hb5''⟩ := line_put hb5 ho5 rfl hzr2 hg5 hown2)
              | (refine step_append_lies _ (by rfl) _ _ _ (by rfl) wo.heap.size 31 i0 _ 1 24 Try.underlying87 HI.out HZ0.out HZ1.out HZ2.out rfl (by omega) _ m us (by rfl) (hown5.alloc _) ⟨w5.heap.size, 0, none⟩ 1 1 [.slice (some ⟨g5, 0, none⟩) (putC (under c) (high (c.toNat : Int)) (f k sr) (f k mr)).length cap5] (by rfl) (by rfl) (cells_new1 _ _ _) (by simp [Value.oneCell']) (by omega) (by unfold maxLen; omega) (by omega) (by simp; omega) (w5.heap.size + 1) (by simp) ?_; intro g6 cap6 w6 hown6 hgr6 hat6 hlt6; obtain ⟨hv6, hb6, hg6⟩ := line_snoc (cap5 := cap5) HVS.out HUL.out HFK.out hb5' hg5' hst5 hgr6 rfl hat6 hzr2 hg2 hg2l))
          clear p0 p1 p2 p3 q1 q2 q3
          go_wp2_with fail
          go_roundw
          case rel => exact ⟨m + 1, g6, cap6, _, by omega, by rw [List.length_append, HUL.out]; rfl, by go_num, by go_num, hown6, hv6, hg6, hbel2.trans hb6⟩
          case measure => simp [intOf]; omega
        · obtain rfl : m = half := by omega
          have hgl' := (hown.lt g' rfl).2
          have hown3 := ownsRow_of_block hown (hbel2.block g' hgl')
          have e2 : ¬ (m : Int) < (m : Int) := by omega
          have p3 : (C : Int) / 2 = (m : Int) := HE0.out
          go_wp2_with (at_builtin; refine wpList_append_lies _ rfl _ _ 86 rfl w.heap.size 87 i0' (.slice none 0 0) 1 24 Try.underlying86 HI'.out HZ0'.out HZ1'.out HZ2'.out rfl (by decide) _ k _ rfl (hown3.alloc _) ⟨wr.heap.size, 0, none⟩ 1 1 [.slice (some ⟨g2, 0, none⟩) m cap2] rfl rfl (cells_new1 _ _ _) (by simp [Value.oneCell']) (by omega) (by unfold maxLen; omega) (by omega) (by simp; omega) (wr.heap.size + 1) (by simp) ?_; intro g6 cap6 w6 hown6 hgr6 hat6 hlt6; obtain ⟨hl6, hb6, hg6⟩ := grid_snoc HLS.out HVL.out hbel2 hown2 HVS.out HUL.out hgr6 rfl hat6 hzr hg' hgl' hg2)
          clear p3
          go_roundw
          case rel => exact ⟨k + 1, g6, cap6, _, by omega, by rw [List.length_append, HVL.out]; rfl, by go_num, by go_num, hown6, hl6, hg6, hbel.trans hb6⟩
          case measure => simp [intOf]; omega
    · obtain rfl : k = R := by omega
      have e1 : ¬ (k : Int) < (k : Int) := by omega
      go_wp2_with fail
      go_ret
      refine ⟨_, rfl, ⟨g', cap', rfl, trivial, (hown.lt g' rfl).2, fun r hr => ?_⟩, hbel⟩
      have hx : vs[r]? = some (vs[r]'(by have := HVL.out; omega)) := List.getElem?_eq_getElem _
      exact ⟨_, own_at hown hx, (HLS.out r _ hx).keep fun _ _ _ => ⟨rfl, trivial⟩⟩
set_option maxRecDepth 100000 in
set_option maxHeartbeats 4000000 in
theorem l4Fold_wide_last (v : Value) (half R : Nat) (c : UInt8) (f : Nat → Nat → List Cel) (w : World) (hg : GridV w anyB v R (2 * half) f) (h1 : 1 ≤ half) (h2 : half ≤ 16) (hR1 : 1 ≤ R) (hR2 : R ≤ 32) (hl : ∀ r k, 1 ≤ (f r k).length ∧ (f r k).length ≤ 32) (hh : high (c.toNat : Int) = false) (t1 : ((c.toNat : Int) == 76) = false) (t2 : ((c.toNat : Int) == 108) = false) :
    Calls Try.prog 65 #[v, .int .u8 (c.toNat : Int)] w (GridBack w R half (foldW false (under c) half f)) := by
  obtain ⟨i0, hi0, hz0, hz1, hz2⟩ := info_parts infoStack
  have HI := Lib.hid hi0; have HZ0 := Lib.hid hz0; have HZ1 := Lib.hid hz1; have HZ2 := Lib.hid hz2
  clear hi0 hz0 hz1 hz2
  obtain ⟨i0', hi0, hz0, hz1, hz2⟩ := info_parts infoLine
  have HI' := Lib.hid hi0; have HZ0' := Lib.hid hz0; have HZ1' := Lib.hid hz1; have HZ2' := Lib.hid hz2
  clear hi0 hz0 hz1 hz2
  obtain ⟨g, cap, rfl, _, hgl, hrows⟩ := id hg
  have HG := Lib.hid hg
  have HL := Lib.hid hl
  have HR := Lib.hid hrows
  obtain ⟨u0, hu0, g0, cap0, rfl, _, _, hu00⟩ := hrows 0 (by omega)
  have HH := Lib.hid hh
  clear hg hl hrows hu00 hh
  obtain ⟨C, hD⟩ : ∃ C, C = 2 * half := ⟨_, rfl⟩
  rw [← hD] at HR
  rw [← hD] at hu0
  try rw [← hD]
  have HDD := Lib.hid hD
  have HE0 : Hid ((C : Int) / 2 = (half : Int)) := by show _ = _; omega
  clear hD
  have hD32 : C ≤ 32 := by have := HDD.out; omega
  have hpos : (0 : Int) < (R : Int) := by omega
  go_enter Try.func65, Try.ntmps65
  go_wp2_with fail
  refine (l4High _ _).mono ?_
  rintro e w1 ⟨rfl, rfl⟩
  rw [HH.out]
  go_wp2_with fail
  go_loopw [7, 11] (fun o i wr => ∃ k g' cap' : Nat, ∃ vs : List Value, k ≤ R ∧ vs.length = k ∧ i = .int .i64 k ∧ o = .slice (some ⟨g', 0, none⟩) k cap' ∧
      wr.ownsRow w.heap.size 87 1 (.slice (some ⟨g', 0, none⟩) k cap') k vs ∧ Hid (Ls wr (fun k => k ≠ g') vs half (foldW false (under c) half f)) ∧ w.heap.size ≤ g' ∧ Below w.heap.size w wr) (fun _ i _ => R - (intOf i).toNat)
  case atStart => exact ⟨0, w.heap.size, 0, [], Nat.zero_le _, rfl, rfl, rfl, by
    have := World.ownsRow_lit (base := w.heap.size) (e := 87) (size := 1) w #[] 0 (Nat.le_refl _) (by unfold maxLen; omega) rfl
    simpa using this, Lib.hid (fun i u hu => by simp at hu), Nat.le_refl _, (by repeat (first | exact Below.refl _ _ | assumption | (refine Below.setCell ?_ (by first | omega | (simp; done) | (simp; omega)) _) | (refine Below.alloc ?_ (by first | omega | (simp; done) | (simp; omega)) _) | (refine below_drewN ?_ _) | (refine Below.drew ?_)))⟩
  case round =>
    obtain ⟨k, g', cap', vs, hk, hvs, rfl, rfl, hown, HLS, hg', hbel⟩ := hrel
    have hzr := hbel.size
    obtain ⟨wo, rfl⟩ : ∃ wo : World, wo = wr := ⟨_, rfl⟩
    have HVL := Lib.hid hvs
    clear hvs
    by_cases hlt : k < R
    · have e1 : (k : Int) < (R : Int) := by omega
      go_wp2_with fail
      go_loopw [12, 13] (fun o i wr => ∃ m g2 cap2 : Nat, ∃ us : List Value, m ≤ half ∧ us.length = m ∧ i = .int .i64 m ∧ o = .slice (some ⟨g2, 0, none⟩) m cap2 ∧
          wr.ownsRow wo.heap.size 31 1 (.slice (some ⟨g2, 0, none⟩) m cap2) m us ∧ Hid (Vs wr (inB wo.heap.size g2) us (foldW false (under c) half f k)) ∧ wo.heap.size ≤ g2 ∧ Below wo.heap.size wo wr) (fun _ i _ => half - (intOf i).toNat)
      case atStart => exact ⟨0, wo.heap.size, 0, [], Nat.zero_le _, rfl, rfl, rfl, by
        have := World.ownsRow_lit (base := wo.heap.size) (e := 31) (size := 1) wo #[] 0 (Nat.le_refl _) (by unfold maxLen; omega) rfl
        simpa using this, Lib.hid (fun i u hu => by simp at hu), Nat.le_refl _, (by repeat (first | exact Below.refl _ _ | assumption | (refine Below.setCell ?_ (by first | omega | (simp; done) | (simp; omega)) _) | (refine Below.alloc ?_ (by first | omega | (simp; done) | (simp; omega)) _) | (refine below_drewN ?_ _) | (refine Below.drew ?_)))⟩
      case round =>
        obtain ⟨m, g2, cap2, us, hm, hus, rfl, rfl, hown2, HVS, hg2, hbel2⟩ := hrel
        have hzr2 := hbel2.size
        have HUL := Lib.hid hus
        clear hus
        have hbel3 := hbel.trans (hbel2.mono hzr)
        by_cases hlm : m < half
        · obtain ⟨sr, hsr⟩ : ∃ sr, sr = m := ⟨_, rfl⟩
          obtain ⟨mr, hmr⟩ : ∃ mr, mr = C - 1 - m := ⟨_, rfl⟩
          obtain ⟨u1, hu1, gs, cs, rfl, _, _, hus⟩ := HR.out k hlt
          obtain ⟨u2, hu2, ks, cks, rfl, hrs, _⟩ := hus m (by have := HDD.out; omega)
          obtain ⟨u4, hu4, km, ckm, rfl, hrm, _⟩ := hus mr (by have := HDD.out; omega)
          have d1 := (hbel3.cell (p := ⟨g, k, none⟩) (World.block_lt_of_cell? w _ hu1)).trans hu1
          have d2 := (hbel3.cell (p := ⟨gs, m, none⟩) (World.block_lt_of_cell? w _ hu2)).trans hu2
          have d3 := (hbel3.cell (p := ⟨gs, mr, none⟩) (World.block_lt_of_cell? w _ hu4)).trans hu4
          have hrs3 := hrs.below hbel3 hrs.1
          have hrm3 := hrm.below hbel3 hrm.1
          have HS3 : Hid (RowC wr.drew ks (f k m)) := hrs3.keep rfl
          have HM3 : Hid (RowC wr.drew km (f k mr)) := hrm3.keep rfl
          have HSK : Hid (∀ w', Below wo.heap.size wr w' → w'.cell? ⟨g, k, none⟩ = some (.slice (some ⟨gs, 0, none⟩) C cs) ∧ w'.cell? ⟨gs, m, none⟩ = some (.slice (some ⟨ks, 0, none⟩) (f k m).length cks) ∧ w'.cell? ⟨gs, mr, none⟩ = some (.slice (some ⟨km, 0, none⟩) (f k mr).length ckm)) := fun w' hb =>
            ⟨((hb.mono hzr).cell (p := ⟨g, k, none⟩) (World.block_lt_of_cell? w _ hu1)).trans d1, ((hb.mono hzr).cell (p := ⟨gs, m, none⟩) (World.block_lt_of_cell? w _ hu2)).trans d2, ((hb.mono hzr).cell (p := ⟨gs, mr, none⟩) (World.block_lt_of_cell? w _ hu4)).trans d3⟩
          have hg2l := (hown2.lt g2 rfl).2
          have n0 : (0 : Int) ≤ (m : Int) := by omega
          have n1 : (m : Int) < (half : Int) := by omega
          have n2 : (0 : Int) ≤ (sr : Int) := by omega
          have n3 : (sr : Int) < (C : Int) := by have := HDD.out; omega
          have n4 : (0 : Int) ≤ (mr : Int) := by omega
          have n5 : (mr : Int) < (C : Int) := by have := HDD.out; omega
          have n6 : (0 : Int) ≤ (k : Int) := by omega
          have n7 : (k : Int) < (R : Int) := by omega
          have n8 : (m : Int) < (C : Int) := by have := HDD.out; omega
          obtain ⟨ls, hls⟩ : ∃ ls, ls = (f k m).length := ⟨_, rfl⟩
          obtain ⟨lm, hlm'⟩ : ∃ lm, lm = (f k mr).length := ⟨_, rfl⟩
          have hls1 : 1 ≤ ls ∧ ls ≤ 32 := by rw [hls]; exact HL.out _ _
          have hlm1 : 1 ≤ lm ∧ lm ≤ 32 := by rw [hlm']; exact HL.out _ _
          rw [← hls] at d2
          rw [← hlm'] at d3
          rw [← hls, ← hlm'] at HSK
          have HLS' := Lib.hid hls
          have HLM' := Lib.hid hlm'
          have p1 : (C : Int).tdiv 2 = (half : Int) := by rw [Int.tdiv_eq_ediv_of_nonneg (by omega), HE0.out]
          have p0 : IntKind.i64.wrap ((C : Int).tdiv 2) = (half : Int) := by rw [p1, IntKind.wrap_i64]; omega
          have p2 : IntKind.i64.wrap (half : Int) = (half : Int) := by rw [IntKind.wrap_i64]; omega
          have q2 : IntKind.i64.wrap ((C : Int) - 1) = (C : Int) - 1 := by rw [IntKind.wrap_i64]; omega
          have q3 : IntKind.i64.wrap ((C : Int) - 1 - (m : Int)) = (mr : Int) := by rw [IntKind.wrap_i64]; have := HDD.out; omega
          have HFK : Hid (putC (under c) (high (c.toNat : Int)) (f k m) (f k mr) = foldW false (under c) half f k m) := by
            show _ = _
            rw [HH.out, hmr, HDD.out]
            rfl
          have p3 : (C : Int) / 2 = (half : Int) := HE0.out
          clear hus hrs hrm hu1 hu2 hu4 hrs3 hrm3 hsr hmr hls hlm'
          go_wp2_with fail
          go_region_held3 (fun w' => w'.cell? ⟨g, k, none⟩ = some (.slice (some ⟨gs, 0, none⟩) C cs) ∧ w'.cell? ⟨gs, m, none⟩ = some (.slice (some ⟨ks, 0, none⟩) ls cks) ∧ w'.cell? ⟨gs, mr, none⟩ = some (.slice (some ⟨km, 0, none⟩) lm ckm))
            (exact HSK.out _ (by repeat (first | exact Below.refl _ _ | assumption | (refine Below.alloc ?_ (by first | omega | (simp; omega)) _) | (refine Below.drew ?_))))
            (first
              | (go_at_call 78; refine (l4Put ks ls cks km lm ckm (f k m) (f k mr) c _ HLS'.out.symm HLM'.out.symm hls1.1 hlm1.1 (by omega) (by omega) HS3.out HM3.out).mono ?_; rintro e w5 ⟨g5, cap5, rfl, hg5, ho5, hb5⟩; obtain ⟨hb5', hown5, hst5, hz5, hg5', hb5''⟩ := line_put hb5 ho5 rfl hzr2 hg5 hown2)
              | (refine step_append_lies _ (by rfl) _ _ _ (by rfl) wo.heap.size 31 i0 _ 1 24 Try.underlying87 HI.out HZ0.out HZ1.out HZ2.out rfl (by omega) _ m us (by rfl) (hown5.alloc _) ⟨w5.heap.size, 0, none⟩ 1 1 [.slice (some ⟨g5, 0, none⟩) (putC (under c) (high (c.toNat : Int)) (f k m) (f k mr)).length cap5] (by rfl) (by rfl) (cells_new1 _ _ _) (by simp [Value.oneCell']) (by omega) (by unfold maxLen; omega) (by omega) (by simp; omega) (w5.heap.size + 1) (by simp) ?_; intro g6 cap6 w6 hown6 hgr6 hat6 hlt6; obtain ⟨hv6, hb6, hg6⟩ := line_snoc (cap5 := cap5) HVS.out HUL.out HFK.out hb5' hg5' hst5 hgr6 rfl hat6 hzr2 hg2 hg2l))
          clear p0 p1 p2 p3 q2 q3
          go_wp2_with fail
          go_roundw
          case rel => exact ⟨m + 1, g6, cap6, _, by omega, by rw [List.length_append, HUL.out]; rfl, by go_num, by go_num, hown6, hv6, hg6, hbel2.trans hb6⟩
          case measure => simp [intOf]; omega
        · obtain rfl : m = half := by omega
          have hgl' := (hown.lt g' rfl).2
          have hown3 := ownsRow_of_block hown (hbel2.block g' hgl')
          have e2 : ¬ (m : Int) < (m : Int) := by omega
          have p3 : (C : Int) / 2 = (m : Int) := HE0.out
          go_wp2_with (at_builtin; refine wpList_append_lies _ rfl _ _ 86 rfl w.heap.size 87 i0' (.slice none 0 0) 1 24 Try.underlying86 HI'.out HZ0'.out HZ1'.out HZ2'.out rfl (by decide) _ k _ rfl (hown3.alloc _) ⟨wr.heap.size, 0, none⟩ 1 1 [.slice (some ⟨g2, 0, none⟩) m cap2] rfl rfl (cells_new1 _ _ _) (by simp [Value.oneCell']) (by omega) (by unfold maxLen; omega) (by omega) (by simp; omega) (wr.heap.size + 1) (by simp) ?_; intro g6 cap6 w6 hown6 hgr6 hat6 hlt6; obtain ⟨hl6, hb6, hg6⟩ := grid_snoc HLS.out HVL.out hbel2 hown2 HVS.out HUL.out hgr6 rfl hat6 hzr hg' hgl' hg2)
          clear p3
          go_roundw
          case rel => exact ⟨k + 1, g6, cap6, _, by omega, by rw [List.length_append, HVL.out]; rfl, by go_num, by go_num, hown6, hl6, hg6, hbel.trans hb6⟩
          case measure => simp [intOf]; omega
    · obtain rfl : k = R := by omega
      have e1 : ¬ (k : Int) < (k : Int) := by omega
      go_wp2_with fail
      go_ret
      refine ⟨_, rfl, ⟨g', cap', rfl, trivial, (hown.lt g' rfl).2, fun r hr => ?_⟩, hbel⟩
      have hx : vs[r]? = some (vs[r]'(by have := HVL.out; omega)) := List.getElem?_eq_getElem _
      exact ⟨_, own_at hown hx, (HLS.out r _ hx).keep fun _ _ _ => ⟨rfl, trivial⟩⟩
end Go.Proofs.Ytdgkjlehofkooaa
