/- The walk of the function that draws layers (l91Layers): only that some list of few numbers comes back. Conditions: each theorem's own premises. -/
import Derived.Test.YtadpbbjahckoaaaStampJ
import Derived.Test.YtadpbbjahckoaaaDraw
import Derived.Deep.RegionWith
namespace Go.Proofs.Ytadpbbjahckoaaa
set_option maxRecDepth 100000
open Go.RowKit
/-- Some list of few numbers has come back, in a block from g on. -/
def DrawnInts (g : Nat) (w : World) (e : Ending) (w' : World) : Prop :=
  ∃ (G k cap : Nat) (xs : List Int), xs.length = k ∧ k ≤ 7 ∧ e = .returned (.slice (some ⟨G, 0, none⟩) k cap) ∧ g ≤ G ∧ RowI w' G xs ∧ Below g w w'
theorem BufI.of_own {w : World} {base g n cap : Nat} {e : TypeId} {xs : List Int} (h : w.ownsRow base e 1 (.slice (some ⟨g, 0, none⟩) n cap) n (xs.map (Value.int .i64))) : BufI w g xs :=
  ⟨(h.lt g rfl).2, fun j hj => ⟨ownI_at h (by rw [List.getElem?_map, List.getElem?_eq_getElem hj]; rfl), h.frozenAt j⟩⟩
theorem BufI.keep {w w' : World} {g : Nat} {xs : List Int} (h : BufI w g xs) (hb : w'.heap[g]? = w.heap[g]?) : BufI w' g xs :=
  ⟨(h.row.keep hb).1, fun j hj => ⟨(World.cell?_of_block (a := ⟨g, j, none⟩) hb).trans (h.2 j hj).1, (World.frozen?_of_block (a := ⟨g, j, none⟩) hb).trans (h.2 j hj).2⟩⟩
theorem BufI.grown {w w' : World} {g q : Nat} {xs : List Int} (h : BufI w g xs) (hg : w.grownBy w' (some q)) (hq : g ≠ q) : BufI w' g xs :=
  h.keep (hg.block g h.1 (by intro e; exact hq (Option.some.inj e)))
theorem BufI.cellD {w : World} {g k : Nat} {xs : List Int} (h : BufI w g xs) (hk : k < xs.length) : w.cell? ⟨g, k, none⟩ = some (.int .i64 (xs.getD k 0)) ∧ w.frozen? ⟨g, k, none⟩ = false := by
  obtain ⟨h1, h2⟩ := h.2 k hk
  exact ⟨by rw [h1, List.getD_eq_getElem?_getD, List.getElem?_eq_getElem hk]; rfl, h2⟩
/-- The reader, and a list of n numbers of the call's own. -/
structure LayS (w wx : World) (g : Nat) (A : Option Addr) (len cap p G n : Nat) (xs : List Int) : Prop where
  rd : Rd wx g A len cap p
  buf : BufI wx G xs
  len : xs.length = n
  far : g < G
  bel : Below g w wx
theorem LayS.pick {w wx wy : World} {g : Nat} {A : Option Addr} {len cap p q G n : Nat} {xs : List Int} (h : LayS w wx g A len cap p G n xs) (hr : Rd wy g A len cap q) (hg : wx.grownBy wy (some g)) : LayS w wy g A len cap q G n xs :=
  ⟨hr, h.buf.grown hg (by have := h.far; omega), h.len, h.far, below_grown_at h.bel hg (Nat.le_of_lt h.rd.lt) (Nat.le_refl _)⟩
theorem LayS.set {w wx : World} {g : Nat} {A : Option Addr} {len cap p G n : Nat} {xs : List Int} (h : LayS w wx g A len cap p G n xs) (j : Nat) (c : Int) : LayS w (wx.setCell ⟨G, j, none⟩ (.int .i64 c)) g A len cap p G n (xs.set j c) :=
  ⟨h.rd.keep fun k hk => Below.heap_setCell _ _ _ k (by have := h.far; show k ≠ G; omega), h.buf.set j c, by rw [List.length_set]; exact h.len, h.far, h.bel.setCell (p := ⟨G, j, none⟩) (Nat.le_of_lt h.far) _⟩
theorem LayS.alloc {w wx : World} {g : Nat} {A : Option Addr} {len cap p G n : Nat} {xs : List Int} (h : LayS w wx g A len cap p G n xs) (o : Obj) : LayS w (wx.alloc o) g A len cap p G n xs :=
  ⟨h.rd.below ((Below.refl _ _).alloc (Nat.le_refl _) _), h.buf.keep (Below.heap_alloc _ _ _ h.buf.1), h.len, h.far, h.bel.alloc (Nat.le_of_lt h.rd.lt) _⟩
theorem LayS.drew {w wx : World} {g : Nat} {A : Option Addr} {len cap p G n : Nat} {xs : List Int} (h : LayS w wx g A len cap p G n xs) : LayS w wx.drew g A len cap p G n xs :=
  ⟨h.rd.keep fun _ _ => rfl, h.buf.keep rfl, h.len, h.far, h.bel.drew⟩
theorem LayS.drewN {w wx : World} {g : Nat} {A : Option Addr} {len cap p G n : Nat} {xs : List Int} (h : LayS w wx g A len cap p G n xs) (d : Nat) : LayS w (wx.drewN d) g A len cap p G n xs :=
  ⟨h.rd.keep fun _ _ => rfl, h.buf.keep rfl, h.len, h.far, below_drewN h.bel _⟩
theorem LayS.done {w wx : World} {g : Nat} {A : Option Addr} {len cap p G n c : Nat} {xs : List Int} (h : LayS w wx g A len cap p G n xs) (hn : n ≤ 7) : DrawnInts g w (.returned (.slice (some ⟨G, 0, none⟩) n c)) wx :=
  ⟨G, n, c, xs, h.len, hn, rfl, Nat.le_of_lt h.far, h.buf.row, h.bel⟩
theorem three_cell (w : World) (a b c : Int) (T : TypeId) (x : Nat) (hx : x < 3) : (w.alloc (.cells #[.int .i64 a, .int .i64 b, .int .i64 c] T)).cell? ⟨w.heap.size, x, none⟩ = some (.int .i64 (if x = 0 then a else if x = 1 then b else c)) := by
  have hx : x = 0 ∨ x = 1 ∨ x = 2 := by omega
  rcases hx with rfl | rfl | rfl
  · exact World.cell?_alloc_mark w _ T (0, 0) 0
  · exact World.cell?_alloc_mark w _ T (0, 0) 1
  · exact World.cell?_alloc_mark w _ T (0, 0) 2
/-- What a region that reads the last number, lays three numbers and picks one of them wants to know: the number picked ahead. -/
theorem lay_after {w wa w4 : World} {g : Nat} {A : Option Addr} {len cap p q G n x m : Nat} {xs : List Int} {b : Int} {T : TypeId} (h : LayS w wa g A len cap p G n xs) (hr : Rd w4 g A len cap q) (hg : wa.drew.grownBy w4 (some g)) (hx : x < 3) (hm : m < n) (h0 : 0 < n) :
    ∃ v : Int, w4.cell? ⟨G, m, none⟩ = some (.int .i64 (xs.getD m 0)) ∧ (w4.alloc (.cells #[.int .i64 (-1), .int .i64 b, .int .i64 (xs.getD m 0)] T)).cell? ⟨w4.heap.size, x, none⟩ = some (.int .i64 v) ∧
      (∀ o, (w4.alloc o).frozen? ⟨G, 0, none⟩ = false) ∧ (∀ o, (w4.alloc o).cell? ⟨G, 0, none⟩ = some (.int .i64 (xs.getD 0 0))) ∧ Hid (LayS w (w4.alloc (.cells #[.int .i64 (-1), .int .i64 b, .int .i64 (xs.getD m 0)] T)) g A len cap q G n xs) := by
  have h4 := h.drew.pick hr hg
  refine ⟨_, (h4.buf.cellD (by rw [h4.len]; exact hm)).1, three_cell _ _ _ _ _ _ hx, fun o => ((h4.alloc o).buf.cellD (by rw [h4.len]; exact h0)).2, fun o => ((h4.alloc o).buf.cellD (by rw [h4.len]; exact h0)).1, Lib.hid (h4.alloc _)⟩
/-- The same, the three numbers laid ahead. -/
theorem lay_ahead {w wa w4 : World} {g : Nat} {A : Option Addr} {len cap p q G n x m : Nat} {xs : List Int} {b : Int} {T : TypeId} (h : LayS w wa g A len cap p G n xs) (hr : Rd w4 g A len cap q) (hg : (wa.alloc (.cells #[.int .i64 (-1), .int .i64 b, .int .i64 (xs.getD m 0)] T)).drew.grownBy w4 (some g)) (hx : x < 3) (h0 : 0 < n) :
    ∃ v : Int, w4.cell? ⟨wa.heap.size, x, none⟩ = some (.int .i64 v) ∧ w4.frozen? ⟨G, 0, none⟩ = false ∧ w4.cell? ⟨G, 0, none⟩ = some (.int .i64 (xs.getD 0 0)) ∧ Hid (LayS w w4 g A len cap q G n xs) := by
  have h4 := (h.alloc (.cells #[.int .i64 (-1), .int .i64 b, .int .i64 (xs.getD m 0)] T)).drew.pick hr hg
  have hlt := h.rd.lt
  refine ⟨_, (World.cell?_of_block (a := ⟨wa.heap.size, x, none⟩) (hg.block wa.heap.size (by simp) (fun e => by have := Option.some.inj e; omega))).trans (three_cell _ _ _ _ _ _ hx), (h4.buf.cellD (by rw [h4.len]; exact h0)).2, (h4.buf.cellD (by rw [h4.len]; exact h0)).1, Lib.hid h4⟩
set_option maxRecDepth 100000 in
set_option maxHeartbeats 4000000 in
theorem l91Layers (g : Nat) (A : Option Addr) (len cap p gr n : Nat) (w : World) (h : Rd w g A len cap p) (hp : p ≤ 1000) (h1 : 1 ≤ n) (h7 : n ≤ 7) :
    Calls Try.prog 58 #[.pointer (some ⟨g, 0, none⟩), .int .i64 n, .slice (some ⟨gr, 0, none⟩) 0 0] w (DrawnInts g w) := by
  obtain ⟨i0, hi0, hz0, hz1, hz2⟩ := info_parts infoI
  have HI := Lib.hid hi0; have HZ0 := Lib.hid hz0; have HZ1 := Lib.hid hz1; have HZ2 := Lib.hid hz2
  clear hi0 hz0 hz1 hz2
  have HR := Lib.hid h
  have hlt := h.lt
  have tn : ((0 : Int) != (n : Int)) = true := by rw [bne_iff_ne]; omega
  clear h
  go_enter Try.func58, Try.ntmps58
  go_wp2_with (at_builtin; refine wpList_append_own _ rfl _ _ 22 rfl w.heap.size 3 i0 (.int .i64 0) 1 8 Try.underlying22 HI.out HZ0.out HZ1.out HZ2.out rfl (by decide) (.slice (some ⟨w.heap.size, 0, none⟩) 0 0) 0 [] rfl (by have := World.ownsRow_lit (base := w.heap.size) (e := 3) (size := 1) w #[] 0 (Nat.le_refl _) (by unfold maxLen; omega) rfl; simpa using this) ⟨gr, 0, none⟩ 0 0 [] rfl rfl (fun j u hu => by simp at hu) (by simp) (by unfold maxLen; omega) (by omega) (by simp) ?_; intro v1 w1 hown1 hgr1 hn1; rw [Nat.zero_add] at hown1; obtain ⟨g1, c1, hv1, hg1, hl1⟩ := own_form' hown1 (fun h => addr_nonnil (hn1.1 h).1); subst hv1; have hb1 : Below w.heap.size w w1 := ((Below.refl _ w).alloc (Nat.le_refl _) _).grown hgr1 (by simp) (by intro k hk; cases hk; exact Nat.le_refl _); have hz1 := hb1.size; clear hgr1 hn1 hown1)
  go_loopw [7, 8] (fun v i wr => ∃ (k g' cap : Nat) (xs : List Int), k ≤ n ∧ i = .int .i64 k ∧ v = .slice (some ⟨g', 0, none⟩) k cap ∧ xs.length = k ∧ wr.ownsRow w1.heap.size 3 1 (.slice (some ⟨g', 0, none⟩) k cap) k (xs.map (Value.int .i64)) ∧ w1.heap.size ≤ g' ∧ Below w.heap.size w wr)
    (fun _ i _ => n - (intOf i).toNat)
  case atStart => exact ⟨0, w1.heap.size, 0, [], Nat.zero_le _, rfl, rfl, rfl, by
    have := World.ownsRow_lit (base := w1.heap.size) (e := 3) (size := 1) w1 #[] 0 (Nat.le_refl _) (by unfold maxLen; omega) rfl
    simpa using this, Nat.le_refl _, hb1.alloc hz1 _⟩
  case round =>
    obtain ⟨k, g', cap', xs, hk, rfl, rfl, hxl, hown, hg', hbel⟩ := hrel
    have hzr := hbel.size
    have hgl := (hown.lt g' rfl).2
    by_cases hlt2 : k < n
    · go_wp2_with (at_builtin; refine wpList_append_own _ rfl _ _ 22 rfl w1.heap.size 3 i0 (.int .i64 0) 1 8 Try.underlying22 HI.out HZ0.out HZ1.out HZ2.out rfl (by decide) _ k _ rfl (hown.alloc _) ⟨wr.heap.size, 0, none⟩ 1 1 [.int .i64 k] rfl rfl (cell_one_new _ _ _) (ints_oneCell .i64 [(k : Int)]) (by unfold maxLen; omega) (by omega) (by simp; omega) ?_; intro v' w6 hown6 hgr6 _; obtain ⟨g6, cap6, hv6, hg6, hl6⟩ := ownI_form hown6 (by omega); subst hv6)
      have hbel6 : Below w.heap.size w w6 := (hbel.alloc hzr _).grown hgr6 (by simp; omega) (by intro k hk; have e2 : g' = k := Option.some.inj hk; omega)
      go_roundw
      case rel => exact ⟨k + 1, g6, cap6, xs ++ [(k : Int)], by omega, by go_num, rfl, by rw [List.length_append, hxl]; rfl, by rw [List.map_append]; exact hown6, hg6, hbel6⟩
      case measure => simp [intOf]; omega
    · obtain rfl : k = n := by omega
      have HS0 : Hid (LayS w wr g A len cap p g' k xs) := Lib.hid ⟨HR.out.below hbel, BufI.of_own hown, hxl, by omega, hbel.mono (by omega)⟩
      clear hown hxl
      go_wp2_with fail
      go_loopw [9] (fun i wx => ∃ (j q : Nat) (ys : List Int), 1 ≤ j ∧ j ≤ max 1 k ∧ i = .int .i64 j ∧ q ≤ p + j ∧ Hid (LayS w wx g A len cap q g' k ys)) (fun i _ => k - (intOf i).toNat)
      case atStart => exact ⟨1, p, xs, Nat.le_refl _, by omega, rfl, by omega, HS0⟩
      case round =>
        obtain ⟨j, q, ys, hj1, hj, rfl, hq, HS⟩ := hrel
        by_cases hlt3 : j < k
        · have hjw : IntKind.i64.wrap ((j : Int) + 1) = (j : Int) + 1 := by rw [IntKind.wrap_i64]; omega
          go_wp2_with fail
          refine (pick g A len cap q ((j : Int) + 1) _ HS.out.rd (by omega) (by omega)).mono ?_
          rintro e w5 ⟨x, rfl, hx, _, hr5, hg5⟩
          have hS5 := HS.out.pick hr5 hg5
          have hx2 : x < k := by omega
          obtain ⟨c1, d1⟩ := hS5.buf.cellD (k := j) (by rw [hS5.len]; exact hlt3)
          obtain ⟨c2, d2⟩ := hS5.buf.cellD (k := x) (by rw [hS5.len]; exact hx2)
          obtain ⟨Y1, hY1⟩ : ∃ a, a = ys.getD j 0 := ⟨_, rfl⟩
          obtain ⟨Y2, hY2⟩ : ∃ a, a = ys.getD x 0 := ⟨_, rfl⟩
          rw [← hY1] at c1
          rw [← hY2] at c2
          have hS6 := hS5.set j Y2
          obtain ⟨c3, d3⟩ := hS6.buf.cellD (k := x) (by rw [hS6.len]; exact hx2)
          have HS7 := Lib.hid (hS6.set x Y1)
          have hj0 : (0 : Int) ≤ (j : Int) := by omega
          have hjk : (j : Int) < (k : Int) := by omega
          have hx0 : (0 : Int) ≤ (x : Int) := by omega
          have hxk : (x : Int) < (k : Int) := by omega
          clear hS5 hS6 hr5 hg5 hY1 hY2 HS hx
          go_wp2_with fail
          go_roundw
          case rel => exact ⟨j + 1, q + 1, _, by omega, by omega, by go_num, by omega, HS7⟩
          case measure => simp [intOf]; omega
        · have k0 : (0 : Int) < (k : Int) := by omega
          by_cases hk1 : 1 < k
          · have k1 : (1 : Int) < (k : Int) := by omega
            go_wp2_with fail
            refine (pick g A len cap q 3 _ HS.out.rd (by omega) (by omega)).mono ?_
            rintro e w5 ⟨x3, rfl, hx3, _, hr5, hg5⟩
            have HS5 := Lib.hid (HS.out.pick hr5 hg5)
            clear hr5 hg5
            by_cases h3 : x3 = 0
            · subst h3
              have t3 : (((0 : Nat) : Int) == 0) = true := rfl
              go_wp2_with fail
              refine (pick g A len cap _ ((k : Int) - 1) _ HS5.out.rd (by omega) (by omega)).mono ?_
              rintro e w6 ⟨x, rfl, hx, _, hr6, hg6⟩
              have hS6 := HS5.out.pick hr6 hg6
              obtain ⟨m, hm⟩ : ∃ m, m = x + 1 := ⟨_, rfl⟩
              have hxm : (x : Int) + 1 = (m : Int) := by omega
              have hm2 : m < k := by omega
              obtain ⟨c1, d1⟩ := hS6.buf.cellD (k := x) (by rw [hS6.len]; omega)
              obtain ⟨c2, d2⟩ := hS6.buf.cellD (k := m) (by rw [hS6.len]; exact hm2)
              obtain ⟨Y1, hY1⟩ : ∃ a, a = ys.getD x 0 := ⟨_, rfl⟩
              obtain ⟨Y2, hY2⟩ : ∃ a, a = ys.getD m 0 := ⟨_, rfl⟩
              rw [← hY1] at c1
              rw [← hY2] at c2
              have hS7 := hS6.set x Y2
              obtain ⟨c3, d3⟩ := hS7.buf.cellD (k := m) (by rw [hS7.len]; exact hm2)
              have HS8 := Lib.hid (hS7.set m Y1)
              obtain ⟨zs, hzs⟩ : ∃ a, a = (ys.set x Y2).set m Y1 := ⟨_, rfl⟩
              rw [← hzs] at HS8
              clear hzs
              have hx0 : (0 : Int) ≤ (x : Int) := by omega
              have hxk : (x : Int) < (k : Int) := by omega
              have hm0 : (0 : Int) ≤ (m : Int) := by omega
              have hmk : (m : Int) < (k : Int) := by omega
              clear hS6 hS7 hr6 hg6 hY1 hY2 HS HS5 hx hm
              go_wp2_with fail
              refine (pick g A len cap _ 30 _ HS8.out.rd (by omega) (by omega)).mono ?_
              rintro e wa ⟨x30, rfl, hx30, _, hra, hga⟩
              have HSa := Lib.hid (HS8.out.pick hra hga)
              clear hra hga
              by_cases h30 : x30 = 0
              · subst h30
                have t30 : (((0 : Nat) : Int) == 0) = true := rfl
                go_wp2_with fail
                obtain ⟨m, hmk⟩ : ∃ m : Nat, m + 1 = k := ⟨k - 1, by omega⟩
                obtain ⟨y, hy⟩ : ∃ a, a = zs.getD m 0 := ⟨_, rfl⟩
                obtain ⟨z0, hz0⟩ : ∃ a, a = zs.getD 0 0 := ⟨_, rfl⟩
                have c9 := (HSa.out.buf.cellD (k := m) (by rw [HSa.out.len]; omega)).1
                have HA1 := Lib.hid (fun w4 (x q : Nat) (hx : x < 3) (hr : Rd w4 g A len cap q) (hg : wa.drew.grownBy w4 (some g)) => lay_after (b := (k : Int)) (T := 3) HSa.out hr hg hx (m := m) (by omega) (by omega))
                have HA2 := Lib.hid (fun w4 (x q : Nat) (hx : x < 3) (hr : Rd w4 g A len cap q) hg => lay_ahead (b := (k : Int)) (T := 3) (m := m) HSa.out hr hg hx (by omega))
                have HR1 := Lib.hid HSa.out.drew.rd
                have HR2 := Lib.hid (HSa.out.alloc (.cells #[.int .i64 (-1), .int .i64 (k : Int), .int .i64 (zs.getD m 0)] 3)).drew.rd
                rw [← hy] at c9 HA1 HA2 HR2
                rw [← hz0] at HA1 HA2
                have f1 : IntKind.i64.wrap ((k : Int) - 1) = (m : Int) := by rw [IntKind.wrap_i64]; omega
                have m0 : (0 : Int) ≤ (m : Int) := by omega
                have m1 : (m : Int) < (k : Int) := by omega
                clear hy hz0 hmk
                go_region_with ((go_at_call 38; (first | refine (pick g A len cap _ 3 _ HR1.out (by omega) (by omega)).mono ?_ | refine (pick g A len cap _ 3 _ HR2.out (by omega) (by omega)).mono ?_); rintro e w4 ⟨x4, rfl, hx4, _, hr4, hg4⟩; have hx3 : x4 < 3 := (by omega); have hxi : (x4 : Int) < 3 := (by omega); have hxj : (0 : Int) ≤ (x4 : Int) := (by omega); (first | (refine Exists.elim (HA1.out w4 x4 _ hx3 hr4 hg4) ?_; rintro v ⟨e1, e2, e3, e4, HSZ⟩) | (refine Exists.elim (HA2.out w4 x4 _ hx3 hr4 hg4) ?_; rintro v ⟨e1, e2, e3, HSZ⟩))))
                all_goals (first | go_wp2_with fail | skip)
                all_goals go_ret
                all_goals exact (HSZ.out.set 0 v).done h7
              · have t30 : ((x30 : Int) == 0) = false := by rw [beq_eq_false_iff_ne]; omega
                go_wp2_with fail
                go_ret
                exact HSa.out.done h7
            · have t3 : ((x3 : Int) == 0) = false := by rw [beq_eq_false_iff_ne]; omega
              go_wp2_with fail
              refine (pick g A len cap _ 30 _ HS5.out.rd (by omega) (by omega)).mono ?_
              rintro e wa ⟨x30, rfl, hx30, _, hra, hga⟩
              have HSa := Lib.hid (HS5.out.pick hra hga)
              clear hra hga
              by_cases h30 : x30 = 0
              · subst h30
                have t30 : (((0 : Nat) : Int) == 0) = true := rfl
                go_wp2_with fail
                obtain ⟨m, hmk⟩ : ∃ m : Nat, m + 1 = k := ⟨k - 1, by omega⟩
                obtain ⟨y, hy⟩ : ∃ a, a = ys.getD m 0 := ⟨_, rfl⟩
                obtain ⟨z0, hz0⟩ : ∃ a, a = ys.getD 0 0 := ⟨_, rfl⟩
                have c9 := (HSa.out.buf.cellD (k := m) (by rw [HSa.out.len]; omega)).1
                have HA1 := Lib.hid (fun w4 (x q : Nat) (hx : x < 3) (hr : Rd w4 g A len cap q) (hg : wa.drew.grownBy w4 (some g)) => lay_after (b := (k : Int)) (T := 3) HSa.out hr hg hx (m := m) (by omega) (by omega))
                have HA2 := Lib.hid (fun w4 (x q : Nat) (hx : x < 3) (hr : Rd w4 g A len cap q) hg => lay_ahead (b := (k : Int)) (T := 3) (m := m) HSa.out hr hg hx (by omega))
                have HR1 := Lib.hid HSa.out.drew.rd
                have HR2 := Lib.hid (HSa.out.alloc (.cells #[.int .i64 (-1), .int .i64 (k : Int), .int .i64 (ys.getD m 0)] 3)).drew.rd
                rw [← hy] at c9 HA1 HA2 HR2
                rw [← hz0] at HA1 HA2
                have f1 : IntKind.i64.wrap ((k : Int) - 1) = (m : Int) := by rw [IntKind.wrap_i64]; omega
                have m0 : (0 : Int) ≤ (m : Int) := by omega
                have m1 : (m : Int) < (k : Int) := by omega
                clear hy hz0 hmk
                go_region_with ((go_at_call 38; (first | refine (pick g A len cap _ 3 _ HR1.out (by omega) (by omega)).mono ?_ | refine (pick g A len cap _ 3 _ HR2.out (by omega) (by omega)).mono ?_); rintro e w4 ⟨x4, rfl, hx4, _, hr4, hg4⟩; have hx3 : x4 < 3 := (by omega); have hxi : (x4 : Int) < 3 := (by omega); have hxj : (0 : Int) ≤ (x4 : Int) := (by omega); (first | (refine Exists.elim (HA1.out w4 x4 _ hx3 hr4 hg4) ?_; rintro v ⟨e1, e2, e3, e4, HSZ⟩) | (refine Exists.elim (HA2.out w4 x4 _ hx3 hr4 hg4) ?_; rintro v ⟨e1, e2, e3, HSZ⟩))))
                all_goals (first | go_wp2_with fail | skip)
                all_goals go_ret
                all_goals exact (HSZ.out.set 0 v).done h7
              · have t30 : ((x30 : Int) == 0) = false := by rw [beq_eq_false_iff_ne]; omega
                go_wp2_with fail
                go_ret
                exact HSa.out.done h7
          · have k1 : ¬ (1 : Int) < (k : Int) := by omega
            go_wp2_with fail
            refine (pick g A len cap _ 30 _ HS.out.rd (by omega) (by omega)).mono ?_
            rintro e wa ⟨x30, rfl, hx30, _, hra, hga⟩
            have HSa := Lib.hid (HS.out.pick hra hga)
            clear hra hga
            by_cases h30 : x30 = 0
            · subst h30
              have t30 : (((0 : Nat) : Int) == 0) = true := rfl
              go_wp2_with fail
              obtain ⟨m, hmk⟩ : ∃ m : Nat, m + 1 = k := ⟨k - 1, by omega⟩
              obtain ⟨y, hy⟩ : ∃ a, a = ys.getD m 0 := ⟨_, rfl⟩
              obtain ⟨z0, hz0⟩ : ∃ a, a = ys.getD 0 0 := ⟨_, rfl⟩
              have c9 := (HSa.out.buf.cellD (k := m) (by rw [HSa.out.len]; omega)).1
              have HA1 := Lib.hid (fun w4 (x q : Nat) (hx : x < 3) (hr : Rd w4 g A len cap q) (hg : wa.drew.grownBy w4 (some g)) => lay_after (b := (k : Int)) (T := 3) HSa.out hr hg hx (m := m) (by omega) (by omega))
              have HA2 := Lib.hid (fun w4 (x q : Nat) (hx : x < 3) (hr : Rd w4 g A len cap q) hg => lay_ahead (b := (k : Int)) (T := 3) (m := m) HSa.out hr hg hx (by omega))
              have HR1 := Lib.hid HSa.out.drew.rd
              have HR2 := Lib.hid (HSa.out.alloc (.cells #[.int .i64 (-1), .int .i64 (k : Int), .int .i64 (ys.getD m 0)] 3)).drew.rd
              rw [← hy] at c9 HA1 HA2 HR2
              rw [← hz0] at HA1 HA2
              have f1 : IntKind.i64.wrap ((k : Int) - 1) = (m : Int) := by rw [IntKind.wrap_i64]; omega
              have m0 : (0 : Int) ≤ (m : Int) := by omega
              have m1 : (m : Int) < (k : Int) := by omega
              clear hy hz0 hmk
              go_region_with ((go_at_call 38; (first | refine (pick g A len cap _ 3 _ HR1.out (by omega) (by omega)).mono ?_ | refine (pick g A len cap _ 3 _ HR2.out (by omega) (by omega)).mono ?_); rintro e w4 ⟨x4, rfl, hx4, _, hr4, hg4⟩; have hx3 : x4 < 3 := (by omega); have hxi : (x4 : Int) < 3 := (by omega); have hxj : (0 : Int) ≤ (x4 : Int) := (by omega); (first | (refine Exists.elim (HA1.out w4 x4 _ hx3 hr4 hg4) ?_; rintro v ⟨e1, e2, e3, e4, HSZ⟩) | (refine Exists.elim (HA2.out w4 x4 _ hx3 hr4 hg4) ?_; rintro v ⟨e1, e2, e3, HSZ⟩))))
              all_goals (first | go_wp2_with fail | skip)
              all_goals go_ret
              all_goals exact (HSZ.out.set 0 v).done h7
            · have t30 : ((x30 : Int) == 0) = false := by rw [beq_eq_false_iff_ne]; omega
              go_wp2_with fail
              go_ret
              exact HSa.out.done h7
end Go.Proofs.Ytadpbbjahckoaaa
