/- The walks of the reference's l2Has and l2All (all orders of numbers). Conditions: each theorem's own premises. -/
import Derived.Test.YtadpbbjahckoaaaStampG
import Derived.Deep.AppendLies
namespace Go.Proofs.Ytadpbbjahckoaaa
set_option maxRecDepth 100000
open Go.RowKit
theorem contains_step {l : List Int} {k : Nat} {x y : Int} (h : l[k]? = some y) : (l.take (k + 1)).contains x = ((l.take k).contains x || x == y) := by
  obtain ⟨h1, h2⟩ := List.getElem?_eq_some_iff.1 h
  rw [List.take_succ_eq_append_getElem h1, List.contains_eq_any_beq, List.any_append, ← List.contains_eq_any_beq, h2]
  simp
theorem contains_of_get {l : List Int} {k : Nat} {x : Int} (h : l[k]? = some x) : l.contains x = true := by
  rw [List.contains_iff_mem]
  exact List.mem_of_getElem? h
set_option maxHeartbeats 1000000 in
theorem l2Has (g n c : Nat) (x : Int) (l : List Int) (w : World) (hn : l.length = n) (hn2 : n ≤ 1000) (hr : RowI w g l) :
    Calls Try.prog 66 #[.slice (some ⟨g, 0, none⟩) n c, .int .i64 x] w fun e w' => e = .returned (.bool (l.contains x)) ∧ w = w' := by
  have HN := Lib.hid hn
  have HR := Lib.hid hr
  clear hn hr
  go_enter Try.func66, Try.ntmps66
  go_wp2
  go_loopw [5] (fun i wr => ∃ k : Nat, k ≤ n ∧ i = .int .i64 k ∧ (l.take k).contains x = false ∧ w = wr) (fun i _ => n - (intOf i).toNat)
  case atStart => exact ⟨0, Nat.zero_le _, rfl, rfl, rfl⟩
  case round =>
    obtain ⟨k, hk, rfl, hc, hw⟩ := hrel
    subst hw
    by_cases hlt : k < n
    · obtain ⟨y, hy⟩ : ∃ y, l[k]? = some y := ⟨_, List.getElem?_eq_getElem (by rw [HN.out]; exact hlt)⟩
      have c1 := HR.out.2 k y hy
      have k1 : (k : Int) < (n : Int) := by omega
      by_cases hxy : y = x
      · have HT : Hid (l.contains x = true) := by show _ = _; exact contains_of_get (by rw [← hxy]; exact hy)
        have tq : (y == x) = true := by rw [hxy]; exact beq_self_eq_true _
        clear hy hc hxy
        go_wp2_with fail
        go_ret
        exact ⟨ret_bool HT.out.symm, (by first | rfl | trivial)⟩
      · have HT : Hid ((l.take (k + 1)).contains x = false) := by
          show _ = _
          rw [contains_step hy, hc, Bool.false_or, beq_eq_false_iff_ne]
          exact fun e => hxy e.symm
        have tq : (y == x) = false := beq_eq_false_iff_ne.2 hxy
        clear hy hc hxy
        go_wp2_with fail
        go_roundw
        case rel => exact ⟨k + 1, by omega, by go_num, HT.out, (by first | rfl | trivial)⟩
        case measure => simp [intOf]; omega
    · obtain rfl : k = n := by omega
      have HT : Hid (l.contains x = false) := by
        show _ = _
        rw [← hc, List.take_of_length_le (by rw [HN.out]; exact Nat.le_refl _)]
      clear hc
      go_wp2_with fail
      go_ret
      exact ⟨ret_bool HT.out.symm, (by first | rfl | trivial)⟩
set_option maxRecDepth 100000 in
set_option maxHeartbeats 4000000 in
theorem l2All (n : Nat) (hn : n ≤ 7) : ∀ (m lo g c k : Nat) (b : List Int) (w : World), b.length = k → k + m = n → RowI w g b → lo ≤ g → lo ≤ w.heap.size →
    Calls Try.prog 52 #[.int .i64 n, .slice (some ⟨g, 0, none⟩) k c] w (ListsBack w lo (allL n m b))
  | 0, lo, g, c, k, b, w, hb, hk, hr, hlo, hlw => by
    obtain rfl : k = n := by omega
    have HR := Lib.hid hr
    have HB := Lib.hid hb
    have tq : ((k : Int) == (k : Int)) = true := beq_self_eq_true _
    clear hr hb
    go_enter Try.func52, Try.ntmps52
    go_wp2_with fail
    go_ret
    have hgl := HR.out.1
    refine ⟨[⟨g, c, b⟩], w.heap.size, 1, 1, rfl, rfl, rfl, ?_, Nat.le_refl _, fun r hr => ?_, (Below.refl _ w).alloc (Nat.le_refl _) _⟩
    · have := World.ownsRow_lit (base := w.heap.size) (e := 22) (size := 1) w #[.slice (some ⟨g, 0, none⟩) k c] 1 (Nat.le_refl _) (by unfold maxLen; omega) rfl
      have hv : [RD.v ⟨g, c, b⟩] = [.slice (some ⟨g, 0, none⟩) k c] := by unfold RD.v; rw [HB.out]
      show World.ownsRow _ _ _ _ _ _ [RD.v ⟨g, c, b⟩]
      rw [hv]
      simpa using this
    · rw [List.mem_singleton] at hr
      subst hr
      exact ⟨HR.out.below ((Below.refl _ w).alloc (Nat.le_refl _) _) hgl, by show g ≠ _; omega, hlo⟩
  | m + 1, lo, g, c, k, b, w, hb, hk, hr, hlo, hlw => by
    have C1 := fun x w (h : RowI w g b) => l2Has g k c x b w hb (by omega) h
    have C2 := l2All n hn m
    obtain ⟨i0, hi0, hz0, hz1, hz2⟩ := info_parts infoI
    have HI := Lib.hid hi0; have HZ0 := Lib.hid hz0; have HZ1 := Lib.hid hz1; have HZ2 := Lib.hid hz2
    clear hi0 hz0 hz1 hz2
    obtain ⟨j0, hi0, hz0, hz1, hz2⟩ := info_parts infoRow
    have HJ := Lib.hid hi0; have HY0 := Lib.hid hz0; have HY1 := Lib.hid hz1; have HY2 := Lib.hid hz2
    clear hi0 hz0 hz1 hz2
    have HC1 := Lib.hid C1
    have HC2 := Lib.hid C2
    have HR := Lib.hid hr
    have HB := Lib.hid hb
    have hgl := hr.1
    have tq : ((k : Int) == (n : Int)) = false := by rw [beq_eq_false_iff_ne]; omega
    have HP : Hid (7 ^ (m + 1) ≤ 823543) := Lib.hid (pow7 (by omega))
    clear C1 C2 hr hb
    go_enter Try.func52, Try.ntmps52
    go_wp2_with fail
    go_loopw [5, 6] (fun o i wr => ∃ (q G j cap : Nat) (rs : List RD), q ≤ n ∧ i = .int .i64 q ∧ o = .slice (some ⟨G, 0, none⟩) j cap ∧ rs.length = j ∧ Hid (rs.map RD.xs = allTo n m b q) ∧ Hid (wr.ownsRow w.heap.size 22 1 (.slice (some ⟨G, 0, none⟩) j cap) j (rs.map RD.v)) ∧ w.heap.size ≤ G ∧ Hid (Lie wr lo G rs) ∧ Below w.heap.size w wr)
      (fun _ i _ => n - (intOf i).toNat)
    case atStart => exact ⟨0, w.heap.size, 0, 0, [], Nat.zero_le _, rfl, rfl, rfl, Lib.hid rfl, Lib.hid (by
      have := World.ownsRow_lit (base := w.heap.size) (e := 22) (size := 1) w #[] 0 (Nat.le_refl _) (by unfold maxLen; omega) rfl
      simpa using this), Nat.le_refl _, Lib.hid (fun r hr => by cases hr), (Below.refl _ w).alloc (Nat.le_refl _) _⟩
    case round =>
      obtain ⟨q, G, j, cap, rs, hq, rfl, rfl, hj, HX, HO, hG, HL, hbel⟩ := hrel
      have hzr := hbel.size
      by_cases hlt : q < n
      · have HRr := Lib.hid (HR.out.below hbel hgl)
        have hglr : g < wr.heap.size := by omega
        go_wp2_with fail
        refine (HC1.out _ _ HRr.out).mono ?_
        rintro e w1 ⟨rfl, rfl⟩
        cases hc : b.contains (q : Int) with
        | true =>
          have HX2 : Hid (rs.map RD.xs = allTo n m b (q + 1)) := by show _ = _; rw [allTo_skip hc]; exact HX.out
          clear hc HX
          go_wp2_with fail
          go_roundw
          case rel => exact ⟨q + 1, G, j, cap, rs, by omega, by go_num, rfl, hj, HX2, HO, hG, HL, hbel⟩
          case measure => simp [intOf]; omega
        | false =>
          have HX2 : Hid (allTo n m b (q + 1) = allTo n m b q ++ allL n m (b ++ [(q : Int)])) := by show _ = _; exact allTo_add hc
          have HLE : Hid ((allTo n m b (q + 1)).length ≤ 823543) := by
            show _ ≤ _
            exact Nat.le_trans (allTo_length n hn m b (q + 1) hlt) HP.out
          have HPOS : Hid (0 < (allL n m (b ++ [(q : Int)])).length) := by
            show _ < _
            exact allL_some n m _ (by rw [List.length_append, List.length_singleton, HB.out]; omega)
          clear hc
          have HCE : Hid (∀ w1, Below wr.heap.size wr w1 → ∀ j u, (b.map (Value.int .i64))[j]? = some u → w1.cell? ((⟨g, 0, none⟩ : Addr).add j) = some u) := by
            show ∀ _, _
            intro w1 h1
            exact rowI_cells (HRr.out.below h1 hglr)
          have HLB : Hid ((b.map (Value.int .i64)).length = k * 1) := by show _ = _; rw [List.length_map, HB.out, Nat.mul_one]
          go_wp2_with (first
            | (at_builtin; refine wpList_append_own _ rfl _ _ 22 rfl wr.heap.size 3 i0 (.int .i64 0) 1 8 Try.underlying22 HI.out HZ0.out HZ1.out HZ2.out rfl (by decide) (.slice (some ⟨wr.heap.size, 0, none⟩) 0 0) 0 [] rfl (by have := World.ownsRow_lit (base := wr.heap.size) (e := 3) (size := 1) wr #[] 0 (Nat.le_refl _) (by unfold maxLen; omega) rfl; simpa using this) ⟨g, 0, none⟩ k c (b.map (Value.int .i64)) rfl HLB.out (HCE.out _ ((Below.refl _ wr).alloc (Nat.le_refl _) _)) (ints_oneCell .i64 b) (by unfold maxLen; omega) (by omega) (by simp) ?_; intro v1 w1 hown1 hgr1 hn1; rw [Nat.zero_add] at hown1; obtain ⟨g1, c1, hv1, hg1, hl1⟩ := own_form' hown1 (fun h => addr_nonnil (hn1.1 h).1); subst hv1; have hb1 : Below wr.heap.size wr w1 := ((Below.refl _ wr).alloc (Nat.le_refl _) _).grown hgr1 (by simp) (by intro k hk; cases hk; exact Nat.le_refl _); have hz1 := hb1.size; clear hgr1 hn1)
            | (at_builtin; refine wpList_append_own _ rfl _ _ 22 rfl wr.heap.size 3 i0 (.int .i64 0) 1 8 Try.underlying22 HI.out HZ0.out HZ1.out HZ2.out rfl (by decide) (.slice (some ⟨g1, 0, none⟩) k c1) k _ rfl (hown1.alloc _) ⟨w1.heap.size, 0, none⟩ 1 1 [.int .i64 q] rfl rfl (cell_one_new _ _ _) (ints_oneCell .i64 [q]) (by unfold maxLen; omega) (by omega) (by simp; omega) ?_; intro v2 w2 hown2 hgr2 _; obtain ⟨g2, c2, hv2, hg2, hl2⟩ := ownI_form hown2 (by omega); subst hv2; have hb2 : Below wr.heap.size wr w2 := (hb1.alloc hz1 _).grown hgr2 (by simp; omega) (by intro k hk; cases hk; exact hg1); have hz2 := hb2.size; obtain ⟨hr2, hn2⟩ := RowI.of_own (xs := b ++ [(q : Int)]) (by simpa using hown2); have HR2 := Lib.hid hr2; have HN2 := Lib.hid hn2; clear hgr2 hown1 hown2 hr2 hn2)
            | (go_at_call 52; refine (HC2.out wr.heap.size g2 c2 (k + 1) (b ++ [(q : Int)]) _ HN2.out (by omega) HR2.out hg2 hz2).mono ?_; rintro e w3 ⟨rs3, G3, j3, cap3, hx3, hj3, rfl, ho3, hg3, hl3, hb3⟩; have hb3' : Below wr.heap.size wr w3 := hb2.trans (hb3.mono hz2); have hz3 := hb3'.size; have HX3 := Lib.hid hx3; have HO3 := Lib.hid ho3; have HL3 := Lib.hid hl3; have HOW := Lib.hid (ownsRow_of_blk HO.out (hb3'.block G (HO.out.lt G rfl).2)); have hjp : 0 < j3 := (by rw [← hj3, ← List.length_map (f := RD.xs), HX3.out]; exact HPOS.out); have hjl : j + j3 ≤ 823543 := (by have := HLE.out; rw [HX2.out, ← HX.out, ← HX3.out, List.length_append, List.length_map, List.length_map, hj, hj3] at this; exact this); have HLB3 : Hid ((rs3.map RD.v).length = j3 * 1) := Lib.hid (by rw [List.length_map, hj3, Nat.mul_one]); clear hx3 ho3 hl3)
            | (at_builtin; refine wpList_append_lies _ rfl _ _ 43 rfl w.heap.size 22 j0 (.slice none 0 0) 1 24 Try.underlying43 HJ.out HY0.out HY1.out HY2.out rfl (by decide) (.slice (some ⟨G, 0, none⟩) j cap) j (rs.map RD.v) rfl HOW.out ⟨G3, 0, none⟩ j3 cap3 (rs3.map RD.v) rfl HLB3.out (own_cells HO3.out) (rows_oneCell rs3) hjp (by unfold maxLen; omega) (by omega) (by omega) w3.heap.size rfl ?_; intro g6 cap6 w6 hown6 hgr6 hat6 hlt6))
          have hGl : G < wr.heap.size := (HO.out.lt G rfl).2
          obtain ⟨hL6, hb6, hg6⟩ := lists_join (HL.out.below hb3' (Nat.le_refl _)) (HL3.out.of (by omega) hGl) hgr6 rfl hat6 rfl (show w.heap.size ≤ w3.heap.size by omega) hG
          have HL6 := Lib.hid hL6
          have HO6 : Hid (w6.ownsRow w.heap.size 22 1 (.slice (some ⟨g6, 0, none⟩) (j + j3) cap6) (j + j3) ((rs ++ rs3).map RD.v)) := by show World.ownsRow _ _ _ _ _ _ _; rw [List.map_append]; exact hown6
          have HX6 : Hid ((rs ++ rs3).map RD.xs = allTo n m b (q + 1)) := by show _ = _; rw [List.map_append, HX.out, HX3.out, HX2.out]
          have hj6 : (rs ++ rs3).length = j + j3 := by rw [List.length_append, hj, hj3]
          have hbel6 : Below w.heap.size w w6 := (hbel.trans (hb3'.mono hzr)).trans hb6
          clear hL6 hown6 hgr6 hat6
          go_roundw
          case rel => exact ⟨q + 1, g6, j + j3, cap6, rs ++ rs3, by omega, by go_num, rfl, hj6, HX6, HO6, hg6, HL6, hbel6⟩
          case measure => simp [intOf]; omega
      · obtain rfl : q = n := by omega
        go_wp2_with fail
        go_ret
        exact ⟨rs, G, j, cap, by rw [HX.out]; rfl, hj, rfl, HO.out, hG, HL.out, hbel⟩
end Go.Proofs.Ytadpbbjahckoaaa
