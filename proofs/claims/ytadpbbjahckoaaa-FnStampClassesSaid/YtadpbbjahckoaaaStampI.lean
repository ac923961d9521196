/- All possible stacks in plain Lean, and the walks of the reference's l3All, StampMany and StampNth. Conditions: each theorem's own premises. -/
import Derived.Test.YtadpbbjahckoaaaStampH
import Derived.Test.YtadpbbjahckoaaaPlainQ
namespace Go.Proofs.Ytadpbbjahckoaaa
set_option maxRecDepth 100000
open Go.RowKit
theorem nodup_bound : ∀ (n : Nat) (l : List Int), l.Nodup → (∀ x ∈ l, 0 ≤ x ∧ x < (n : Int)) → l.length ≤ n
  | 0, [], _, _ => Nat.le_refl _
  | 0, x :: t, _, h => by
    have := h x (by simp)
    omega
  | n + 1, l, hd, h => by
    have h1 := nodup_bound n (l.erase (n : Int)) (hd.erase _) fun x hx => by
      obtain ⟨h2, h3⟩ := (List.Nodup.mem_erase_iff hd).1 hx
      have := h x h3
      omega
    by_cases hm : (n : Int) ∈ l
    · have := List.length_erase_of_mem hm
      omega
    · rw [List.erase_of_not_mem hm] at h1
      omega
theorem nodup_all {n : Nat} {l : List Int} (hl : l.length = n) (hd : l.Nodup) (hb : ∀ x ∈ l, 0 ≤ x ∧ x < (n : Int)) (i : Nat) (hi : i < n) : (i : Int) ∈ l := by
  apply Classical.byContradiction
  intro hno
  have := nodup_bound n ((i : Int) :: l) (List.nodup_cons.2 ⟨hno, hd⟩) fun x hx => by
    rcases List.mem_cons.1 hx with h | h
    · omega
    · exact hb x h
  rw [List.length_cons] at this
  omega
theorem snoc_nodup {b : List Int} {x : Int} (hd : b.Nodup) (hx : x ∉ b) : (b ++ [x]).Nodup := by
  rw [List.nodup_append]
  refine ⟨hd, by simp, fun a ha c hc e => ?_⟩
  rw [List.mem_singleton.1 hc] at e
  rw [e] at ha
  exact hx ha
theorem allL_mem (n : Nat) : ∀ (m : Nat) (b : List Int), b.length + m = n → (∀ x ∈ b, 0 ≤ x ∧ x < (n : Int)) → b.Nodup → ∀ l ∈ allL n m b, l.length = n ∧ l.Nodup ∧ ∀ x ∈ l, 0 ≤ x ∧ x < (n : Int)
  | 0, b, h, hb, hd, l, hl => by
    have : l = b := List.mem_singleton.1 hl
    subst this
    exact ⟨by omega, hd, hb⟩
  | m + 1, b, h, hb, hd, l, hl => by
    have hl' : l ∈ List.flatMap (fun (j : Nat) => if b.contains (j : Int) then [] else allL n m (b ++ [(j : Int)])) (List.range n) := hl
    rw [List.mem_flatMap] at hl'
    obtain ⟨j, hj, hm⟩ := hl'
    have hj := List.mem_range.1 hj
    by_cases hc : b.contains (j : Int) = true
    · rw [if_pos hc] at hm; cases hm
    · rw [if_neg hc] at hm
      refine allL_mem n m (b ++ [(j : Int)]) (by rw [List.length_append, List.length_singleton]; omega) ?_ (snoc_nodup hd fun hx => hc (List.contains_iff_mem.2 hx)) l hm
      intro x hx
      rcases List.mem_append.1 hx with h4 | h4
      · exact hb x h4
      · rw [List.mem_singleton.1 h4]; omega
theorem mem_allL (n : Nat) : ∀ (t b : List Int), (∀ x ∈ t, 0 ≤ x ∧ x < (n : Int)) → (b ++ t).Nodup → b ++ t ∈ allL n t.length b
  | [], b, _, _ => by
    show b ++ [] ∈ [b]
    simp
  | x :: t, b, hb, hd => by
    show b ++ x :: t ∈ List.flatMap (fun (j : Nat) => if b.contains (j : Int) then [] else allL n t.length (b ++ [(j : Int)])) (List.range n)
    rw [List.mem_flatMap]
    have hx := hb x (by simp)
    refine ⟨x.toNat, List.mem_range.2 (by omega), ?_⟩
    rw [show ((x.toNat : Nat) : Int) = x by omega]
    have hnc : ¬ b.contains x = true := by
      intro hc
      rw [List.nodup_append] at hd
      exact hd.2.2 x (List.contains_iff_mem.1 hc) x (by simp) rfl
    rw [if_neg hnc]
    have := mem_allL n t (b ++ [x]) (fun y hy => hb y (by simp [hy])) (by rw [List.append_assoc]; exact hd)
    rw [List.append_assoc] at this
    exact this
/-- All possible stacks of n stamps, in order. -/
def stacksS (n : Nat) : List (List Int) := (allL n n []).filter possL
theorem allL_lv {n : Nat} {l : List Int} (h : l ∈ allL n n []) : l.length = n ∧ Lv l (sLevels n l) := by
  obtain ⟨h1, h2, h3⟩ := allL_mem n n [] (by simp) (by simp) (by simp) l h
  refine ⟨h1, ?_⟩
  have := sLevels_lv (l := l) fun i hi => nodup_all h1 h2 h3 i (by omega)
  rw [h1] at this
  exact this
theorem allL_poss {n : Nat} {l : List Int} (h : l ∈ allL n n []) (h1 : 1 ≤ n) (h7 : n ≤ 7) : sUncrossedL (sLevels n l) = possL l := by
  obtain ⟨hl, hlv⟩ := allL_lv h
  rw [poss_same]
  unfold sPossL sStackL
  rw [hl, decide_eq_true (by rw [hlv.1, hl])]
  unfold rangeN
  rw [decide_eq_true ⟨h1, h7⟩]
  rfl
theorem Lv.nodup {l lv : List Int} (h : Lv l lv) : l.Nodup := by
  refine List.pairwise_iff_getElem.2 fun i j hi hj hij e => ?_
  have := h.inj (x := l[j]) (by rw [List.getElem?_eq_getElem hi, e]) (List.getElem?_eq_getElem hj)
  omega
theorem poss_mem {l : List Int} (h : possL l = true) : l ∈ stacksS l.length := by
  have hb := poss_in h
  obtain ⟨_, lv, hlv, _⟩ := (poss_iff l).1 h
  refine List.mem_filter.2 ⟨?_, h⟩
  have := mem_allL l.length l [] hb hlv.nodup
  rwa [List.nil_append] at this
theorem stacks_mem {n : Nat} {l : List Int} (h : l ∈ stacksS n) : l.length = n ∧ possL l = true := by
  obtain ⟨h1, h2⟩ := List.mem_filter.1 h
  exact ⟨(allL_lv h1).1, h2⟩
set_option maxRecDepth 100000 in
set_option maxHeartbeats 4000000 in
theorem l3All (n : Nat) (h1 : 1 ≤ n) (h7 : n ≤ 7) (w : World) : Calls Try.prog 32 #[.int .i64 n] w (ListsBack w w.heap.size (stacksS n)) := by
  have C1 := l2All n h7 n
  have C2 := fun (g c : Nat) (l : List Int) w (hl : l.length = n) (hr : RowI w g l) (hv : (sLevels n l).length = n) => l3Possible g n c l w hl (by omega) hr hv
  obtain ⟨j0, hi0, hz0, hz1, hz2⟩ := info_parts infoRow
  have HJ := Lib.hid hi0; have HY0 := Lib.hid hz0; have HY1 := Lib.hid hz1; have HY2 := Lib.hid hz2
  clear hi0 hz0 hz1 hz2
  have HC1 := Lib.hid C1
  have HC2 := Lib.hid C2
  have HP : Hid (7 ^ n ≤ 823543) := Lib.hid (pow7 h7)
  clear C1 C2
  go_enter Try.func32, Try.ntmps32
  go_wp2_with fail
  refine (HC1.out (w.heap.size + 1) (w.heap.size + 1) 0 0 [] _ rfl (by omega) ⟨by simp, fun i x h => by simp at h⟩ (Nat.le_refl _) (by simp)).mono ?_
  rintro e w2 ⟨rs, G, K, cap, hx, hK, rfl, ho, hG, hl, hb⟩
  have hb2 : Below w.heap.size w w2 := (((Below.refl _ w).alloc (Nat.le_refl _) _).alloc (by simp) _).trans (hb.mono (by simp; omega))
  have hz2 : w.heap.size + 2 ≤ w2.heap.size := by have := hb.size; simp at this; omega
  have hG2 : w.heap.size + 2 ≤ G := by simp at hG; omega
  have hKl : K ≤ 823543 := by rw [← hK, ← List.length_map (f := RD.xs), hx]; exact Nat.le_trans (allL_length n h7 n []) HP.out
  have HX := Lib.hid hx
  have HK := Lib.hid hK
  have HO := Lib.hid ho
  have HL := Lib.hid hl
  have HO0 : Hid (w2.ownsRow w.heap.size 22 1 (.slice (some ⟨w.heap.size, 0, none⟩) 0 0) 0 []) := by
    show World.ownsRow _ _ _ _ _ _ _
    have := World.ownsRow_lit (base := w.heap.size) (e := 22) (size := 1) w #[] 0 (Nat.le_refl _) (by unfold maxLen; omega) rfl
    have h2 : (w.alloc (.cells #[] 22)).ownsRow w.heap.size 22 1 (.slice (some ⟨w.heap.size, 0, none⟩) 0 0) 0 [] := by simpa using this
    refine ownsRow_of_blk (ownsRow_of_blk h2 (Below.heap_alloc _ _ _ (by simp))) (hb.block _ (by simp; omega))
  clear hb hx hK ho hG hl
  go_wp2_with fail
  go_loopw [3, 5] (fun o i wr => ∃ (k A j cap2 : Nat) (qs : List RD), k ≤ K ∧ i = .int .i64 k ∧ o = .slice (some ⟨A, 0, none⟩) j cap2 ∧ qs.length = j ∧ j ≤ k ∧ Hid (qs = (rs.take k).filter fun r => possL r.xs) ∧ Hid (wr.ownsRow w.heap.size 22 1 (.slice (some ⟨A, 0, none⟩) j cap2) j (qs.map RD.v)) ∧ Hid (w.heap.size ≤ A ∧ (A = w.heap.size ∨ w2.heap.size ≤ A)) ∧ Hid (∀ b, w.heap.size < b → b < w2.heap.size → wr.heap[b]? = w2.heap[b]?) ∧ Below w.heap.size w wr ∧ w2.heap.size ≤ wr.heap.size)
    (fun _ i _ => K - (intOf i).toNat)
  case atStart => exact ⟨0, w.heap.size, 0, 0, [], Nat.zero_le _, rfl, rfl, rfl, Nat.le_refl _, Lib.hid rfl, HO0, Lib.hid ⟨Nat.le_refl _, .inl rfl⟩, Lib.hid fun _ _ _ => rfl, hb2, Nat.le_refl _⟩
  case round =>
    obtain ⟨k, A, j, cap2, qs, hk, rfl, rfl, hj, hjk, HQ, HOQ, HA, HS, hbel, hzr⟩ := hrel
    by_cases hlt : k < K
    · obtain ⟨r, hr⟩ : ∃ r, rs[k]? = some r := ⟨_, List.getElem?_eq_getElem (by rw [HK.out]; exact hlt)⟩
      have hGl := (HO.out.lt G rfl).2
      obtain ⟨hrr, hrg, hrlo⟩ := HL.out r (List.mem_of_getElem? hr)
      have hrl := hrr.1
      have hrm : r.xs ∈ allL n n [] := by rw [← HX.out]; exact List.mem_map_of_mem (List.mem_of_getElem? hr)
      obtain ⟨hxl, hlv⟩ := allL_lv hrm
      have hvs : (sLevels n r.xs).length = n := by rw [hlv.1, hxl]
      have hcell2 : w2.cell? ⟨G, k, none⟩ = some r.v := ownI_at HO.out (by rw [List.getElem?_map, hr]; rfl)
      have c1 : wr.cell? ⟨G, k, none⟩ = some (.slice (some ⟨r.g, 0, none⟩) n r.cap) := by
        rw [World.cell?_of_block (a := ⟨G, k, none⟩) (HS.out G (by omega) hGl), hcell2]
        unfold RD.v
        rw [hxl]
      have HRR : Hid (RowI wr r.g r.xs) := Lib.hid (hrr.keep (HS.out r.g (by omega) hrl))
      have k1 : (k : Int) < (K : Int) := by omega
      have HST : Hid ((rs.take (k + 1)).filter (fun r => possL r.xs) = qs ++ if possL r.xs then [r] else []) := by
        show _ = _
        obtain ⟨h2, h3⟩ := List.getElem?_eq_some_iff.1 hr
        rw [List.take_succ_eq_append_getElem h2, h3, List.filter_append, ← HQ.out, List.filter_cons, List.filter_nil]
      have HPO := Lib.hid (allL_poss hrm h1 h7)
      have HXL := Lib.hid hxl
      have HVS := Lib.hid hvs
      obtain ⟨rg, hrge⟩ : ∃ x, x = r.g := ⟨_, rfl⟩
      obtain ⟨rc, hrce⟩ : ∃ x, x = r.cap := ⟨_, rfl⟩
      rw [← hrge, ← hrce] at c1
      rw [← hrge] at HRR hrlo hrl
      have HRV : Hid (r.v = .slice (some ⟨rg, 0, none⟩) n rc) := by show _ = _; unfold RD.v; rw [hxl, ← hrge, ← hrce]
      clear hcell2 hrm hxl hlv hvs hrr hrg hr hrge hrce
      go_wp2_with fail
      refine (HC2.out rg rc r.xs _ HXL.out HRR.out HVS.out).mono ?_
      rintro e w3 ⟨rfl, hb3⟩
      have hz3 := hb3.size
      have hGr : G < wr.heap.size := by omega
      have c2 : w3.cell? ⟨G, k, none⟩ = some (.slice (some ⟨rg, 0, none⟩) n rc) := (hb3.cell (p := ⟨G, k, none⟩) hGr).trans c1
      have HS3 : Hid (∀ b, w.heap.size < b → b < w2.heap.size → w3.heap[b]? = w2.heap[b]?) := Lib.hid fun b h2 h3 => (hb3.block b (by omega)).trans (HS.out b h2 h3)
      have HOQ3 := Lib.hid (ownsRow_of_blk HOQ.out (hb3.block A (HOQ.out.lt A rfl).2))
      have hbel3 : Below w.heap.size w w3 := hbel.trans (hb3.mono hbel.size)
      rw [HPO.out]
      cases hp : possL r.xs with
      | false =>
        rw [hp] at HST
        have HQ2 : Hid (qs = (rs.take (k + 1)).filter fun r => possL r.xs) := by show _ = _; rw [HST.out]; simp
        clear hp HST HQ c1 hb3
        go_wp2_with fail
        go_roundw
        case rel => exact ⟨k + 1, A, j, cap2, qs, by omega, by go_num, rfl, hj, by omega, HQ2, HOQ3, HA, HS3, hbel3, by omega⟩
        case measure => simp [intOf]; omega
      | true =>
        rw [hp] at HST
        have HQ2 : Hid (qs ++ [r] = (rs.take (k + 1)).filter fun r => possL r.xs) := by show _ = _; rw [HST.out]; simp
        clear hp HST HQ c1 hb3
        go_wp2_with (at_builtin; refine wpList_append_lies _ rfl _ _ 43 rfl w.heap.size 22 j0 (.slice none 0 0) 1 24 Try.underlying43 HJ.out HY0.out HY1.out HY2.out rfl (by decide) _ j (qs.map RD.v) rfl (HOQ3.out.alloc _) ⟨w3.heap.size, 0, none⟩ 1 1 [.slice (some ⟨rg, 0, none⟩) n rc] rfl rfl (cell_one_new _ _ _) (by simp [Value.oneCell']) (by omega) (by unfold maxLen; omega) (by omega) (by simp; omega) (w3.heap.size + 1) (by simp) ?_; intro g6 cap6 w6 hown6 hgr6 hat6 hlt6)
        have hA := HA.out
        have hat : g6 = A ∨ g6 = w3.heap.size + 1 := by
          rcases hat6 with h | h
          · exact .inl (Option.some.inj h).symm
          · exact .inr h
        have HS6 : Hid (∀ b, w.heap.size < b → b < w2.heap.size → w6.heap[b]? = w2.heap[b]?) := Lib.hid fun b h2 h3 =>
          ((hgr6.block b (by simp; omega) (by intro e; have e2 : b = A := Option.some.inj e; omega)).trans (Below.heap_alloc _ _ b (by omega))).trans (HS3.out b h2 h3)
        have HO6 : Hid (w6.ownsRow w.heap.size 22 1 (.slice (some ⟨g6, 0, none⟩) (j + 1) cap6) (j + 1) ((qs ++ [r]).map RD.v)) := by
          show World.ownsRow _ _ _ _ _ _ _
          rw [List.map_append, List.map_singleton, HRV.out]
          exact hown6
        have hbel6 : Below w.heap.size w w6 := (hbel3.alloc hbel3.size _).grown hgr6 (by simp; have := hbel3.size; omega) (by intro k hk; cases hk; exact hA.1)
        have hj6 : (qs ++ [r]).length = j + 1 := by rw [List.length_append, hj]; rfl
        have HA6 : Hid (w.heap.size ≤ g6 ∧ (g6 = w.heap.size ∨ w2.heap.size ≤ g6)) := by show _ ∧ _; omega
        have hz6 : w2.heap.size ≤ w6.heap.size := by have := hgr6.size; simp at this; omega
        clear hown6 hgr6 hat6 hA
        go_roundw
        case rel => exact ⟨k + 1, g6, j + 1, cap6, qs ++ [r], by omega, by go_num, rfl, hj6, by omega, HQ2, HO6, HA6, HS6, hbel6, hz6⟩
        case measure => simp [intOf]; omega
    · obtain rfl : k = K := by omega
      go_wp2_with fail
      go_ret
      have hA := HA.out
      have hq : qs = rs.filter fun r => possL r.xs := by rw [HQ.out, List.take_of_length_le (by rw [HK.out]; exact Nat.le_refl _)]
      refine ⟨qs, A, j, cap2, ?_, hj, rfl, HOQ.out, hA.1, fun r hr => ?_, hbel⟩
      · unfold stacksS
        rw [hq, ← HX.out, List.filter_map]
        rfl
      · rw [hq] at hr
        obtain ⟨h2, h3, h4⟩ := HL.out r (List.mem_filter.1 hr).1
        have h5 := h2.1
        exact ⟨h2.keep (HS.out r.g (by omega) h5), by omega, by omega⟩
end Go.Proofs.Ytadpbbjahckoaaa
