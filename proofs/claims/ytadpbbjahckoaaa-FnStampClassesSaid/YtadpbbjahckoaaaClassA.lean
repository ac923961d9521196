/- The walks of the reference's l3Back and StampClasses. Conditions: each theorem's own premises. -/
import Derived.Test.YtadpbbjahckoaaaPlainJ
import Derived.Test.YtadpbbjahckoaaaRankB
namespace Go.Proofs.Ytadpbbjahckoaaa
set_option maxRecDepth 100000
open Go.RowKit
set_option maxHeartbeats 2000000 in
theorem l3Back (g n c : Nat) (xs : List Int) (w : World) (hn : xs.length = n) (hn2 : n ≤ 1000) (hin : ∀ x ∈ xs, 0 ≤ x ∧ x < (n : Int)) (hr : RowI w g xs) : Calls Try.prog 47 #[.slice (some ⟨g, 0, none⟩) n c] w (IntsBack w (backL xs)) := by
  obtain ⟨i0, hi0, hz0, hz1, hz2⟩ := info_parts infoI3
  have HI := Lib.hid hi0; have HZ0 := Lib.hid hz0; have HZ1 := Lib.hid hz1; have HZ2 := Lib.hid hz2
  have HN := Lib.hid hn
  have HR := Lib.hid hr
  have HIN := Lib.hid hin
  have hgl := hr.1
  clear hi0 hz0 hz1 hz2 hn hr hin
  go_enter Try.func47, Try.ntmps47
  go_wp2_with fail
  go_loopw [3, 4] (fun v i wr => ∃ k g' cap : Nat, k ≤ n ∧ i = .int .i64 k ∧ v = .slice (some ⟨g', 0, none⟩) k cap ∧ wr.ownsRow w.heap.size 3 1 (.slice (some ⟨g', 0, none⟩) k cap) k (((backL xs).take k).map (Value.int .i64)) ∧ w.heap.size ≤ g' ∧ Below w.heap.size w wr)
    (fun _ i _ => n - (intOf i).toNat)
  case atStart => exact ⟨0, w.heap.size, 0, Nat.zero_le _, rfl, rfl, by
    have := World.ownsRow_lit (base := w.heap.size) (e := 3) (size := 1) w #[] 0 (Nat.le_refl _) (by unfold maxLen; omega) rfl
    simpa using this, Nat.le_refl _, (by repeat (first | exact Below.refl _ _ | assumption | (refine Below.setCell ?_ (by first | omega | (simp; done) | (simp; omega)) _) | (refine Below.alloc ?_ (by first | omega | (simp; done) | (simp; omega)) _) | (refine below_drewN ?_ _) | (refine Below.drew ?_)))⟩
  case round =>
    obtain ⟨k, g', cap, hk, rfl, rfl, hown, hg', hbel⟩ := hrel
    have hzr := hbel.size
    by_cases hlt : k < n
    · obtain ⟨p, hp⟩ : ∃ p, xs[k]? = some p := ⟨_, List.getElem?_eq_getElem (by rw [HN.out]; exact hlt)⟩
      obtain ⟨p0, p1⟩ := HIN.out p (List.mem_of_getElem? hp)
      have c1 := (HR.out.below hbel hgl).2 k p hp
      obtain ⟨y, hy⟩ : ∃ y : Int, y = (n : Int) - 1 - p := ⟨_, rfl⟩
      have HM : Hid (((backL xs).take (k + 1)).map (Value.int .i64) = ((backL xs).take k).map (Value.int .i64) ++ [.int .i64 y]) := by
        show _ = _
        have hk2 : k < (backL xs).length := by rw [backL_length, HN.out]; exact hlt
        have hq : (backL xs)[k]? = some y := by
          unfold backL
          rw [List.getElem?_map, hp, hy, HN.out]
          rfl
        rw [List.take_succ_eq_append_getElem hk2, List.map_append]
        rw [List.getElem?_eq_getElem hk2] at hq
        rw [Option.some.inj hq]
        rfl
      have k0 : (0 : Int) ≤ (k : Int) := by omega
      have k1 : (k : Int) < (n : Int) := by omega
      have yw : (n : Int) - 1 - p = y := hy.symm
      clear hp hy
      go_wp2_with (at_builtin; refine wpList_append_own _ rfl _ _ 22 rfl w.heap.size 3 i0 (.int .i64 0) 1 8 Try.underlying22 HI.out HZ0.out HZ1.out HZ2.out rfl (by decide) _ k _ rfl (hown.alloc _) ⟨wr.heap.size, 0, none⟩ 1 1 [.int .i64 y] rfl rfl (cell_one_new _ _ _) (ints_oneCell .i64 [y]) (by unfold maxLen; omega) (by omega) (by simp; omega) ?_; intro v' w6 hown6 hgr6 _; obtain ⟨g6, cap6, hv6, hg6, hl6⟩ := ownI_form hown6 (by omega); subst hv6)
      have hbel6 : Below w.heap.size w w6 := (hbel.alloc hzr _).grown hgr6 (by simp; omega) (by intro k hk; cases hk; exact hg')
      go_roundw
      case rel => exact ⟨k + 1, g6, cap6, by omega, by go_num, rfl, by rw [HM.out]; exact hown6, hg6, hbel6⟩
      case measure => first | (simp [intOf]; done) | (simp [intOf]; omega)
    · obtain rfl : k = n := by omega
      have he : (backL xs).take k = backL xs := List.take_of_length_le (by rw [backL_length, HN.out]; exact Nat.le_refl _)
      rw [he] at hown
      obtain ⟨h1, h2⟩ := RowI.of_own hown
      go_wp2_with fail
      go_ret
      exact ⟨g', k, cap, h2, rfl, hg', h1, hbel⟩
end Go.Proofs.Ytadpbbjahckoaaa
