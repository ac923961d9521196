/- The walk of the reference's StampFolds. Conditions: the theorem's own premises. -/
import Derived.Test.YtadpbbjahckoaaaStampE
namespace Go.Proofs.Ytadpbbjahckoaaa
set_option maxRecDepth 100000
open Go.RowKit
/-- The fold behind the k-th stamp, told by levels. -/
def foldB (lv : List Int) (k : Nat) : UInt8 := if (decide (lv.getD k 0 < lv.getD (k + 1) 0) == ((k : Int) % 2 == 0)) = true then 86 else 77
def foldsL (lv : List Int) (n : Nat) : List UInt8 := (List.range n).map (foldB lv)
theorem foldsL_step (lv : List Int) (k : Nat) : foldsL lv (k + 1) = foldsL lv k ++ [foldB lv k] := by
  unfold foldsL
  rw [List.range_succ, List.map_append]
  rfl
/-- A text and a word have come back. -/
def FoldsBack (w : World) (ok : Bool) (bs : List UInt8) (e : Ending) (w' : World) : Prop :=
  Below w.heap.size w w' ∧ ∃ s : ByteArray, bl s = bs ∧ e = .returned (.tuple #[.string s, .bool ok])
set_option maxRecDepth 100000 in
set_option maxHeartbeats 4000000 in
theorem specStampFolds (g n c : Nat) (l : List Int) (w : World) (hn : l.length = n) (hn2 : n ≤ 1000) (hr : RowI w g l) :
    Calls Try.prog 28 #[.slice (some ⟨g, 0, none⟩) n c] w (FoldsBack w (sPossL l) (if sPossL l then foldsL (sLevels n l) (n - 1) else [])) := by
  have C1 := specStampPossible g n c l w hn hn2 hr
  have C2 := fun w (h : RowI w g l) => l2Levels g n n c l w hn hn2 hn2 h
  have hgl := hr.1
  cases hok : sPossL l with
  | false =>
    rw [hok] at C1
    have HC1 := Lib.hid C1
    clear C1 C2 hok hn hr
    go_enter Try.func28, Try.ntmps28
    go_wp2_with fail
    refine HC1.out.mono ?_
    rintro e w1 ⟨rfl, hb1⟩
    go_wp2_with fail
    go_ret2
    exact ⟨hb1, _, rfl, rfl⟩
  | true =>
    have hst : sStackL l = true := by
      unfold sPossL at hok
      rw [Bool.and_eq_true] at hok
      exact hok.1
    have hlv : (sLevels n l).length = n := by
      unfold sStackL at hst
      rw [Bool.and_eq_true, decide_eq_true_eq, hn] at hst
      exact hst.2
    rw [hok] at C1
    obtain ⟨lv, hlvd⟩ : ∃ lv, lv = sLevels n l := ⟨_, rfl⟩
    rw [← hlvd] at C2 hlv ⊢
    have HC1 := Lib.hid C1
    have HC2 := Lib.hid C2
    have HR := Lib.hid hr
    have HLN := Lib.hid hlv
    clear C1 C2 hok hst hlv hlvd hn hr
    go_enter Try.func28, Try.ntmps28
    go_wp2_with fail
    refine HC1.out.mono ?_
    rintro e w1 ⟨rfl, hb1⟩
    have hz1 := hb1.size
    go_wp2_with fail
    refine (HC2.out _ (HR.out.below hb1 hgl)).mono ?_
    rintro e w2 ⟨g2, n2, c2, hn2x, rfl, hg2, hr2, hb2⟩
    rw [HLN.out] at hn2x
    subst hn2x
    have HR2 := Lib.hid hr2
    have HB2 := Lib.hid (hb1.trans (hb2.mono hz1))
    have hgl2 := hr2.1
    clear hr2 hb1 hb2
    go_wp2_with fail
    go_loopw [4, 6] (fun f i wr => ∃ (k d : Nat) (fo : ByteArray), k + 1 ≤ n + 1 ∧ (k + 1 ≤ n ∨ k = 0) ∧ i = .int .i64 k ∧ f = .string fo ∧ fo.size = k ∧ Hid (bl fo = foldsL lv k) ∧ w2.drewN d = wr) (fun _ i _ => n - (intOf i).toNat)
    case atStart => exact ⟨0, 0, ⟨#[]⟩, by omega, by omega, rfl, rfl, rfl, Lib.hid rfl, rfl⟩
    case round =>
      obtain ⟨k, d, fo, hk, hk2, rfl, rfl, hfo, HF, rfl⟩ := hrel
      by_cases hlt : k + 1 < n
      · have hlt' : (k : Int) + 1 < (n : Int) := by omega
        obtain ⟨k1, hk1⟩ : ∃ k1, k1 = k + 1 := ⟨_, rfl⟩
        have hlv := HLN.out
        have c1 := HR2.out.2 k _ (getD_some (by omega))
        have c2 := HR2.out.2 k1 _ (getD_some (by omega))
        clear hlv
        obtain ⟨A, hA⟩ : ∃ A, A = lv.getD k 0 := ⟨_, rfl⟩
        obtain ⟨B, hB⟩ : ∃ B, B = lv.getD k1 0 := ⟨_, rfl⟩
        rw [← hA] at c1
        rw [← hB] at c2
        obtain ⟨Y, hY⟩ : ∃ Y, Y = ((k : Int) % 2 == 0) := ⟨_, rfl⟩
        have ty : ((k : Int) % 2 == 0) = Y := hY.symm
        have HST : Hid (foldB lv k = if (decide (A < B) == Y) = true then 86 else 77) := by
          show _ = _
          unfold foldB
          rw [← hk1, hA, hB, hY]
        have n2 : (0 : Int) ≤ (k : Int) := by omega
        have n3 : (k : Int) < (n : Int) := by omega
        have n4 : (0 : Int) ≤ (k1 : Int) := by omega
        have n5 : (k1 : Int) < (n : Int) := by omega
        have f1 : IntKind.i64.wrap ((k : Int) + 1) = (k1 : Int) := by rw [IntKind.wrap_i64]; omega
        have hsz : fo.size ≤ 1000 := by omega
        clear hA hB hY hk1
        by_cases hAB : A < B
        · cases Y with
          | true =>
            have HF2 : Hid (bl (fo ++ ⟨#[86]⟩) = foldsL lv (k + 1)) := by
              show _ = _
              rw [foldsL_step, HST.out, if_pos (by simp [hAB]), bl_append, HF.out]
              rfl
            have hs2 : (fo ++ (⟨#[86]⟩ : ByteArray)).size = k + 1 := by rw [ByteArray.size_append, hfo]; rfl
            have hs3 : (⟨#[86]⟩ : ByteArray).size ≤ 1 := Nat.le_refl _
            clear hfo
            go_wp2_with fail
            go_quiet (fail)
            clear f1
            go_wp2_with fail
            go_roundw
            case rel => exact ⟨k + 1, _, _, by omega, by omega, by go_num, rfl, hs2, HF2, rfl⟩
            case measure => simp [intOf]; omega
          | false =>
            have HF2 : Hid (bl (fo ++ ⟨#[77]⟩) = foldsL lv (k + 1)) := by
              show _ = _
              rw [foldsL_step, HST.out, if_neg (by simp [hAB]), bl_append, HF.out]
              rfl
            have hs2 : (fo ++ (⟨#[77]⟩ : ByteArray)).size = k + 1 := by rw [ByteArray.size_append, hfo]; rfl
            have hs3 : (⟨#[77]⟩ : ByteArray).size ≤ 1 := Nat.le_refl _
            clear hfo
            go_wp2_with fail
            go_quiet (fail)
            clear f1
            go_wp2_with fail
            go_roundw
            case rel => exact ⟨k + 1, _, _, by omega, by omega, by go_num, rfl, hs2, HF2, rfl⟩
            case measure => simp [intOf]; omega
        · have td : (A < B) = False := eq_false hAB
          cases Y with
          | true =>
            have HF2 : Hid (bl (fo ++ ⟨#[77]⟩) = foldsL lv (k + 1)) := by
              show _ = _
              rw [foldsL_step, HST.out, if_neg (by simp [hAB]), bl_append, HF.out]
              rfl
            have hs2 : (fo ++ (⟨#[77]⟩ : ByteArray)).size = k + 1 := by rw [ByteArray.size_append, hfo]; rfl
            have hs3 : (⟨#[77]⟩ : ByteArray).size ≤ 1 := Nat.le_refl _
            clear hfo
            go_wp2_with fail
            go_quiet (fail)
            clear f1
            go_wp2_with fail
            go_roundw
            case rel => exact ⟨k + 1, _, _, by omega, by omega, by go_num, rfl, hs2, HF2, rfl⟩
            case measure => simp [intOf]; omega
          | false =>
            have HF2 : Hid (bl (fo ++ ⟨#[86]⟩) = foldsL lv (k + 1)) := by
              show _ = _
              rw [foldsL_step, HST.out, if_pos (by simp [hAB]), bl_append, HF.out]
              rfl
            have hs2 : (fo ++ (⟨#[86]⟩ : ByteArray)).size = k + 1 := by rw [ByteArray.size_append, hfo]; rfl
            have hs3 : (⟨#[86]⟩ : ByteArray).size ≤ 1 := Nat.le_refl _
            clear hfo
            go_wp2_with fail
            go_quiet (fail)
            clear f1
            go_wp2_with fail
            go_roundw
            case rel => exact ⟨k + 1, _, _, by omega, by omega, by go_num, rfl, hs2, HF2, rfl⟩
            case measure => simp [intOf]; omega
      · have hno : ¬ (k : Int) + 1 < (n : Int) := by omega
        have hkn : k = n - 1 := by omega
        have HFN : Hid (bl fo = foldsL lv (n - 1)) := by rw [← hkn]; exact HF
        clear hkn
        go_wp2_with fail
        go_ret2
        exact ⟨HB2.out.trans (below_drewN (Below.refl _ _) _), _, HFN.out, rfl⟩
end Go.Proofs.Ytadpbbjahckoaaa
