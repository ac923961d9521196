/- The walks of the reference's l3Possible and StampPossible. Conditions: each theorem's own premises. -/
import Derived.Test.YtadpbbjahckoaaaStampB
import Derived.Test.YtadpbbjahckoaaaStripB
namespace Go.Proofs.Ytadpbbjahckoaaa
set_option maxRecDepth 100000
open Go.RowKit
/-- Joined stamps on the same side do not cross: the reference's order of looking. -/
def sUncrossedL (lv : List Int) : Bool := (List.range lv.length).all fun k => (List.range lv.length).all fun j => !(decide (k + 1 < lv.length ∧ k % 2 + 2 * j < k)) || pairOk lv k (k % 2 + 2 * j)
theorem sUncrossed_true {lv : List Int} (h : ∀ k j, k + 1 < lv.length → k % 2 + 2 * j < k → pairOk lv k (k % 2 + 2 * j) = true) : sUncrossedL lv = true := by
  unfold sUncrossedL
  rw [List.all_eq_true]
  intro k _
  rw [List.all_eq_true]
  intro j _
  by_cases e : k + 1 < lv.length ∧ k % 2 + 2 * j < k
  · rw [h k j e.1 e.2, Bool.or_true]
  · rw [decide_eq_false e]; rfl
theorem sUncrossed_false {lv : List Int} {k j : Nat} (h : k + 1 < lv.length) (h2 : k % 2 + 2 * j < k) (hp : pairOk lv k (k % 2 + 2 * j) = false) : sUncrossedL lv = false := by
  cases e : sUncrossedL lv with
  | false => rfl
  | true =>
    unfold sUncrossedL at e
    have h1 := List.all_eq_true.1 (List.all_eq_true.1 e k (List.mem_range.2 (by omega))) j (List.mem_range.2 (by omega))
    rw [hp, decide_eq_true ⟨h, h2⟩] at h1
    cases h1
theorem btw_lt {A B : Int} (h : A < B) (M : Int) : (A < M ∧ M < B ∧ btw M A B = true) ∨ (A < M ∧ ¬ M < B ∧ btw M A B = false) ∨ (¬ A < M ∧ btw M A B = false) := by
  by_cases h1 : A < M
  · by_cases h2 : M < B
    · exact .inl ⟨h1, h2, by unfold btw; simp; omega⟩
    · exact .inr (.inl ⟨h1, h2, by unfold btw; simp; omega⟩)
  · exact .inr (.inr ⟨h1, by unfold btw; simp; omega⟩)
theorem btw_gt {A B : Int} (h : B < A) (M : Int) : (B < M ∧ M < A ∧ btw M A B = true) ∨ (B < M ∧ ¬ M < A ∧ btw M A B = false) ∨ (¬ B < M ∧ btw M A B = false) := by
  by_cases h1 : B < M
  · by_cases h2 : M < A
    · exact .inl ⟨h1, h2, by unfold btw; simp; omega⟩
    · exact .inr (.inl ⟨h1, h2, by unfold btw; simp; omega⟩)
  · exact .inr (.inr ⟨h1, by unfold btw; simp; omega⟩)
theorem btw_eq (A M : Int) : (A < M ∧ ¬ M < A ∧ btw M A A = false) ∨ (¬ A < M ∧ btw M A A = false) := by
  by_cases h1 : A < M
  · exact .inl ⟨h1, by omega, by unfold btw; simp; omega⟩
  · exact .inr ⟨h1, by unfold btw; simp; omega⟩
set_option maxRecDepth 100000 in
set_option maxHeartbeats 8000000 in
theorem l3Possible (g n c : Nat) (l : List Int) (w : World) (hn : l.length = n) (hn2 : n ≤ 1000) (hr : RowI w g l) (hlv : (sLevels n l).length = n) : Calls Try.prog 53 #[.slice (some ⟨g, 0, none⟩) n c] w fun e w' => e = .returned (.bool (sUncrossedL (sLevels n l))) ∧ Below w.heap.size w w' := by
  have C1 := l2Levels g n n c l w hn hn2 hn2 hr
  obtain ⟨lv, hlvd⟩ : ∃ lv, lv = sLevels n l := ⟨_, rfl⟩
  rw [← hlvd] at C1 hlv ⊢
  have HC1 := Lib.hid C1
  have HLN := Lib.hid hlv
  clear C1 hlv hlvd hn hr
  go_enter Try.func53, Try.ntmps53
  go_wp2_with fail
  refine HC1.out.mono ?_
  rintro e w2 ⟨g2, n2, c2, hn2x, rfl, hg2, hr2, hb2⟩
  rw [HLN.out] at hn2x
  subst hn2x
  have HR2 := Lib.hid hr2
  have hg2l := hr2.1
  have HB2 := Lib.hid hb2
  clear hr2 hb2
  go_wp2_with fail
  go_loopw [4] (fun i wr => ∃ k d : Nat, k ≤ n ∧ i = .int .i64 k ∧ Hid (∀ k' j, k' < k → k' + 1 < n → k' % 2 + 2 * j < k' → pairOk lv k' (k' % 2 + 2 * j) = true) ∧ w2.drewN d = wr) (fun i _ => n - (intOf i).toNat)
  case atStart => exact ⟨0, 0, Nat.zero_le _, rfl, Lib.hid (fun k' j h => by omega), rfl⟩
  case round =>
    obtain ⟨k, d, hk, rfl, HK, rfl⟩ := hrel
    by_cases hlt : k + 1 < n
    · have hlt' : (k : Int) + 1 < (n : Int) := by omega
      obtain ⟨r0, hr0⟩ : ∃ r0, r0 = k % 2 := ⟨_, rfl⟩
      have hrk : (k : Int) % 2 = (r0 : Int) := by omega
      have HR0 := Lib.hid hr0
      have hr2' : r0 < 2 := by omega
      clear hr0
      go_wp2_with fail
      go_loopw [5] (fun i wr => ∃ j o d : Nat, Hid (o = r0 + 2 * j) ∧ o ≤ k + 2 ∧ i = .int .i64 (o : Int) ∧ Hid (∀ j', j' < j → r0 + 2 * j' < k → pairOk lv k (r0 + 2 * j') = true) ∧ w2.drewN d = wr) (fun i _ => n + n + 10 - (intOf i).toNat)
      case atStart => exact ⟨0, r0, d, Lib.hid (by omega), by omega, by go_num, Lib.hid (fun j' h => by omega), rfl⟩
      case round =>
        clear hrk
        obtain ⟨j, o, d, HO, hok, rfl, HJ, rfl⟩ := hrel
        by_cases hlt2 : o < k
        · obtain ⟨k1, hk1⟩ : ∃ k1, k1 = k + 1 := ⟨_, rfl⟩
          have hlv := HLN.out
          have c0 := HR2.out.2 o _ (getD_some (by omega))
          have c1 := HR2.out.2 k _ (getD_some (by omega))
          have c2 := HR2.out.2 k1 _ (getD_some (by omega))
          have c3 := HR2.out.2 (o + 1) _ (getD_some (by omega))
          clear hlv
          obtain ⟨M, hM⟩ : ∃ M, M = lv.getD o 0 := ⟨_, rfl⟩
          obtain ⟨A, hA⟩ : ∃ A, A = lv.getD k 0 := ⟨_, rfl⟩
          obtain ⟨B, hB⟩ : ∃ B, B = lv.getD k1 0 := ⟨_, rfl⟩
          obtain ⟨N, hN⟩ : ∃ N, N = lv.getD (o + 1) 0 := ⟨_, rfl⟩
          rw [← hM] at c0
          rw [← hA] at c1
          rw [← hB] at c2
          rw [← hN] at c3
          have HPR : Hid (pairOk lv k o = (btw M A B == btw N A B)) := by
            show _ = _
            unfold pairOk
            rw [← hk1, hA, hB, hM, hN]
          have n0 : (0 : Int) ≤ (o : Int) := by omega
          have n1 : (o : Int) < (n : Int) := by omega
          have n2 : (0 : Int) ≤ (k : Int) := by omega
          have n3 : (k : Int) < (n : Int) := by omega
          have n4 : (0 : Int) ≤ (k1 : Int) := by omega
          have n5 : (k1 : Int) < (n : Int) := by omega
          have n6 : (0 : Int) ≤ (o : Int) + 1 := by omega
          have n7 : (o : Int) + 1 < (n : Int) := by omega
          have f1 : IntKind.i64.wrap ((k : Int) + 1) = (k1 : Int) := by rw [IntKind.wrap_i64]; omega
          clear hM hA hB hN hk1
          rcases Int.lt_trichotomy A B with hAB | rfl | hAB
          · rcases btw_lt hAB M with ⟨m1, m2, hx⟩ | ⟨m1, m2, hx⟩ | ⟨m1, hx⟩ <;> rcases btw_lt hAB N with ⟨p1, p2, hy⟩ | ⟨p1, p2, hy⟩ | ⟨p1, hy⟩
            all_goals
              have HX := Lib.hid hx
              have HY := Lib.hid hy
              clear hx hy
              first
              | (have hp : pairOk lv k o = true := by rw [HPR.out, HX.out, HY.out]; rfl
                 have HJ2 : Hid (∀ j', j' < j + 1 → r0 + 2 * j' < k → pairOk lv k (r0 + 2 * j') = true) := fun j' h1 h2 => by
                   by_cases e : j' < j
                   · exact HJ.out j' e h2
                   · have : j' = j := by omega
                     subst this
                     rw [← HO.out]
                     exact hp
                 have HO2 : Hid (o + 2 = r0 + 2 * (j + 1)) := by
                   show _ = _
                   have := HO.out
                   omega
                 clear hp
                 go_wp2_with fail
                 go_quiet (fail)
                 all_goals
                   first
                   | (exfalso; omega)
                   | (go_wp2_with fail
                      go_quiet (fail)
                      all_goals
                        first
                        | (exfalso; omega)
                        | (go_wp2_with fail
                           all_goals
                             first
                             | (exfalso; rename_i hq; simp at hq; omega)
                             | (go_roundw
                                case rel => exact ⟨j + 1, o + 2, _, HO2, by omega, by go_num, HJ2, rfl⟩
                                case measure => simp [intOf]; omega))))
              | (have hp : pairOk lv k o = false := by rw [HPR.out, HX.out, HY.out]; rfl
                 have HF : Hid (sUncrossedL lv = false) := sUncrossed_false (k := k) (j := j) (by rw [HLN.out]; exact hlt) (by rw [← HR0.out, ← HO.out]; exact hlt2) (by rw [← HR0.out, ← HO.out]; exact hp)
                 clear hp
                 go_wp2_with fail
                 go_quiet (fail)
                 all_goals
                   first
                   | (exfalso; omega)
                   | (go_wp2_with fail
                      go_quiet (fail)
                      all_goals
                        first
                        | (exfalso; omega)
                        | (go_wp2_with fail
                           all_goals
                             first
                             | (exfalso; rename_i hq; simp at hq; omega)
                             | (go_ret
                                exact ⟨ret_bool (by rw [HF.out]), HB2.out.trans (below_drewN (Below.refl _ _) _)⟩))))
          · rcases btw_eq A M with ⟨m1, m2, hx⟩ | ⟨m1, hx⟩ <;> rcases btw_eq A N with ⟨p1, p2, hy⟩ | ⟨p1, hy⟩
            all_goals
              have HX := Lib.hid hx
              have HY := Lib.hid hy
              clear hx hy
              first
              | (have hp : pairOk lv k o = true := by rw [HPR.out, HX.out, HY.out]; rfl
                 have HJ2 : Hid (∀ j', j' < j + 1 → r0 + 2 * j' < k → pairOk lv k (r0 + 2 * j') = true) := fun j' h1 h2 => by
                   by_cases e : j' < j
                   · exact HJ.out j' e h2
                   · have : j' = j := by omega
                     subst this
                     rw [← HO.out]
                     exact hp
                 have HO2 : Hid (o + 2 = r0 + 2 * (j + 1)) := by
                   show _ = _
                   have := HO.out
                   omega
                 clear hp
                 go_wp2_with fail
                 go_quiet (fail)
                 all_goals
                   first
                   | (exfalso; omega)
                   | (go_wp2_with fail
                      go_quiet (fail)
                      all_goals
                        first
                        | (exfalso; omega)
                        | (go_wp2_with fail
                           all_goals
                             first
                             | (exfalso; rename_i hq; simp at hq; omega)
                             | (go_roundw
                                case rel => exact ⟨j + 1, o + 2, _, HO2, by omega, by go_num, HJ2, rfl⟩
                                case measure => simp [intOf]; omega))))
              | (have hp : pairOk lv k o = false := by rw [HPR.out, HX.out, HY.out]; rfl
                 have HF : Hid (sUncrossedL lv = false) := sUncrossed_false (k := k) (j := j) (by rw [HLN.out]; exact hlt) (by rw [← HR0.out, ← HO.out]; exact hlt2) (by rw [← HR0.out, ← HO.out]; exact hp)
                 clear hp
                 go_wp2_with fail
                 go_quiet (fail)
                 all_goals
                   first
                   | (exfalso; omega)
                   | (go_wp2_with fail
                      go_quiet (fail)
                      all_goals
                        first
                        | (exfalso; omega)
                        | (go_wp2_with fail
                           all_goals
                             first
                             | (exfalso; rename_i hq; simp at hq; omega)
                             | (go_ret
                                exact ⟨ret_bool (by rw [HF.out]), HB2.out.trans (below_drewN (Below.refl _ _) _)⟩))))
          · rcases btw_gt hAB M with ⟨m1, m2, hx⟩ | ⟨m1, m2, hx⟩ | ⟨m1, hx⟩ <;> rcases btw_gt hAB N with ⟨p1, p2, hy⟩ | ⟨p1, p2, hy⟩ | ⟨p1, hy⟩
            all_goals
              have HX := Lib.hid hx
              have HY := Lib.hid hy
              clear hx hy
              first
              | (have hp : pairOk lv k o = true := by rw [HPR.out, HX.out, HY.out]; rfl
                 have HJ2 : Hid (∀ j', j' < j + 1 → r0 + 2 * j' < k → pairOk lv k (r0 + 2 * j') = true) := fun j' h1 h2 => by
                   by_cases e : j' < j
                   · exact HJ.out j' e h2
                   · have : j' = j := by omega
                     subst this
                     rw [← HO.out]
                     exact hp
                 have HO2 : Hid (o + 2 = r0 + 2 * (j + 1)) := by
                   show _ = _
                   have := HO.out
                   omega
                 clear hp
                 go_wp2_with fail
                 go_quiet (fail)
                 all_goals
                   first
                   | (exfalso; omega)
                   | (go_wp2_with fail
                      go_quiet (fail)
                      all_goals
                        first
                        | (exfalso; omega)
                        | (go_wp2_with fail
                           all_goals
                             first
                             | (exfalso; rename_i hq; simp at hq; omega)
                             | (go_roundw
                                case rel => exact ⟨j + 1, o + 2, _, HO2, by omega, by go_num, HJ2, rfl⟩
                                case measure => simp [intOf]; omega))))
              | (have hp : pairOk lv k o = false := by rw [HPR.out, HX.out, HY.out]; rfl
                 have HF : Hid (sUncrossedL lv = false) := sUncrossed_false (k := k) (j := j) (by rw [HLN.out]; exact hlt) (by rw [← HR0.out, ← HO.out]; exact hlt2) (by rw [← HR0.out, ← HO.out]; exact hp)
                 clear hp
                 go_wp2_with fail
                 go_quiet (fail)
                 all_goals
                   first
                   | (exfalso; omega)
                   | (go_wp2_with fail
                      go_quiet (fail)
                      all_goals
                        first
                        | (exfalso; omega)
                        | (go_wp2_with fail
                           all_goals
                             first
                             | (exfalso; rename_i hq; simp at hq; omega)
                             | (go_ret
                                exact ⟨ret_bool (by rw [HF.out]), HB2.out.trans (below_drewN (Below.refl _ _) _)⟩))))
        · have HK2 : Hid (∀ k' j, k' < k + 1 → k' + 1 < n → k' % 2 + 2 * j < k' → pairOk lv k' (k' % 2 + 2 * j) = true) := fun k' j' h1 h2 h3 => by
            by_cases e : k' < k
            · exact HK.out k' j' e h2 h3
            · have : k' = k := by omega
              subst this
              rw [← HR0.out] at h3 ⊢
              exact HJ.out j' (by have := HO.out; omega) h3
          have hno : ¬ (o : Int) < (k : Int) := by omega
          go_wp2_with fail
          go_roundw
          case rel => exact ⟨k + 1, d, by omega, by go_num, HK2, rfl⟩
          case measure => simp [intOf]; omega
    · have hno : ¬ (k : Int) + 1 < (n : Int) := by omega
      have HT : Hid (sUncrossedL lv = true) := sUncrossed_true fun k' j h1 h2 => HK.out k' j (by rw [HLN.out] at h1; omega) (by rw [HLN.out] at h1; exact h1) h2
      go_wp2_with fail
      go_ret
      exact ⟨ret_bool (by rw [HT.out]), HB2.out.trans (below_drewN (Below.refl _ _) _)⟩
end Go.Proofs.Ytadpbbjahckoaaa
