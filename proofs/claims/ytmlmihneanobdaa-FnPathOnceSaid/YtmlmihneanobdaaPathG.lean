/- The walk of PathOnce of the reference. Conditions: each theorem's own premises. -/
import Derived.Test.YtmlmihneanobdaaPathF
namespace Go.Proofs.Ytmlmihneanobdaa
open Go.RowKit Go.Maps
theorem ne_parts {a b : Int × Int} (h : a ≠ b) : a.1 ≠ b.1 ∨ (a.1 = b.1 ∧ a.2 ≠ b.2) := by
  obtain ⟨a1, a2⟩ := a
  obtain ⟨b1, b2⟩ := b
  simp only [ne_eq, Prod.mk.injEq] at h ⊢
  omega
/-- The steps ahead of the k-th place differ from the m-th step. -/
def Differ (ps : List (Int × Int)) (m k : Nat) : Prop := ∀ (j : Nat) (x : (Int × Int) × (Int × Int)), j + 1 < k → sAt ps j = some x → sAt ps m ≠ some x
theorem differ_step {ps : List (Int × Int)} {m k k' : Nat} {a b c d : Int × Int} (h : Differ ps m k) (hk : k = k' + 1) (ha : ps[k']? = some a) (hb : ps[k]? = some b) (hc : ps[m]? = some c) (hd : ps[m + 1]? = some d) (hn : ¬ SameStep a b c d) : Differ ps m (k + 1) := by
  intro j x hj hx hm
  by_cases e : j + 1 < k
  · exact h j x e hx hm
  · have : j = k' := by omega
    subst this
    subst hk
    rw [sAt_some ha hb] at hx
    rw [sAt_some hc hd] at hm
    exact hn (stepN_same.1 ((Option.some.inj hx).trans (Option.some.inj hm).symm))
theorem differ_end {ps : List (Int × Int)} {m n : Nat} (hm : n = m + 1) (hO : OnceTo ps n) (h : Differ ps m n) : OnceTo ps (n + 1) := by
  intro i j x hij hi hx hj
  by_cases e : i + 1 < n
  · exact hO i j x hij e hx hj
  · have : i = m := by omega
    subst this
    exact h j x (by omega) hj hx
set_option maxRecDepth 100000 in
set_option maxHeartbeats 4000000 in
theorem specPathOnce (s : ByteArray) (w : World) (hs : s.size ≤ 1048576) :
    Calls Try.prog 19 #[.string s] w fun e w' => e = .returned (.bool (onceL (bl s))) ∧ Below w.heap.size w w' := by
  cases hok : creas (bl s) with
  | false =>
    have HO : Hid (onceL (bl s) = false) := by show _ = _; unfold onceL; rw [hok]; rfl
    rw [HO.out]
    have HOK := Lib.hid hok
    clear hok
    go_enter Try.func19, Try.ntmps19
    go_wp2_with fail
    refine (specPathPlaces_no s _ hs HOK.out).mono ?_
    intro e w1 h1
    obtain ⟨A1, rfl, hb1⟩ := h1.form
    clear h1
    go_wp2_with fail
    refine wp_loop_rounds 1 ?_
    rw [rounds_succ]
    go_wp2
    go_ret
    exact ⟨rfl, hb1⟩
  | true =>
    have HOK := Lib.hid hok
    have HO : Hid (onceL (bl s) = onceB (places (bl s))) := by show _ = _; unfold onceL; rw [hok]; rfl
    rw [HO.out]
    clear hok
    obtain ⟨N, ps, hps, hpl, hN2, hN65, hbd, C1⟩ := specPlaces s HOK.out
    rw [← hps]
    have HP := Lib.hid hpl
    have HC := Lib.hid C1
    clear hps hpl C1 hbd HO
    go_enter Try.func19, Try.ntmps19
    go_wp2_with fail
    refine (HC.out _).mono ?_
    rintro e w1 ⟨g, cap, rfl, hg, hgl, hR, hb1⟩
    have hz1 := hb1.size
    have HR := Lib.hid hR
    clear hR
    go_wp2_with fail
    go_loopw [5] (fun i wr => ∃ n : Nat, 1 ≤ n ∧ n ≤ N ∧ i = .int .i64 n ∧ Hid (OnceTo ps n) ∧ Below w1.heap.size w1 wr) (fun i _ => N - (intOf i).toNat)
    case atStart => exact ⟨1, Nat.le_refl _, by omega, rfl, Lib.hid (fun i j x hij hi => by omega), Below.refl _ _⟩
    case round =>
      obtain ⟨n, hn1, hn, rfl, HOn, hbelO⟩ := hrel
      by_cases hlt : n < N
      · obtain ⟨m, hm⟩ : ∃ m, n = m + 1 := ⟨n - 1, by omega⟩
        obtain ⟨c, hc⟩ : ∃ c, ps[m]? = some c := ⟨_, List.getElem?_eq_getElem (by rw [HP.out]; omega)⟩
        obtain ⟨d, hd⟩ : ∃ d, ps[n]? = some d := ⟨_, List.getElem?_eq_getElem (by rw [HP.out]; omega)⟩
        have HCc := Lib.hid hc
        have HDd := Lib.hid hd
        have HM := Lib.hid hm
        clear hc hd hm
        go_wp2
        go_loopw [6] (fun i wr => ∃ k : Nat, 1 ≤ k ∧ k ≤ n ∧ i = .int .i64 k ∧ Hid (Differ ps m k) ∧ Below w1.heap.size w1 wr) (fun i _ => n - (intOf i).toNat)
        case atStart => exact ⟨1, Nat.le_refl _, hn1, rfl, Lib.hid (fun j x hj => by omega), hbelO⟩
        case round =>
          obtain ⟨k, hk1, hk, rfl, HDi, hbel⟩ := hrel
          have hzr := hbel.size
          by_cases hlk : k < n
          · obtain ⟨k', hk'⟩ : ∃ k', k = k' + 1 := ⟨k - 1, by omega⟩
            obtain ⟨a, ha⟩ : ∃ a, ps[k']? = some a := ⟨_, List.getElem?_eq_getElem (by rw [HP.out]; omega)⟩
            obtain ⟨b, hb⟩ : ∃ b, ps[k]? = some b := ⟨_, List.getElem?_eq_getElem (by rw [HP.out]; omega)⟩
            have hm := HM.out
            have HK' := Lib.hid hk'
            obtain ⟨a1, a2⟩ := HR.out k' a ha
            obtain ⟨a3, a4⟩ := HR.out k b hb
            obtain ⟨a5, a6⟩ := HR.out m c HCc.out
            obtain ⟨a7, a8⟩ := HR.out n d HDd.out
            have HA := Lib.hid ha
            have HB := Lib.hid hb
            have HK : Hid (∀ w', Below w1.heap.size w1 w' → w'.cell? ⟨g, k' * 2, none⟩ = some (.int .i64 a.1) ∧ w'.cell? ⟨g, k' * 2 + 1, none⟩ = some (.int .i64 a.2) ∧ w'.cell? ⟨g, k * 2, none⟩ = some (.int .i64 b.1) ∧ w'.cell? ⟨g, k * 2 + 1, none⟩ = some (.int .i64 b.2) ∧
                w'.cell? ⟨g, m * 2, none⟩ = some (.int .i64 c.1) ∧ w'.cell? ⟨g, m * 2 + 1, none⟩ = some (.int .i64 c.2) ∧ w'.cell? ⟨g, n * 2, none⟩ = some (.int .i64 d.1) ∧ w'.cell? ⟨g, n * 2 + 1, none⟩ = some (.int .i64 d.2)) := fun w' hb =>
              have e := fun j => hb.cell (p := ⟨g, j, none⟩) hgl
              ⟨(e _).trans a1, (e _).trans a2, (e _).trans a3, (e _).trans a4, (e _).trans a5, (e _).trans a6, (e _).trans a7, (e _).trans a8⟩
            clear a1 a2 a3 a4 a5 a6 a7 a8 ha hb
            have f1 : IntKind.i64.wrap ((k : Int) - 1) = (k' : Int) := by rw [IntKind.wrap_i64]; omega
            have f2 : (k : Int) - 1 = (k' : Int) := by omega
            have f3 : IntKind.i64.wrap (k' : Int) = (k' : Int) := by rw [IntKind.wrap_i64]; omega
            have f4 : IntKind.i64.wrap ((n : Int) - 1) = (m : Int) := by rw [IntKind.wrap_i64]; omega
            have f5 : (n : Int) - 1 = (m : Int) := by omega
            have f6 : IntKind.i64.wrap (m : Int) = (m : Int) := by rw [IntKind.wrap_i64]; omega
            have k0 : (0 : Int) ≤ (k' : Int) := by omega
            have k1 : (k' : Int) < (N : Int) := by omega
            have k2 : (0 : Int) ≤ (k : Int) := by omega
            have k3 : (k : Int) < (N : Int) := by omega
            have k4 : (0 : Int) ≤ (m : Int) := by omega
            have k5 : (m : Int) < (N : Int) := by omega
            have k6 : (0 : Int) ≤ (n : Int) := by omega
            have k7 : (n : Int) < (N : Int) := by omega
            clear hm hk'
            go_wp2
            go_cut [7] from 20 to 72 (fun p wx => p = .bool (decide (a = c ∧ b = d)) ∧ Below w1.heap.size w1 wx)
            case first =>
              obtain ⟨b1, b2, b3, b4, b5, b6, b7, b8⟩ := HK.out _ hbel
              by_cases hA : a = c
              · by_cases hB : b = d
                · skip
                  have HT : Hid (decide (a = c ∧ b = d) = true) := decide_eq_true ⟨hA, hB⟩
                  have e0 : (a.1 == c.1) = true := by rw [beq_iff_eq]; exact congrArg Prod.fst hA
                  have e1 : (a.2 == c.2) = true := by rw [beq_iff_eq]; exact congrArg Prod.snd hA
                  have e2 : (b.1 == d.1) = true := by rw [beq_iff_eq]; exact congrArg Prod.fst hB
                  have e3 : (b.2 == d.2) = true := by rw [beq_iff_eq]; exact congrArg Prod.snd hB
                  clear hA hB
                  go_quiet (fail)
                  go_wp2
                  go_meet
                  exact ⟨by rw [HT.out], below_drewN hbel _⟩
                · rcases ne_parts hB with hq | ⟨hq1, hq2⟩
                  · skip
                    have HT : Hid (decide (a = c ∧ b = d) = false) := decide_eq_false fun h => hB h.2
                    have e0 : (a.1 == c.1) = true := by rw [beq_iff_eq]; exact congrArg Prod.fst hA
                    have e1 : (a.2 == c.2) = true := by rw [beq_iff_eq]; exact congrArg Prod.snd hA
                    have e2 : (b.1 == d.1) = false := by rw [beq_eq_false_iff_ne]; exact hq
                    clear hA hB
                    go_quiet (fail)
                    go_wp2
                    go_meet
                    exact ⟨by rw [HT.out], below_drewN hbel _⟩
                  · skip
                    have HT : Hid (decide (a = c ∧ b = d) = false) := decide_eq_false fun h => hB h.2
                    have e0 : (a.1 == c.1) = true := by rw [beq_iff_eq]; exact congrArg Prod.fst hA
                    have e1 : (a.2 == c.2) = true := by rw [beq_iff_eq]; exact congrArg Prod.snd hA
                    have e2 : (b.1 == d.1) = true := by rw [beq_iff_eq]; exact hq1
                    have e3 : (b.2 == d.2) = false := by rw [beq_eq_false_iff_ne]; exact hq2
                    clear hA hB
                    go_quiet (fail)
                    go_wp2
                    go_meet
                    exact ⟨by rw [HT.out], below_drewN hbel _⟩
              · rcases ne_parts hA with hq | ⟨hq1, hq2⟩
                · skip
                  have HT : Hid (decide (a = c ∧ b = d) = false) := decide_eq_false fun h => hA h.1
                  have e0 : (a.1 == c.1) = false := by rw [beq_eq_false_iff_ne]; exact hq
                  clear hA
                  go_quiet (fail)
                  go_wp2
                  go_meet
                  exact ⟨by rw [HT.out], below_drewN hbel _⟩
                · skip
                  have HT : Hid (decide (a = c ∧ b = d) = false) := decide_eq_false fun h => hA h.1
                  have e0 : (a.1 == c.1) = true := by rw [beq_iff_eq]; exact hq1
                  have e1 : (a.2 == c.2) = false := by rw [beq_eq_false_iff_ne]; exact hq2
                  clear hA
                  go_quiet (fail)
                  go_wp2
                  go_meet
                  exact ⟨by rw [HT.out], below_drewN hbel _⟩
            case rest =>
              obtain ⟨rfl, hbel2⟩ := hcut
              go_wp2
              go_cut [8] from 20 to 72 (fun p wx => p = .bool (decide (a = d ∧ b = c)) ∧ Below w1.heap.size w1 wx)
              case first =>
                obtain ⟨b1, b2, b3, b4, b5, b6, b7, b8⟩ := HK.out _ hbel2
                clear hbel
                have hbel := hbel2
                by_cases hA : a = d
                · by_cases hB : b = c
                  · skip
                    have HT : Hid (decide (a = d ∧ b = c) = true) := decide_eq_true ⟨hA, hB⟩
                    have e0 : (a.1 == d.1) = true := by rw [beq_iff_eq]; exact congrArg Prod.fst hA
                    have e1 : (a.2 == d.2) = true := by rw [beq_iff_eq]; exact congrArg Prod.snd hA
                    have e2 : (b.1 == c.1) = true := by rw [beq_iff_eq]; exact congrArg Prod.fst hB
                    have e3 : (b.2 == c.2) = true := by rw [beq_iff_eq]; exact congrArg Prod.snd hB
                    clear hA hB
                    go_quiet (fail)
                    go_wp2
                    go_meet
                    exact ⟨by rw [HT.out], below_drewN hbel _⟩
                  · rcases ne_parts hB with hq | ⟨hq1, hq2⟩
                    · skip
                      have HT : Hid (decide (a = d ∧ b = c) = false) := decide_eq_false fun h => hB h.2
                      have e0 : (a.1 == d.1) = true := by rw [beq_iff_eq]; exact congrArg Prod.fst hA
                      have e1 : (a.2 == d.2) = true := by rw [beq_iff_eq]; exact congrArg Prod.snd hA
                      have e2 : (b.1 == c.1) = false := by rw [beq_eq_false_iff_ne]; exact hq
                      clear hA hB
                      go_quiet (fail)
                      go_wp2
                      go_meet
                      exact ⟨by rw [HT.out], below_drewN hbel _⟩
                    · skip
                      have HT : Hid (decide (a = d ∧ b = c) = false) := decide_eq_false fun h => hB h.2
                      have e0 : (a.1 == d.1) = true := by rw [beq_iff_eq]; exact congrArg Prod.fst hA
                      have e1 : (a.2 == d.2) = true := by rw [beq_iff_eq]; exact congrArg Prod.snd hA
                      have e2 : (b.1 == c.1) = true := by rw [beq_iff_eq]; exact hq1
                      have e3 : (b.2 == c.2) = false := by rw [beq_eq_false_iff_ne]; exact hq2
                      clear hA hB
                      go_quiet (fail)
                      go_wp2
                      go_meet
                      exact ⟨by rw [HT.out], below_drewN hbel _⟩
                · rcases ne_parts hA with hq | ⟨hq1, hq2⟩
                  · skip
                    have HT : Hid (decide (a = d ∧ b = c) = false) := decide_eq_false fun h => hA h.1
                    have e0 : (a.1 == d.1) = false := by rw [beq_eq_false_iff_ne]; exact hq
                    clear hA
                    go_quiet (fail)
                    go_wp2
                    go_meet
                    exact ⟨by rw [HT.out], below_drewN hbel _⟩
                  · skip
                    have HT : Hid (decide (a = d ∧ b = c) = false) := decide_eq_false fun h => hA h.1
                    have e0 : (a.1 == d.1) = true := by rw [beq_iff_eq]; exact hq1
                    have e1 : (a.2 == d.2) = false := by rw [beq_eq_false_iff_ne]; exact hq2
                    clear hA
                    go_quiet (fail)
                    go_wp2
                    go_meet
                    exact ⟨by rw [HT.out], below_drewN hbel _⟩
              case rest =>
                obtain ⟨rfl, hbel3⟩ := hcut
                by_cases hS : SameStep a b c d
                · have HF : Hid (onceB ps = false) := by
                    show _ = _
                    have hx := sAt_some HCc.out (by rw [← HM.out]; exact HDd.out)
                    have hy := sAt_some HA.out (by rw [← HK'.out]; exact HB.out)
                    rw [stepN_same.2 hS] at hy
                    have := not_once (i := m) (j := k') (by have := HM.out; have := HK'.out; omega) hx hy
                    cases h : onceB ps with
                    | false => rfl
                    | true => exact absurd ((onceB_iff ps).1 h) this
                  by_cases hA : a = c ∧ b = d
                  · rw [decide_eq_true hA]
                    go_wp2
                    go_ret
                    exact ⟨by rw [HF.out]; rfl, hb1.trans (hbel3.mono hz1)⟩
                  · have hB : a = d ∧ b = c := by
                      rcases hS with h | h
                      · exact absurd h hA
                      · exact h
                    rw [decide_eq_false hA, decide_eq_true hB]
                    go_wp2
                    go_ret
                    exact ⟨by rw [HF.out]; rfl, hb1.trans (hbel3.mono hz1)⟩
                · have hA : ¬ (a = c ∧ b = d) := fun h => hS (.inl h)
                  have hB : ¬ (a = d ∧ b = c) := fun h => hS (.inr h)
                  rw [decide_eq_false hA, decide_eq_false hB]
                  have HDi2 : Hid (Differ ps m (k + 1)) := differ_step HDi.out HK'.out HA.out HB.out HCc.out (by rw [← HM.out]; exact HDd.out) hS
                  clear hA hB hS
                  go_wp2
                  go_roundw
                  case rel => exact ⟨k + 1, by omega, by omega, by go_num, HDi2, hbel3⟩
                  case measure => simp [intOf]; omega
          · obtain rfl : k = n := by omega
            have HO2 : Hid (OnceTo ps (k + 1)) := differ_end HM.out HOn.out HDi.out
            go_wp2
            go_roundw
            case rel => exact ⟨k + 1, by omega, by omega, by go_num, HO2, hbel⟩
            case measure => simp [intOf]; omega
      · obtain rfl : n = N := by omega
        have HF : Hid (onceB ps = true) := (onceB_iff ps).2 (once_to (by rw [HP.out]; exact HOn.out))
        go_wp2
        go_ret
        exact ⟨by rw [HF.out]; rfl, hb1.trans (hbelO.mono hz1)⟩
end Go.Proofs.Ytmlmihneanobdaa
