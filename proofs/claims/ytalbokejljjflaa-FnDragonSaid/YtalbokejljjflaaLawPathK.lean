/- The law FnDragon, walked: it returns true. Conditions: each theorem's own premises. -/
import Derived.Test.YtalbokejljjflaaLawPathI
import Derived.Test.YtalbokejljjflaaLawWordG
import Derived.Test.YtalbokejljjflaaPlainD
import Derived.Deep.RegionHeld3
namespace Go.Proofs.Ytalbokejljjflaa
open Go.RowKit
set_option maxRecDepth 100000 in
set_option maxHeartbeats 4000000 in
theorem fnDragon_walk (w : World) (a0 : Option Addr) (len0 cap0 : Nat) (z0 : List Int) (w0 : IsRow .u8 w a0 len0 cap0 z0) :
    Calls Try.prog 4 #[.slice a0 len0 cap0] w fun e w' => e = .returned (.bool true) ∧ Below w.heap.size w w' := by
  have HW := Lib.hid w0
  clear w0
  by_cases hl : 1048576 < len0
  · go_enter Try.func4, Try.ntmps4
    go_wp2
    go_ret
    exact ⟨rfl, Below.refl _ _⟩
  · go_enter Try.func4, Try.ntmps4
    go_wp2_with fail
    refine (drawWordValid _ _ _ _ _ HW.out HW.out.le).mono ?_
    rintro e w1 ⟨s, rfl, hs, hb1⟩
    have hz1 := hb1.size
    go_wp2_with fail
    refine (implWordValid s _ (by omega)).mono ?_
    rintro e w2 ⟨rfl, hb2⟩
    have hz2 := hb2.size
    have hb12 := hb1.trans (hb2.mono hz1)
    have hz12 := hb12.size
    clear hb1 hb2
    cases hok : wordOk (bl s) with
    | false =>
      have HOK := Lib.hid hok
      clear hok
      go_wp2_with fail
      refine (specWordValid s _ (by omega)).mono ?_
      rintro e w3 ⟨rfl, hb3⟩
      rw [HOK.out]
      go_wp2_with fail
      go_ret
      exact ⟨rfl, hb12.trans (hb3.mono hz12)⟩
    | true =>
      have HOK := Lib.hid hok
      have hc : creas (bl s) = true := by
        unfold wordOk at hok
        simp only [Bool.and_eq_true] at hok
        exact hok.1.1
      have hp : plen (bl s).length = true := by
        unfold wordOk at hok
        simp only [Bool.and_eq_true] at hok
        exact hok.1.2
      have hs63 := creas_len hc
      obtain ⟨k, hk6, hk⟩ := plen_pow _ hp
      have hchk := word_chk (n := k) (by omega) hok hk
      have hend := chk_end hchk
      have h1 : onceL (bl s) = true := by
        unfold onceL
        rw [hc, (onceB_iff _).2 (chk_once hchk)]
        rfl
      have h2 : 0 ≤ visitsI (bl s) ∧ visitsI (bl s) ≤ 2 := by
        have := chk_two hchk
        unfold visitsI
        rw [if_pos hc]
        omega
      have h3 : foldsNum s.size = (k : Int) := foldsNum_hit k _ hk6 (by rw [← bl_length, hk]; rfl)
      obtain ⟨P, hP⟩ : ∃ P, P = endP (bl s) := ⟨_, rfl⟩
      obtain ⟨V, hV⟩ : ∃ V, V = visitsI (bl s) := ⟨_, rfl⟩
      have pb := endP_bd (bl s)
      rw [← endP_yes hc, ← hP] at hend
      rw [← hP] at pb
      rw [← hV] at h2
      have C1 := fun w => implPathEnd s w (by omega)
      have C2 := fun w => foldsIn s.size w
      have C3 := fun w => implPathOnce s w (by unfold maxLen; omega)
      have C4 := fun w => implPathVisits s w (by unfold maxLen; omega)
      have C5 := fun w => power k w (by omega)
      rw [hc, ← hP] at C1
      rw [h3] at C2
      rw [h1] at C3
      rw [← hV] at C4
      obtain ⟨Q, hQ⟩ : ∃ Q, Q = pow2 k := ⟨_, rfl⟩
      have hQb : Q ≤ 64 := by rw [hQ]; exact Nat.le_trans (pow2_le hk6) (by decide)
      rw [← hQ] at C5
      have hend' : P.1 * P.1 + P.2 * P.2 = (Q : Int) := by rw [hend, hQ]; rfl
      obtain ⟨p1, p2⟩ := P
      simp only at hend' pb
      obtain ⟨A1, m1⟩ : ∃ A, p1 * p1 = A := ⟨_, rfl⟩
      obtain ⟨A2, m2⟩ : ∃ A, p2 * p2 = A := ⟨_, rfl⟩
      have b1 := sq_bd pb.1 pb.2.1
      have b2 := sq_bd pb.2.2.1 pb.2.2.2
      rw [m1] at b1
      rw [m2] at b2
      rw [m1, m2] at hend'
      have q1 : IntKind.i64.wrap (p1 * p1) = A1 := by rw [m1, IntKind.wrap_i64]; omega
      have q2 : IntKind.i64.wrap (p2 * p2) = A2 := by rw [m2, IntKind.wrap_i64]; omega
      have q3 : IntKind.i64.wrap (A1 + A2) = (Q : Int) := by rw [hend', IntKind.wrap_i64]; omega
      have q4 : IntKind.i64.wrap A1 = A1 := by rw [IntKind.wrap_i64]; omega
      have q5 : IntKind.i64.wrap A2 = A2 := by rw [IntKind.wrap_i64]; omega
      have q6 : IntKind.i64.wrap (Q : Int) = (Q : Int) := by rw [IntKind.wrap_i64]; omega
      have q7 : ((Q : Int) == (Q : Int)) = true := by simp
      have k0 : (0 : Int) ≤ (k : Int) := by omega
      obtain ⟨v1, v2⟩ := h2
      have HC1 := Lib.hid C1
      have HC2 := Lib.hid C2
      have HC3 := Lib.hid C3
      have HC4 := Lib.hid C4
      have HC5 := Lib.hid C5
      clear C1 C2 C3 C4 C5 hc hp hk hchk hend h1 h3 hP hV hQ hok pb
      go_wp2_with fail
      refine (specWordValid s _ (by omega)).mono ?_
      rintro e w3 ⟨rfl, hb3⟩
      have hb13 := hb12.trans (hb3.mono hz12)
      have hz13 := hb13.size
      clear hb12 hb3
      rw [HOK.out]
      go_wp2_with fail
      refine (HC1.out _).mono ?_
      rintro e w4 ⟨rfl, hb4⟩
      have hb14 := hb13.trans (hb4.mono hz13)
      have hz14 := hb14.size
      clear hb13 hb4
      go_wp2_with fail
      refine (HC2.out _).mono ?_
      rintro e w5 ⟨rfl, rfl⟩
      obtain ⟨c1, c2⟩ := PAt.new w4 (p1, p2) 25
      have HK : Hid (∀ w', Below (w4.alloc (.cells #[.int .i64 p1, .int .i64 p2] 25)).heap.size (w4.alloc (.cells #[.int .i64 p1, .int .i64 p2] 25)) w' → w'.cell? ⟨w4.heap.size, 0, none⟩ = some (.int .i64 p1) ∧ w'.cell? ⟨w4.heap.size, 1, none⟩ = some (.int .i64 p2)) := fun w' hb =>
        have d := (PAt.new w4 (p1, p2) 25).below hb
        ⟨d.a1, d.a2⟩
      have hbf0 : Below w.heap.size w (w4.alloc (.cells #[.int .i64 p1, .int .i64 p2] 25)) := hb14.alloc hz14 _
      clear hb14 c1 c2
      go_wp2
      generalize hW0 : w4.alloc (.cells #[.int .i64 p1, .int .i64 p2] 25) = W0 at HK hbf0 ⊢
      clear hW0
      have hz0 := hbf0.size
      go_region_held3 (fun w' => w'.cell? ⟨w4.heap.size, 0, none⟩ = some (.int .i64 p1) ∧ w'.cell? ⟨w4.heap.size, 1, none⟩ = some (.int .i64 p2))
        (first | exact HK.out _ (Below.refl _ _) | exact HK.out _ ((Below.refl _ _).drew) | exact HK.out _ hacc)
        ((first
          | (go_at_call 11; refine (HC3.out _).mono ?_; rintro e w6 ⟨rfl, hb6⟩; have hacc : Below W0.heap.size W0 w6 := (by first | exact hacc.trans (hb6.mono hacc.size) | exact (Below.refl _ W0).drew.trans hb6))
          | (go_at_call 12; refine (HC4.out _).mono ?_; rintro e w6 ⟨rfl, hb6⟩; have hacc : Below W0.heap.size W0 w6 := (by first | exact hacc.trans (hb6.mono hacc.size) | exact (Below.refl _ W0).drew.trans hb6))
          | (go_at_call 17; refine (HC5.out _).mono ?_; rintro e w6 ⟨rfl, rfl⟩)))
      all_goals
        go_wp2
        go_ret
        exact ⟨rfl, hbf0.trans (hacc.mono hz0)⟩
end Go.Proofs.Ytalbokejljjflaa
