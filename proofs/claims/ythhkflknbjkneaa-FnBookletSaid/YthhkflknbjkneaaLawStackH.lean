/- The law FnBooklet, walked: it returns true. Conditions: each theorem's own premises. -/
import Derived.Test.YthhkflknbjkneaaPlainB
import Derived.Test.YthhkflknbjkneaaDrawS
namespace Go.Proofs.Ythhkflknbjkneaa
open Go.RowKit
theorem page_bd {l : List UInt8} {row col : Int} {k : Nat} (h : lv l row col = some k) : 1 ≤ frontC l row col ∧ frontC l row col ≤ 64 ∧ 1 ≤ backC l row col ∧ backC l row col ≤ 64 := by
  obtain ⟨q, hq, hq1, _⟩ := upper_bd h
  rw [frontC_some h, backC_some h, hq]
  cases (celOf l k).up <;> simp <;> omega
theorem r_pages : frontC (bl ⟨#[82]⟩) 0 0 + frontC (bl ⟨#[82]⟩) 0 1 = 5 ∧ backC (bl ⟨#[82]⟩) 0 0 + backC (bl ⟨#[82]⟩) 0 1 = 5 := by decide
theorem r_level : (∃ k, lv (bl ⟨#[82]⟩) 0 0 = some k) ∧ (∃ k, lv (bl ⟨#[82]⟩) 0 1 = some k) := ⟨⟨(lv (bl ⟨#[82]⟩) 0 0).getD 0, by decide⟩, ⟨(lv (bl ⟨#[82]⟩) 0 1).getD 0, by decide⟩⟩
set_option maxRecDepth 100000 in
set_option maxHeartbeats 2000000 in
theorem fnBooklet_walk (w : World) (a0 : Option Addr) (len0 cap0 : Nat) (z0 : List Int) (w0 : IsRow .u8 w a0 len0 cap0 z0) :
    Calls Try.prog 8 #[.slice a0 len0 cap0] w fun e w' => e = .returned (.bool true) ∧ Below w.heap.size w w' := by
  have HW := Lib.hid w0
  clear w0
  by_cases hl : 1048576 < len0
  · go_enter Try.func8, Try.ntmps8
    go_wp2
    go_ret
    exact ⟨rfl, Below.refl _ _⟩
  · go_enter Try.func8, Try.ntmps8
    go_wp2_with fail
    refine (drawSheetLevel _ _ _ _ _ HW.out HW.out.le).mono ?_
    rintro e w1 ⟨s, row, col, rfl, hs, r1, r2, c1, c2, hb1⟩
    have hz1 := hb1.size
    have hsl : s.size ≤ maxLen := by unfold maxLen; omega
    have C1 := fun w => implSheetLevel s row col w hsl
    have C2 := fun w => specSheetLevel s row col w hsl
    cases hv : lv (bl s) row col with
    | none =>
      rw [hv] at C1 C2
      have e0 : lvI none = -1 := rfl
      rw [e0] at C1 C2
      have HC1 := Lib.hid C1
      have HC2 := Lib.hid C2
      clear C1 C2 hv
      go_wp2_with fail
      refine (HC1.out _).mono ?_
      rintro e w2 ⟨rfl, hb2⟩
      have hz2 := hb2.size
      go_wp2_with fail
      refine (HC2.out _).mono ?_
      rintro e w3 ⟨rfl, hb3⟩
      go_wp2_with fail
      go_ret
      exact ⟨rfl, hb1.trans ((hb2.trans (hb3.mono hz2)).mono hz1)⟩
    | some k =>
      rw [hv] at C1 C2
      have e0 : lvI (some k) = (k : Int) := rfl
      rw [e0] at C1 C2
      have hok := (lv_in hv).1
      have hk := lv_lt hv
      have hk32 := (stackC_bd hok).2
      have C4 := fun w => implSheetSize s w hsl
      obtain ⟨R, hR⟩ : ∃ R, R = sheetRows (bl s) := ⟨_, rfl⟩
      obtain ⟨C, hC⟩ : ∃ C, C = sheetCols (bl s) := ⟨_, rfl⟩
      have hR' : R = rowsOf (bl s) := by rw [hR]; unfold sheetRows; rw [if_pos hok]
      have hC' : C = colsOf (bl s) := by rw [hC]; unfold sheetCols; rw [if_pos hok]
      rw [← hR, ← hC, hok] at C4
      have hRb : 1 ≤ R ∧ R ≤ 32 := by rw [hR']; exact rowsOf_bd (bl s) (ok_is hok).2
      have hCb : 1 ≤ C ∧ C ≤ 32 := by rw [hC']; exact colsOf_bd (bl s) (ok_is hok).2
      obtain ⟨P, hP⟩ : ∃ P : Nat → Int, P = fun m => sumN m (bothC (bl s) C) := ⟨_, rfl⟩
      have hP0 : P 0 = 0 := by rw [hP]; rfl
      have HPS : Hid (∀ i j : Nat, i < R → j < C → ∃ f b : Int, (∀ w, Calls Try.prog 10 #[.string s, .int .i64 i, .int .i64 j] w fun e w' => e = .returned (.int .i64 f) ∧ Below w.heap.size w w') ∧ (∀ w, Calls Try.prog 12 #[.string s, .int .i64 i, .int .i64 j] w fun e w' => e = .returned (.int .i64 b) ∧ Below w.heap.size w w') ∧ P (i * C + (j + 1)) = P (i * C + j) + f + b ∧ 1 ≤ f ∧ f ≤ 64 ∧ 1 ≤ b ∧ b ≤ 64) := fun i j hi hj => by
        obtain ⟨k', hk'⟩ := lv_some hok (row := i) (col := j) (decide_eq_true (by rw [← hR', ← hC']; omega))
        obtain ⟨p1, p2, p3, p4⟩ := page_bd hk'
        refine ⟨_, _, fun w => implPageFront s i j w hsl, fun w => implPageBack s i j w hsl, ?_, p1, p2, p3, p4⟩
        rw [hP, ← Nat.add_assoc]
        show sumN _ _ + bothC (bl s) C (i * C + j) = _
        rw [both_at _ hj, Int.add_assoc]
      obtain ⟨M, hM⟩ : ∃ M : Nat, M = 2 * (R * C) := ⟨_, rfl⟩
      have hM64 : M ≤ 64 := by
        have := stackC_length (bl s)
        rw [← area_eq _ (ok_is hok).1, ← hR', ← hC'] at this
        omega
      have hPT : 2 * P (R * C) = (M : Int) * ((M : Int) + 1) := by
        have := pages_sum hok
        rw [← hR', ← hC'] at this
        rw [hP, hM]
        exact this
      obtain ⟨x1, x2⟩ := r_pages
      obtain ⟨⟨k1, hk1⟩, ⟨k2, hk2⟩⟩ := r_level
      obtain ⟨p1, p2, p3, p4⟩ := page_bd hk1
      obtain ⟨p5, p6, p7, p8⟩ := page_bd hk2
      have D1 := fun c w => implPageFront ⟨#[82]⟩ 0 c w (by decide)
      have D2 := fun c w => implPageBack ⟨#[82]⟩ 0 c w (by decide)
      obtain ⟨F, hF⟩ : ∃ F : Int → Int, F = fun c => frontC (bl ⟨#[82]⟩) 0 c := ⟨_, rfl⟩
      obtain ⟨B, hB⟩ : ∃ B : Int → Int, B = fun c => backC (bl ⟨#[82]⟩) 0 c := ⟨_, rfl⟩
      have D1 : ∀ (c : Int) w, Calls Try.prog 10 #[.string ⟨#[82]⟩, .int .i64 0, .int .i64 c] w fun e w' => e = .returned (.int .i64 (F c)) ∧ Below w.heap.size w w' := by rw [hF]; exact D1
      have D2 : ∀ (c : Int) w, Calls Try.prog 12 #[.string ⟨#[82]⟩, .int .i64 0, .int .i64 c] w fun e w' => e = .returned (.int .i64 (B c)) ∧ Below w.heap.size w w' := by rw [hB]; exact D2
      have x1 : F 0 + F 1 = 5 := by rw [hF]; exact x1
      have x2 : B 0 + B 1 = 5 := by rw [hB]; exact x2
      have p1 : 1 ≤ F 0 ∧ F 0 ≤ 64 := by rw [hF]; exact ⟨p1, p2⟩
      have p2 : 1 ≤ F 1 ∧ F 1 ≤ 64 := by rw [hF]; exact ⟨p5, p6⟩
      have p3 : 1 ≤ B 0 ∧ B 0 ≤ 64 := by rw [hB]; exact ⟨p3, p4⟩
      have p4 : 1 ≤ B 1 ∧ B 1 ≤ 64 := by rw [hB]; exact ⟨p7, p8⟩
      have HD1 := Lib.hid D1
      have HD2 := Lib.hid D2
      have HC1 := Lib.hid C1
      have HC2 := Lib.hid C2
      have HC4 := Lib.hid C4
      have HM := Lib.hid hM
      have HPT := Lib.hid hPT
      have HP0 := Lib.hid hP0
      have hq32 : R * C ≤ 32 := by omega
      clear D1 D2 C1 C2 C4 hv hR hC hR' hC' hP hk1 hk2 hF hB p5 p6 p7 p8 hM hPT hok hP0
      go_wp2_with fail
      refine (HC1.out _).mono ?_
      rintro e w2 ⟨rfl, hb2⟩
      have hz2 := hb2.size
      go_wp2_with fail
      refine (HC2.out _).mono ?_
      rintro e w3 ⟨rfl, hb3⟩
      have hz3 := hb3.size
      have tk : ((k : Int) != (k : Int)) = false := by simp
      have tk2 : decide ((k : Int) < 0) = false := decide_eq_false (by omega)
      go_wp2_with fail
      refine (HC4.out _).mono ?_
      rintro e w4 ⟨rfl, hb4⟩
      have hz4 := hb4.size
      have hb14 : Below w.heap.size w w4 := hb1.trans ((hb2.trans ((hb3.trans (hb4.mono hz3)).mono hz2)).mono hz1)
      have hz14 := hb14.size
      clear hb1 hb2 hb3 hb4
      go_wp2_with fail
      go_loopw [11, 12] (fun o i wr => ∃ m : Nat, m ≤ R ∧ i = .int .i64 m ∧ o = .int .i64 (P (m * C)) ∧ 0 ≤ P (m * C) ∧ P (m * C) ≤ 128 * ((m * C : Nat) : Int) ∧ Below w4.heap.size w4 wr) (fun _ i _ => R - (intOf i).toNat)
      case atStart => exact ⟨0, Nat.zero_le _, rfl, by rw [Nat.zero_mul, HP0.out], by rw [Nat.zero_mul, HP0.out]; omega, by rw [Nat.zero_mul, HP0.out]; omega, Below.refl _ _⟩
      case round =>
        obtain ⟨m, hm, rfl, rfl, hp1, hp2, hbel⟩ := hrel
        have hzr := hbel.size
        by_cases hlt : m < R
        · obtain ⟨q, hq⟩ : ∃ q, q = m * C := ⟨_, rfl⟩
          have hqs : (m + 1) * C = q + C := by rw [Nat.succ_mul, hq]
          have hqb : q + C ≤ 32 := by
            have : (m + 1) * C ≤ R * C := Nat.mul_le_mul_right C (by omega)
            omega
          rw [← hq] at hp1 hp2 ⊢
          go_wp2_with fail
          go_loopw [11, 13] (fun o i wq => ∃ j : Nat, j ≤ C ∧ i = .int .i64 j ∧ o = .int .i64 (P (q + j)) ∧ 0 ≤ P (q + j) ∧ P (q + j) ≤ 128 * ((q + j : Nat) : Int) ∧ Below w4.heap.size w4 wq) (fun _ i _ => C - (intOf i).toNat)
          case atStart => exact ⟨0, Nat.zero_le _, rfl, rfl, hp1, hp2, hbel⟩
          case round =>
            obtain ⟨j, hj, rfl, rfl, hp3, hp4, hbelq⟩ := hrel
            have hzq := hbelq.size
            by_cases hlt2 : j < C
            · obtain ⟨f, b, CF, CB, hPS, f1, f2, b1, b2⟩ := HPS.out m j hlt hlt2
              rw [← hq] at hPS
              have HF := Lib.hid CF
              have HB := Lib.hid CB
              have HS := Lib.hid hPS
              obtain ⟨T, hT⟩ : ∃ T, T = P (q + j) := ⟨_, rfl⟩
              rw [← hT] at hp3 hp4 ⊢
              have HT := Lib.hid hT
              clear CF CB hPS hT
              have hacc := hbelq
              go_wp2_with (first | (go_at_call 10; refine (HF.out _).mono ?_; rintro e w5 ⟨rfl, hb5⟩; first | have hacc := hacc.trans (hb5.mono hacc.size) | have hacc := hacc.drew.trans (hb5.mono hacc.drew.size)) | (go_at_call 12; refine (HB.out _).mono ?_; rintro e w6 ⟨rfl, hb6⟩; first | have hacc := hacc.trans (hb6.mono hacc.size) | have hacc := hacc.drew.trans (hb6.mono hacc.drew.size)))
              refine ⟨⟨j + 1, by omega, by go_num, by rw [HS.out, ← HT.out], by rw [HS.out, ← HT.out]; omega, by rw [HS.out, ← HT.out]; omega, ?_⟩, by simp [intOf]; omega⟩
              first | exact hacc | exact below_drewN hacc _
            · obtain rfl : j = C := by omega
              go_wp2_with fail
              refine ⟨⟨m + 1, by omega, by go_num, by rw [hqs], by rw [hqs]; exact hp3, by rw [hqs]; exact hp4, hbelq⟩, by simp [intOf]; omega⟩
        · obtain rfl : m = R := by omega
          have e1 : (2 * (m : Int)) * (C : Int) = (M : Int) := by rw [HM.out]; push_cast; rw [Int.mul_assoc]
          obtain ⟨T, hT⟩ : ∃ T, T = P (m * C) := ⟨_, rfl⟩
          have hV := HPT.out
          rw [← hT] at hp1 hp2 hV ⊢
          obtain ⟨V, hV2⟩ : ∃ V, V = (M : Int) * ((M : Int) + 1) := ⟨_, rfl⟩
          rw [← hV2] at hV
          have e2 : IntKind.i64.wrap ((2 * (m : Int)) * (C : Int)) = (M : Int) := by rw [e1, IntKind.wrap_i64]; omega
          have e3 : IntKind.i64.wrap ((M : Int) * ((M : Int) + 1)) = V := by rw [← hV2, IntKind.wrap_i64]; omega
          have tv : (V == V) = true := by simp
          have t5 : (F 0 + F 1 == 5) = true := by rw [beq_iff_eq]; exact x1
          have t6 : (B 0 + B 1 == 5) = true := by rw [beq_iff_eq]; exact x2
          obtain ⟨p5, p6⟩ := p1
          obtain ⟨p7, p8⟩ := p2
          obtain ⟨p9, p10⟩ := p3
          obtain ⟨p11, p12⟩ := p4
          have hacc := hb14.trans (hbel.mono hz14)
          go_wp2_with (first | (go_at_call 10; refine (HD1.out _ _).mono ?_; rintro e w5 ⟨rfl, hb5⟩; first | have hacc := hacc.trans (hb5.mono hacc.size) | have hacc := hacc.drew.trans (hb5.mono hacc.drew.size)) | (go_at_call 12; refine (HD2.out _ _).mono ?_; rintro e w6 ⟨rfl, hb6⟩; first | have hacc := hacc.trans (hb6.mono hacc.size) | have hacc := hacc.drew.trans (hb6.mono hacc.drew.size)))
          go_ret
          first | exact ⟨rfl, hacc⟩ | exact ⟨rfl, below_drewN hacc _⟩
end Go.Proofs.Ythhkflknbjkneaa
