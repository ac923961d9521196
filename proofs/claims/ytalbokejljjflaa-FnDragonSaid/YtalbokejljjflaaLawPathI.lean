/- The law FnPathSwap, walked: it returns true. Conditions: each theorem's own premises. -/
import Derived.Test.YtalbokejljjflaaPathH
import Derived.Test.YtalbokejljjflaaDrawP
import Derived.Test.YtalbokejljjflaaPlainW
namespace Go.Proofs.Ytalbokejljjflaa
open Go.RowKit
theorem creas_swp (l : List UInt8) : creas (l.map swp) = creas l := by
  unfold creas
  rw [List.length_map, List.all_map]
  congr 1
  exact List.all_congr rfl fun x => isMV_swp x
theorem creas_mv {l : List UInt8} (h : creas l = true) : l.all isMV = true := by
  unfold creas at h
  rw [Bool.and_eq_true] at h
  exact h.1
theorem endP_swp {l : List UInt8} (h : creas l = true) : endP (l.map swp) = ((endP l).1, -(endP l).2) := by
  rw [endP_yes h, endP_yes (by rw [creas_swp]; exact h), List.length_map, end_swap (creas_mv h)]
  rfl
theorem endP_bd (l : List UInt8) : -64 ≤ (endP l).1 ∧ (endP l).1 ≤ 64 ∧ -64 ≤ (endP l).2 ∧ (endP l).2 ≤ 64 := by
  cases h : creas l with
  | false => rw [endP_no h]; decide
  | true =>
    have h2 := h
    unfold creas at h2
    rw [Bool.and_eq_true, decide_eq_true_eq] at h2
    rw [endP_yes h]
    obtain ⟨_, b⟩ := st_bd l l.length (Nat.le_refl _)
    omega
theorem endP_far {l : List UInt8} (h : creas l = true) : (endP (otherL l)).1 * (endP (otherL l)).1 + (endP (otherL l)).2 * (endP (otherL l)).2 = (endP l).1 * (endP l).1 + (endP l).2 * (endP l).2 := by
  rw [endP_yes h, endP_yes (by rw [creas_otherL]; exact h), otherL_length]
  exact far_other (creas_mv h)
theorem onceL_other {l : List UInt8} (h : creas l = true) : onceL (otherL l) = onceL l := by
  unfold onceL
  rw [creas_otherL]
  congr 1
  rw [Bool.eq_iff_iff, onceB_iff, onceB_iff]
  exact once_other (creas_mv h)
theorem onceL_swp {l : List UInt8} (h : creas l = true) : onceL (l.map swp) = onceL l := by
  unfold onceL
  rw [creas_swp]
  congr 1
  rw [Bool.eq_iff_iff, onceB_iff, onceB_iff]
  exact once_swap (creas_mv h)
theorem visitsI_other {l : List UInt8} (h : creas l = true) : visitsI (otherL l) = visitsI l := by
  unfold visitsI
  rw [creas_otherL, most_other (creas_mv h)]
theorem sq_bd {x : Int} (h1 : -64 ≤ x) (h2 : x ≤ 64) : 0 ≤ x * x ∧ x * x ≤ 4096 := by
  have key : ∀ n : Nat, n ≤ 64 → n * n ≤ 4096 := fun n hn => Nat.mul_le_mul hn hn
  have h3 : x * x = ((x.natAbs * x.natAbs : Nat) : Int) := Int.natAbs_mul_self.symm
  have h4 := key x.natAbs (by omega)
  rw [h3]
  omega
/-- Block g holds a place. -/
structure PAt (w : World) (g : Nat) (p : Int × Int) : Prop where
  a1 : w.cell? ⟨g, 0, none⟩ = some (.int .i64 p.1)
  a2 : w.cell? ⟨g, 1, none⟩ = some (.int .i64 p.2)
theorem PAt.new (w : World) (p : Int × Int) (T : TypeId) : PAt (w.alloc (.cells #[.int .i64 p.1, .int .i64 p.2] T)) w.heap.size p := ⟨World.cell?_alloc_mark w _ T (0, 0) 0, World.cell?_alloc_mark w _ T (0, 0) 1⟩
theorem PAt.lt {w : World} {g : Nat} {p : Int × Int} (h : PAt w g p) : g < w.heap.size := World.block_lt_of_cell? w _ h.a1
theorem PAt.keep {w w' : World} {g : Nat} {p : Int × Int} (h : PAt w g p) (hb : w'.heap[g]? = w.heap[g]?) : PAt w' g p := ⟨(World.cell?_of_block (a := ⟨g, 0, none⟩) hb).trans h.a1, (World.cell?_of_block (a := ⟨g, 1, none⟩) hb).trans h.a2⟩
theorem PAt.below {w w' : World} {g : Nat} {p : Int × Int} (h : PAt w g p) (hb : Below w.heap.size w w') : PAt w' g p := h.keep (hb.block g h.lt)
theorem PAt.more {w : World} {g : Nat} {p : Int × Int} (h : PAt w g p) : ∀ o, PAt (w.alloc o) g p := fun o => h.keep (Below.heap_alloc w o g h.lt)
set_option maxRecDepth 100000 in
set_option maxHeartbeats 4000000 in
theorem fnPathSwap_walk (w : World) (a0 : Option Addr) (len0 cap0 : Nat) (z0 : List Int) (w0 : IsRow .u8 w a0 len0 cap0 z0) :
    Calls Try.prog 3 #[.slice a0 len0 cap0] w fun e w' => e = .returned (.bool true) ∧ Below w.heap.size w w' := by
  have HW := Lib.hid w0
  clear w0
  by_cases hl : 1048576 < len0
  · go_enter Try.func3, Try.ntmps3
    go_wp2
    go_ret
    exact ⟨rfl, Below.refl _ _⟩
  · go_enter Try.func3, Try.ntmps3
    go_wp2_with fail
    refine (drawPathEnd _ _ _ _ _ HW.out HW.out.le).mono ?_
    rintro e w1 ⟨s, rfl, hs, hb1⟩
    have hz1 := hb1.size
    have C1 := fun w => implPathEnd s w (by omega)
    have C2 := fun w => specPathEnd s w (by omega)
    cases hok : creas (bl s) with
    | false =>
      have he : endP (bl s) = (0, 0) := endP_no hok
      rw [hok, he] at C1 C2
      have HC1 := Lib.hid C1
      have HC2 := Lib.hid C2
      clear C1 C2 hok he
      go_wp2_with fail
      refine (HC1.out _).mono ?_
      rintro e w2 ⟨rfl, hb2⟩
      have hz2 := hb2.size
      go_wp2_with fail
      refine (HC2.out _).mono ?_
      rintro e w3 ⟨rfl, hb3⟩
      have hz3 : w2.heap.size + 1 ≤ w3.heap.size := by simpa using hb3.size
      obtain ⟨d1, d2⟩ := ((PAt.new w2 (0, 0) 25).below hb3).more (.cells #[.int .i64 0, .int .i64 0] 25)
      have hbf : Below w.heap.size w w3 := hb1.trans ((hb2.trans ((((Below.refl _ w2).alloc (Nat.le_refl _) _).trans (hb3.mono (by simp))).mono hz2)).mono hz1)
      clear hb1 hb2 hb3
      go_wp2_with fail
      go_ret
      exact ⟨rfl, hbf.alloc (by omega) _⟩
    | true =>
      have hs63 := creas_len hok
      obtain ⟨P, hP⟩ : ∃ P, P = endP (bl s) := ⟨_, rfl⟩
      obtain ⟨Y, hY⟩ : ∃ Y, Y = endP (otherL (bl s)) := ⟨_, rfl⟩
      have pb := endP_bd (bl s)
      have yb := endP_bd (otherL (bl s))
      have far := endP_far hok
      have msz : ∀ l : List UInt8, l.length = s.size → (mkS l).size = s.size := fun l h => by rw [mkS_size, h]
      have hsw : (mkS ((bl s).map swp)).size = s.size := msz _ (by rw [List.length_map, bl_length])
      have hos : (mkS (otherL (bl s))).size = s.size := msz _ (by rw [otherL_length, bl_length])
      have C3 := fun w => implFoldsSwap s w (by omega)
      have C4 := fun w => implPathEnd (mkS ((bl s).map swp)) w (by omega)
      have C5 := fun w => implWordOther s w (by omega)
      have C6 := fun w => implPathEnd (mkS (otherL (bl s))) w (by omega)
      have C7 := fun w => implPathOnce (mkS (otherL (bl s))) w (by unfold maxLen; omega)
      have C8 := fun w => implPathOnce s w (by unfold maxLen; omega)
      have C9 := fun w => implPathVisits (mkS (otherL (bl s))) w (by unfold maxLen; omega)
      have C10 := fun w => implPathVisits s w (by unfold maxLen; omega)
      have C11 := fun w => implPathOnce (mkS ((bl s).map swp)) w (by unfold maxLen; omega)
      have hwo : wordOtherL (bl s) = otherL (bl s) := by unfold wordOtherL; rw [hok]; rfl
      rw [bl_mkS, creas_swp, hok, endP_swp hok, ← hP] at C4
      rw [hwo, hok] at C5
      rw [bl_mkS, creas_otherL, hok, ← hY] at C6
      rw [bl_mkS, onceL_other hok] at C7
      rw [bl_mkS, visitsI_other hok] at C9
      rw [bl_mkS, onceL_swp hok] at C11
      rw [hok, ← hP] at C1 C2
      rw [← hP] at pb far
      rw [← hY] at yb far
      obtain ⟨O, hO⟩ : ∃ O, O = onceL (bl s) := ⟨_, rfl⟩
      obtain ⟨V, hV⟩ : ∃ V, V = visitsI (bl s) := ⟨_, rfl⟩
      obtain ⟨S1, hS1⟩ : ∃ S1, S1 = mkS ((bl s).map swp) := ⟨_, rfl⟩
      obtain ⟨S2, hS2⟩ : ∃ S2, S2 = mkS (otherL (bl s)) := ⟨_, rfl⟩
      rw [← hO] at C7 C8 C11
      rw [← hV] at C9 C10
      rw [← hS1] at C3 C4 C11
      rw [← hS2] at C5 C6 C7 C9
      obtain ⟨p1, p2⟩ := P
      obtain ⟨y1, y2⟩ := Y
      obtain ⟨A1, m1⟩ : ∃ A, p1 * p1 = A := ⟨_, rfl⟩
      obtain ⟨A2, m2⟩ : ∃ A, p2 * p2 = A := ⟨_, rfl⟩
      obtain ⟨A3, m3⟩ : ∃ A, y1 * y1 = A := ⟨_, rfl⟩
      obtain ⟨A4, m4⟩ : ∃ A, y2 * y2 = A := ⟨_, rfl⟩
      simp only at pb yb far
      have b1 := sq_bd pb.1 pb.2.1
      have b2 := sq_bd pb.2.2.1 pb.2.2.2
      have b3 := sq_bd yb.1 yb.2.1
      have b4 := sq_bd yb.2.2.1 yb.2.2.2
      rw [m1] at b1
      rw [m2] at b2
      rw [m3] at b3
      rw [m4] at b4
      rw [m1, m2, m3, m4] at far
      have tfar : (A3 + A4 == A1 + A2) = true := by rw [beq_iff_eq]; exact far
      have tO : (O == O) = true := by simp
      have tV : (V == V) = true := by simp
      have tp1 : (p1 == p1) = true := by simp
      have tp2 : (p2 == p2) = true := by simp
      have tq1 : (p1 != p1) = false := by simp
      have tq2 : (p2 != p2) = false := by simp
      have tn : (-p2 == -p2) = true := by simp
      obtain ⟨pb1, pb2, pb3, pb4⟩ := pb
      have HC1 := Lib.hid C1
      have HC2 := Lib.hid C2
      have HC3 := Lib.hid C3
      have HC4 := Lib.hid C4
      have HC5 := Lib.hid C5
      have HC6 := Lib.hid C6
      have HC7 := Lib.hid C7
      have HC8 := Lib.hid C8
      have HC9 := Lib.hid C9
      have HC10 := Lib.hid C10
      have HC11 := Lib.hid C11
      clear C1 C2 C3 C4 C5 C6 C7 C8 C9 C10 C11 hP hY hO hV hS1 hS2 hok hwo far hsw hos msz yb
      go_wp2_with fail
      refine (HC1.out _).mono ?_
      rintro e w2 ⟨rfl, hb2⟩
      have hz2 := hb2.size
      go_wp2_with fail
      refine (HC2.out _).mono ?_
      rintro e w3 ⟨rfl, hb3⟩
      have hz3 : w2.heap.size + 1 ≤ w3.heap.size := by simpa using hb3.size
      have P3 := ((PAt.new w2 (p1, p2) 25).below hb3).more (.cells #[.int .i64 p1, .int .i64 p2] 25)
      have hbf : Below w.heap.size w (w3.alloc (.cells #[.int .i64 p1, .int .i64 p2] 25)) := (hb1.trans ((hb2.trans ((((Below.refl _ w2).alloc (Nat.le_refl _) _).trans (hb3.mono (by simp))).mono hz2)).mono hz1)).alloc (by omega) _
      obtain ⟨d1, d2⟩ := P3
      clear hb1 hb2 hb3
      go_wp2_with fail
      refine (HC3.out _).mono ?_
      rintro e w4 ⟨rfl, hb4⟩
      have P4 := (PAt.mk (p := (p1, p2)) d1 d2).below hb4
      have hbf4 := hbf.trans (hb4.mono hbf.size)
      have hz4 := hbf4.size
      clear hbf hb4 d1 d2
      go_wp2_with fail
      refine (HC4.out _).mono ?_
      rintro e w5 ⟨rfl, hb5⟩
      have P5 := P4.below hb5
      have hbf5 := hbf4.trans (hb5.mono hz4)
      have hz5 := hbf5.size
      have X5 := PAt.new w5 (p1, -p2) 25
      have P5' := P5.more (.cells #[.int .i64 p1, .int .i64 (-p2)] 25)
      have hl5 := P5.lt
      clear hb5 hbf4 P4 P5
      go_wp2_with fail
      refine (HC5.out _).mono ?_
      rintro e w6 ⟨rfl, hb6⟩
      have P6 := P5'.below hb6
      have X6 := X5.below hb6
      have hbf6 := hbf5.trans ((((Below.refl _ w5).alloc (Nat.le_refl _) _).trans (hb6.mono (by simp))).mono hz5)
      have hz6 := hbf6.size
      clear hb6 hbf5 P5' X5
      go_wp2_with fail
      refine (HC6.out _).mono ?_
      rintro e w7 ⟨rfl, hb7⟩
      obtain ⟨d1, d2⟩ := (P6.below hb7).more (.cells #[.int .i64 y1, .int .i64 y2] 25)
      obtain ⟨d3, d4⟩ := (X6.below hb7).more (.cells #[.int .i64 y1, .int .i64 y2] 25)
      have hbf7 := (hbf6.trans (hb7.mono hz6)).alloc (o := .cells #[.int .i64 y1, .int .i64 y2] 25) (hbf6.trans (hb7.mono hz6)).size
      have hz7 := hbf7.size
      clear hb7 hbf6 P6 X6
      go_wp2_with fail
      refine (HC7.out _).mono ?_
      rintro e w8 ⟨rfl, hb8⟩
      have hbf8 := hbf7.trans (hb8.mono hz7)
      have hz8 := hbf8.size
      clear hb8 hbf7
      go_wp2_with fail
      refine (HC8.out _).mono ?_
      rintro e w9 ⟨rfl, hb9⟩
      have hbf9 := hbf8.trans (hb9.mono hz8)
      have hz9 := hbf9.size
      clear hb9 hbf8
      go_wp2_with fail
      refine (HC9.out _).mono ?_
      rintro e w10 ⟨rfl, hb10⟩
      have hbf10 := hbf9.trans (hb10.mono hz9)
      have hz10 := hbf10.size
      clear hb10 hbf9
      go_wp2_with fail
      refine (HC10.out _).mono ?_
      rintro e w11 ⟨rfl, hb11⟩
      have hbf11 := hbf10.trans (hb11.mono hz10)
      have hz11 := hbf11.size
      clear hb11 hbf10
      go_wp2_with fail
      refine (HC3.out _).mono ?_
      rintro e w12 ⟨rfl, hb12⟩
      have hbf12 := hbf11.trans (hb12.mono hz11)
      have hz12 := hbf12.size
      clear hb12 hbf11
      go_wp2_with fail
      refine (HC11.out _).mono ?_
      rintro e w13 ⟨rfl, hb13⟩
      have hbf13 := hbf12.trans (hb13.mono hz12)
      have hz13 := hbf13.size
      clear hb13 hbf12
      go_wp2_with fail
      refine (HC8.out _).mono ?_
      rintro e w14 ⟨rfl, hb14⟩
      have hbf14 := hbf13.trans (hb14.mono hz13)
      clear hb14 hbf13
      go_wp2_with fail
      go_ret
      exact ⟨rfl, hbf14⟩
end Go.Proofs.Ytalbokejljjflaa
