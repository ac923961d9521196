/- The walks of levelsOf, uncrossed and StampPossible of the program. Conditions: each theorem's own premises. -/
import Derived.Test.YtadpbbjahckoaaaInts
namespace Go.Proofs.Ytadpbbjahckoaaa
set_option maxRecDepth 100000
open Go.RowKit
theorem quiet_left2 {P : Program} {f : FuncId} {args : Array Value} {w : World} {d n : Nat} {v : Value}
    (h : Calls P f args (w.drewN (d + n)) fun e w' => e = .returned v ∧ w.drewN (d + n) = w') : Calls P f args (w.drewN (d + n)) fun e w'' => e = .returned v ∧ ∃ m, w'' = w.drewN (d + m) :=
  h.mono fun _ _ ⟨he, hm⟩ => ⟨he, n, hm.symm⟩
/-- The levels of numbers, number by number; none if one is wrong or there twice. -/
def lvGo (n : Nat) : List Int → Nat → List Int → Option (List Int)
  | [], _, acc => some acc
  | x :: t, k, acc => if x < 0 ∨ (n : Int) ≤ x ∨ 0 ≤ acc.getD x.toNat 0 then none else lvGo n t (k + 1) (acc.set x.toNat k)
def levelsL (l : List Int) : Option (List Int) := lvGo l.length l 0 (List.replicate l.length (-1))
theorem lvGo_length {n : Nat} : ∀ {l : List Int} {k : Nat} {acc lv : List Int}, lvGo n l k acc = some lv → lv.length = acc.length
  | [], _, acc, lv, h => by
    have : some acc = some lv := h
    rw [Option.some.inj this]
  | x :: t, k, acc, lv, h => by
    unfold lvGo at h
    split at h
    · cases h
    · rw [lvGo_length h, List.length_set]
theorem levelsL_length {l lv : List Int} (h : levelsL l = some lv) : lv.length = l.length := by
  rw [lvGo_length h, List.length_replicate]
/-- What levelsOf returns. -/
def LevelsGot (l : List Int) (w : World) (e : Ending) (w' : World) : Prop :=
  match levelsL l with
  | some lv => ∃ g c : Nat, e = .returned (.tuple #[.slice (some ⟨g, 0, none⟩) l.length c, .bool true]) ∧ w.heap.size ≤ g ∧ RowI w' g lv ∧ Below w.heap.size w w'
  | none => e = .returned (.tuple #[.slice none 0 0, .bool false]) ∧ Below w.heap.size w w'
theorem levels_some {l lv : List Int} {w : World} {e : Ending} {w' : World} (h : levelsL l = some lv) : LevelsGot l w e w' ↔ ∃ g c : Nat, e = .returned (.tuple #[.slice (some ⟨g, 0, none⟩) l.length c, .bool true]) ∧ w.heap.size ≤ g ∧ RowI w' g lv ∧ Below w.heap.size w w' := by
  unfold LevelsGot
  rw [h]
theorem levels_none {l : List Int} {w : World} {e : Ending} {w' : World} (h : levelsL l = none) : LevelsGot l w e w' ↔ e = .returned (.tuple #[.slice none 0 0, .bool false]) ∧ Below w.heap.size w w' := by
  unfold LevelsGot
  rw [h]
/-- The first k levels set to -1. -/
def fillTo (n k : Nat) : List Int := List.replicate k (-1) ++ List.replicate (n - k) 0
theorem fillTo_length {n k : Nat} (h : k ≤ n) : (fillTo n k).length = n := by unfold fillTo; simp; omega
theorem fillTo_set {n k : Nat} (h : k < n) : (fillTo n k).set k (-1) = fillTo n (k + 1) := by
  unfold fillTo
  rw [List.set_append_right _ _ (by simp), List.length_replicate, Nat.sub_self, show n - k = (n - (k + 1)) + 1 by omega, List.replicate_succ, List.set_cons_zero, List.replicate_succ', List.append_assoc]
  rfl
theorem BufI.below {w w' : World} {g B : Nat} {xs : List Int} (h : BufI w g xs) (hb : Below B w w') (hg : g < B) : BufI w' g xs :=
  ⟨(h.row.below hb hg).1, fun j hj => ⟨(hb.cell (p := ⟨g, j, none⟩) hg).trans (h.2 j hj).1, (hb.frozen (p := ⟨g, j, none⟩) hg).trans (h.2 j hj).2⟩⟩
set_option maxRecDepth 100000 in
set_option maxHeartbeats 4000000 in
theorem levelsOf (g n c : Nat) (l : List Int) (w : World) (hn : l.length = n) (hn2 : n ≤ 1000) (hr : RowI w g l) :
    Calls Try.prog 41 #[.slice (some ⟨g, 0, none⟩) n c, .int .i64 n] w (LevelsGot l w) := by
  obtain ⟨i0, hi0, hz0, hz1, hz2⟩ := info_parts infoI
  have HI := Lib.hid hi0; have HZ0 := Lib.hid hz0; have HZ1 := Lib.hid hz1; have HZ2 := Lib.hid hz2
  have HN := Lib.hid hn
  have HR := Lib.hid hr
  have hgl := hr.1
  have tq : ((n : Int) != (n : Int)) = false := by simp
  clear hi0 hz0 hz1 hz2 hn hr
  go_enter Try.func41, Try.ntmps41
  go_wp2_with (refine wpList_make_int rfl _ _ 22 rfl 3 i0 Try.underlying22 HI.out HZ0.out HZ1.out HZ2.out .i64 .i64 _ _ n rfl rfl rfl rfl (by omega) ?_; intro w1 hbuf hb1)
  have hz1 := hb1.size
  have hB : w.heap.size < w1.heap.size := hbuf.1
  go_wp2_with fail
  go_loopw [18] (fun i wr => ∃ k : Nat, k ≤ n ∧ i = .int .i64 k ∧ Hid (BufI wr w.heap.size (fillTo n k)) ∧ Below w.heap.size w wr) (fun i _ => n - (intOf i).toNat)
  case atStart => exact ⟨0, Nat.zero_le _, rfl, Lib.hid (by unfold fillTo; simpa using hbuf), hb1⟩
  case round =>
    obtain ⟨k, hk, rfl, HBu, hbel⟩ := hrel
    by_cases hlt : k < n
    · obtain ⟨c1, c2⟩ := HBu.out.2 k (by rw [fillTo_length hk]; exact hlt)
      have HS : Hid (BufI (wr.setCell ⟨w.heap.size, k, none⟩ (.int .i64 (-1))) w.heap.size (fillTo n (k + 1))) := by
        show BufI _ _ _
        rw [← fillTo_set hlt]
        exact HBu.out.set k (-1)
      go_wp2_with fail
      go_roundw
      case rel => exact ⟨k + 1, by omega, by go_num, HS, hbel.setCell (Nat.le_refl _) _⟩
      case measure => simp [intOf]; omega
    · obtain rfl : k = n := by omega
      have HB0 : Hid (BufI wr w.heap.size (List.replicate k (-1))) := by
        show BufI _ _ _
        have := HBu.out
        unfold fillTo at this
        rw [Nat.sub_self] at this
        simpa using this
      clear HBu
      go_wp2_with fail
      go_loopw [27] (fun i wr => ∃ (j : Nat) (acc : List Int), j ≤ k ∧ i = .int .i64 j ∧ acc.length = k ∧ Hid (levelsL l = lvGo k (l.drop j) j acc) ∧ Hid (BufI wr w.heap.size acc) ∧ Below w.heap.size w wr) (fun i _ => k - (intOf i).toNat)
      case atStart => exact ⟨0, _, Nat.zero_le _, rfl, List.length_replicate, Lib.hid (by unfold levelsL; rw [HN.out]; rfl), HB0, hbel⟩
      case round =>
        obtain ⟨j, acc, hj, rfl, hacc, HL, HBu, hbel2⟩ := hrel
        by_cases hlt2 : j < k
        · obtain ⟨x, hx⟩ : ∃ x, l[j]? = some x := ⟨_, List.getElem?_eq_getElem (by rw [HN.out]; exact hlt2)⟩
          have hd : l.drop j = x :: l.drop (j + 1) := by
            obtain ⟨h1, h2⟩ := List.getElem?_eq_some_iff.1 hx
            rw [List.drop_eq_getElem_cons h1, h2]
          have c1 := (HR.out.below hbel2 hgl).2 j x hx
          have hstep := HL.out
          rw [hd] at hstep
          unfold lvGo at hstep
          by_cases hx0 : x < 0
          · have hno : levelsL l = none := by rw [hstep, if_pos (.inl hx0)]
            clear hd hx hstep
            go_wp2_with fail
            go_ret2
            exact (levels_none hno).2 ⟨rfl, hbel2⟩
          · by_cases hxn : (k : Int) ≤ x
            · have hno : levelsL l = none := by rw [hstep, if_pos (.inr (.inl hxn))]
              clear hd hx hstep
              go_wp2_with fail
              go_ret2
              exact (levels_none hno).2 ⟨rfl, hbel2⟩
            · obtain ⟨m, rfl⟩ : ∃ m : Nat, x = m := ⟨x.toNat, by omega⟩
              have hmk : m < k := by omega
              obtain ⟨y, hy⟩ : ∃ y, y = acc[m]'(by omega) := ⟨_, rfl⟩
              obtain ⟨d1, d2⟩ := HBu.out.2 m (by omega)
              rw [← hy] at d1
              have hg : acc.getD (m : Int).toNat 0 = y := by rw [hy, Int.toNat_natCast, List.getD_eq_getElem?_getD, List.getElem?_eq_getElem (by omega)]; rfl
              rw [hg] at hstep
              have k0 : (0 : Int) ≤ (m : Int) := by omega
              have k1 : (m : Int) < (k : Int) := by omega
              by_cases hy0 : 0 ≤ y
              · have hno : levelsL l = none := by rw [hstep, if_pos (.inr (.inr hy0))]
                clear hd hx hstep hy hg
                go_wp2_with fail
                go_ret2
                exact (levels_none hno).2 ⟨rfl, hbel2⟩
              · have HL2 : Hid (levelsL l = lvGo k (l.drop (j + 1)) (j + 1) (acc.set m j)) := by
                  show _ = _
                  rw [hstep, if_neg (by omega), Int.toNat_natCast]
                have HS := Lib.hid (HBu.out.set m (j : Int))
                have hl2 : (acc.set m (j : Int)).length = k := by rw [List.length_set, hacc]
                clear hd hx hstep hy hg
                go_wp2_with fail
                go_roundw
                case rel => exact ⟨j + 1, _, by omega, by go_num, hl2, HL2, HS, hbel2.setCell (Nat.le_refl _) _⟩
                case measure => simp [intOf]; omega
        · obtain rfl : j = k := by omega
          have hyes : levelsL l = some acc := by
            rw [HL.out, List.drop_of_length_le (by rw [HN.out]; exact Nat.le_refl _)]
            rfl
          have HRW := Lib.hid HBu.out.row
          go_wp2_with fail
          go_ret2
          refine (levels_some hyes).2 ⟨w.heap.size, j, ?_, Nat.le_refl _, HRW.out, hbel2⟩
          rw [HN.out]
          rfl
/-- Joined stamps on the same side do not cross. -/
def pairOk (lv : List Int) (k o : Nat) : Bool := btw (lv.getD o 0) (lv.getD k 0) (lv.getD (k + 1) 0) == btw (lv.getD (o + 1) 0) (lv.getD k 0) (lv.getD (k + 1) 0)
def uncrossedL (lv : List Int) : Bool := (List.range lv.length).all fun k => (List.range lv.length).all fun j => !(decide (k + 2 + 2 * j + 1 < lv.length)) || pairOk lv k (k + 2 + 2 * j)
theorem uncrossed_true {lv : List Int} (h : ∀ k j, k + 2 + 2 * j + 1 < lv.length → pairOk lv k (k + 2 + 2 * j) = true) : uncrossedL lv = true := by
  unfold uncrossedL
  rw [List.all_eq_true]
  intro k _
  rw [List.all_eq_true]
  intro j _
  by_cases e : k + 2 + 2 * j + 1 < lv.length
  · rw [h k j e, Bool.or_true]
  · rw [decide_eq_false e]; rfl
theorem uncrossed_false {lv : List Int} {k j : Nat} (h : k + 2 + 2 * j + 1 < lv.length) (hp : pairOk lv k (k + 2 + 2 * j) = false) : uncrossedL lv = false := by
  cases e : uncrossedL lv with
  | false => rfl
  | true =>
    unfold uncrossedL at e
    have h1 := List.all_eq_true.1 (List.all_eq_true.1 e k (List.mem_range.2 (by omega))) j (List.mem_range.2 (by omega))
    rw [hp, decide_eq_true h] at h1
    cases h1
set_option maxRecDepth 100000 in
set_option maxHeartbeats 4000000 in
theorem uncrossed (g n c : Nat) (lv : List Int) (w : World) (hn : lv.length = n) (hn2 : n ≤ 1000) (hr : RowI w g lv) :
    Calls Try.prog 42 #[.slice (some ⟨g, 0, none⟩) n c] w fun e w' => e = .returned (.bool (uncrossedL lv)) ∧ Below w.heap.size w w' := by
  have HN := Lib.hid hn
  have HR := Lib.hid hr
  have hgl := hr.1
  clear hn hr
  go_enter Try.func42, Try.ntmps42
  go_wp2_with fail
  go_loopw [3] (fun i wr => ∃ k d : Nat, k ≤ n ∧ i = .int .i64 k ∧ Hid (∀ k' j, k' < k → k' + 2 + 2 * j + 1 < n → pairOk lv k' (k' + 2 + 2 * j) = true) ∧ w.drewN d = wr) (fun i _ => n - (intOf i).toNat)
  case atStart => exact ⟨0, 0, Nat.zero_le _, rfl, Lib.hid (fun k' j h => by omega), rfl⟩
  case round =>
    obtain ⟨k, d, hk, rfl, HK, rfl⟩ := hrel
    by_cases hlt : k + 1 < n
    · have hlt' : (k : Int) + 1 < (n : Int) := by omega
      go_wp2_with fail
      go_loopw [4] (fun i wr => ∃ j o d : Nat, Hid (o = k + 2 + 2 * j) ∧ o ≤ n + 2 ∧ j ≤ n ∧ i = .int .i64 (o : Int) ∧ Hid (∀ j', j' < j → k + 2 + 2 * j' + 1 < n → pairOk lv k (k + 2 + 2 * j') = true) ∧ w.drewN d = wr) (fun i _ => n + n + n + 10 - (intOf i).toNat)
      case atStart => exact ⟨0, k + 2, d, Lib.hid (by omega), by omega, Nat.zero_le _, by go_num, Lib.hid (fun j' h => by omega), rfl⟩
      case round =>
        obtain ⟨j, o, d, HO, hon, hj, rfl, HJ, rfl⟩ := hrel
        by_cases hlt2 : o + 1 < n
        · have ho := HO.out
          obtain ⟨k1, hk1⟩ : ∃ k1, k1 = k + 1 := ⟨_, rfl⟩
          obtain ⟨o1, ho1⟩ : ∃ o1, o1 = o + 1 := ⟨_, rfl⟩
          have at' : ∀ i, i < n → lv[i]? = some (lv.getD i 0) := fun i hi => by
            rw [List.getD_eq_getElem?_getD, List.getElem?_eq_getElem (by rw [HN.out]; exact hi)]
            rfl
          have c0 := HR.out.2 o _ (at' o (by omega))
          have c1 := HR.out.2 k _ (at' k (by omega))
          have c2 := HR.out.2 k1 _ (at' k1 (by omega))
          have c3 := HR.out.2 o1 _ (at' o1 (by omega))
          obtain ⟨A, hA⟩ : ∃ A, A = lv.getD o 0 := ⟨_, rfl⟩
          obtain ⟨B, hB⟩ : ∃ B, B = lv.getD k 0 := ⟨_, rfl⟩
          obtain ⟨C, hC⟩ : ∃ C, C = lv.getD k1 0 := ⟨_, rfl⟩
          obtain ⟨D, hD⟩ : ∃ D, D = lv.getD o1 0 := ⟨_, rfl⟩
          rw [← hA] at c0
          rw [← hB] at c1
          rw [← hC] at c2
          rw [← hD] at c3
          have hpair : pairOk lv k (k + 2 + 2 * j) = (btw A B C == btw D B C) := by
            unfold pairOk
            rw [← ho, ← ho1, ← hk1, hA, hB, hC, hD]
          rw [← ho] at hpair
          obtain ⟨X, hX⟩ : ∃ X, X = btw A B C := ⟨_, rfl⟩
          obtain ⟨Y, hY⟩ : ∃ Y, Y = btw D B C := ⟨_, rfl⟩
          have C1 : ∀ w, Calls Try.prog 57 #[.int .i64 A, .int .i64 B, .int .i64 C] w fun e w' => e = .returned (.bool X) ∧ w = w' := fun w => by rw [hX]; exact isBetween A B C w
          have C2 : ∀ w, Calls Try.prog 57 #[.int .i64 D, .int .i64 B, .int .i64 C] w fun e w' => e = .returned (.bool Y) ∧ w = w' := fun w => by rw [hY]; exact isBetween D B C w
          rw [← hX, ← hY] at hpair
          have HC1 := Lib.hid C1
          have HC2 := Lib.hid C2
          have HPR := Lib.hid hpair
          have hno1 : (o : Int) + 1 < (n : Int) := by omega
          have n0 : (0 : Int) ≤ (o : Int) := by omega
          have n1 : (o : Int) < (n : Int) := by omega
          have n2 : (0 : Int) ≤ (k : Int) := by omega
          have n3 : (k : Int) < (n : Int) := by omega
          have n4 : (0 : Int) ≤ (k1 : Int) := by omega
          have n5 : (k1 : Int) < (n : Int) := by omega
          have n6 : (0 : Int) ≤ (o1 : Int) := by omega
          have n7 : (o1 : Int) < (n : Int) := by omega
          clear C1 C2 hpair hX hY hA hB hC hD at'
          have f1 : IntKind.i64.wrap ((k : Int) + 1) = (k1 : Int) := by rw [IntKind.wrap_i64]; omega
          have f4 : IntKind.i64.wrap ((o : Int) + 1) = (o1 : Int) := by rw [IntKind.wrap_i64]; omega
          have hbd : k + 2 + 2 * j + 1 < n := by omega
          have HBD := Lib.hid hbd
          clear ho hk1 ho1 hbd
          cases hXY : (X == Y) with
          | false =>
            have hF : uncrossedL lv = false := uncrossed_false (k := k) (j := j) (by rw [HN.out]; exact HBD.out) (by rw [← HO.out, HPR.out, hXY])
            have HF := Lib.hid hF
            have HXN : Hid (X = !Y) := by show _ = _; revert hXY; cases X <;> cases Y <;> simp
            clear hF hXY
            go_wp2_with fail
            go_quiet ((go_at_call 57; first | exact quiet_left2 (HC1.out _) | exact quiet_left (HC1.out _)))
            go_wp2_with fail
            go_quiet ((go_at_call 57; first | exact quiet_left2 (HC2.out _) | exact quiet_left (HC2.out _)))
            have hxn := HXN.out
            subst hxn
            cases Y
            all_goals
              go_wp2_with fail
              go_ret
              exact ⟨ret_bool (by rw [HF.out]), below_drewN (Below.refl _ _) _⟩
          | true =>
            have HJ2 : Hid (∀ j', j' < j + 1 → k + 2 + 2 * j' + 1 < n → pairOk lv k (k + 2 + 2 * j') = true) := fun j' h1 h2 => by
              by_cases e : j' < j
              · exact HJ.out j' e h2
              · have : j' = j := by omega
                subst this
                rw [← HO.out, HPR.out, hXY]
            have HXN : Hid (X = Y) := by show _ = _; revert hXY; cases X <;> cases Y <;> simp
            clear hXY
            go_wp2_with fail
            go_quiet ((go_at_call 57; first | exact quiet_left2 (HC1.out _) | exact quiet_left (HC1.out _)))
            go_wp2_with fail
            go_quiet ((go_at_call 57; first | exact quiet_left2 (HC2.out _) | exact quiet_left (HC2.out _)))
            have hxn := HXN.out
            subst hxn
            cases X
            all_goals
              go_wp2_with fail
              go_roundw
              case rel => exact ⟨j + 1, o + 2, _, Lib.hid (by have := HO.out; omega), by omega, by have := HO.out; omega, by go_num, HJ2, rfl⟩
              case measure => simp [intOf]; omega
        · have HK2 : Hid (∀ k' j, k' < k + 1 → k' + 2 + 2 * j + 1 < n → pairOk lv k' (k' + 2 + 2 * j) = true) := fun k' j' h1 h2 => by
            by_cases e : k' < k
            · exact HK.out k' j' e h2
            · have : k' = k := by omega
              subst this
              exact HJ.out j' (by have := HO.out; omega) h2
          have hno : ¬ (o : Int) + 1 < (n : Int) := by omega
          go_wp2_with fail
          go_roundw
          case rel => exact ⟨k + 1, d, by omega, by go_num, HK2, rfl⟩
          case measure => simp [intOf]; omega
    · have hno : ¬ (k : Int) + 1 < (n : Int) := by omega
      have hT : uncrossedL lv = true := uncrossed_true fun k' j h => HK.out k' j (by rw [HN.out] at h; omega) (by rw [HN.out] at h; exact h)
      have HT := Lib.hid hT
      clear hT
      go_wp2_with fail
      go_ret
      exact ⟨ret_bool (by rw [HT.out]), below_drewN (Below.refl _ _) _⟩
/-- Whether a list is a possible stack. -/
def possL (l : List Int) : Bool := rangeN l.length && (match levelsL l with | some lv => uncrossedL lv | none => false)
set_option maxHeartbeats 4000000 in
theorem implStampPossible (g n c : Nat) (l : List Int) (w : World) (hn : l.length = n) (hn2 : n ≤ 1000) (hr : RowI w g l) :
    Calls Try.prog 16 #[.slice (some ⟨g, 0, none⟩) n c] w fun e w' => e = .returned (.bool (possL l)) ∧ Below w.heap.size w w' := by
  have HR := Lib.hid hr
  have HN := Lib.hid hn
  have C1 := fun w => stampsInRange n w
  cases hrg : rangeN n with
  | false =>
    have HP : Hid (possL l = false) := by show _ = _; unfold possL; rw [hn, hrg]; rfl
    rw [hrg] at C1
    have HC := Lib.hid C1
    clear C1 hrg hn hr
    go_enter Try.func16, Try.ntmps16
    go_wp2_with fail
    refine (HC.out _).mono ?_
    rintro e w1 ⟨rfl, rfl⟩
    go_wp2_with fail
    go_ret
    exact ⟨ret_bool (by rw [HP.out]), Below.refl _ _⟩
  | true =>
    rw [hrg] at C1
    have HC := Lib.hid C1
    have C2 := fun w (h : RowI w g l) => levelsOf g n c l w hn hn2 h
    cases hlv : levelsL l with
    | none =>
      have HP : Hid (possL l = false) := by show _ = _; unfold possL; rw [hn, hrg, hlv]; rfl
      have HC2 := Lib.hid C2
      have HLV := Lib.hid hlv
      clear C1 C2 hrg hn hr hlv
      go_enter Try.func16, Try.ntmps16
      go_wp2_with fail
      refine (HC.out _).mono ?_
      rintro e w1 ⟨rfl, rfl⟩
      go_wp2_with fail
      refine (HC2.out _ HR.out).mono ?_
      intro e w2 h2
      obtain ⟨rfl, hb2⟩ := (levels_none HLV.out).1 h2
      clear h2
      go_wp2_with fail
      go_ret
      exact ⟨ret_bool (by rw [HP.out]), hb2⟩
    | some lv =>
      have HP : Hid (possL l = uncrossedL lv) := by show _ = _; unfold possL; rw [hn, hrg, hlv]; rfl
      have HC2 := Lib.hid C2
      have HLV := Lib.hid hlv
      have HLN : Hid (lv.length = n) := by show _ = _; rw [levelsL_length hlv, hn]
      clear C1 C2 hrg hn hr hlv
      go_enter Try.func16, Try.ntmps16
      go_wp2_with fail
      refine (HC.out _).mono ?_
      rintro e w1 ⟨rfl, rfl⟩
      go_wp2_with fail
      refine (HC2.out _ HR.out).mono ?_
      intro e w2 h2
      obtain ⟨g2, c2, rfl, hg2, hr2, hb2⟩ := (levels_some HLV.out).1 h2
      rw [HN.out]
      have hz2 := hb2.size
      clear h2
      go_wp2_with fail
      refine (uncrossed g2 n c2 lv _ HLN.out hn2 hr2).mono ?_
      rintro e w3 ⟨rfl, hb3⟩
      go_wp2_with fail
      go_ret
      exact ⟨ret_bool (by rw [HP.out]), hb2.trans (hb3.mono hz2)⟩
end Go.Proofs.Ytadpbbjahckoaaa
