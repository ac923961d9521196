/- A cell looked for in a folded sheet: the plain words, and the walks of SheetLevel and cellAt. Conditions: each theorem's own premises. -/
import Derived.Test.YtdgkjlehofkooaaStackJ
namespace Go.Proofs.Ytdgkjlehofkooaa
set_option maxRecDepth 100000
open Go.RowKit
/-- Where a cell is in a stack. -/
def findC (cs : List Cel) (row col : Int) : Option Nat := cs.findIdx? fun x => x.row == row && x.col == col
/-- The level of a cell of a sheet that is folded by a text. -/
def lv (l : List UInt8) (row col : Int) : Option Nat := if sheetOk l then findC (stackC l) row col else none
def lvI : Option Nat → Int
  | some k => k
  | none => -1
theorem find_hit {cs : List Cel} {row col : Int} {k : Nat} {p : Cel} (hp : cs[k]? = some p) (h1 : p.row = row) (h2 : p.col = col) (hn : ∀ (j : Nat) (q : Cel), j < k → cs[j]? = some q → ¬ (q.row = row ∧ q.col = col)) : findC cs row col = some k := by
  unfold findC
  obtain ⟨hk, e⟩ := List.getElem?_eq_some_iff.1 hp
  rw [List.findIdx?_eq_some_iff_getElem]
  refine ⟨hk, ?_, fun j hj => ?_⟩
  · rw [e]
    simp [h1, h2]
  · have := hn j _ hj (List.getElem?_eq_getElem (by omega))
    simpa using this
theorem find_miss {cs : List Cel} {row col : Int} (hn : ∀ (j : Nat) (q : Cel), cs[j]? = some q → ¬ (q.row = row ∧ q.col = col)) : findC cs row col = none := by
  unfold findC
  rw [List.findIdx?_eq_none_iff]
  intro x hx
  obtain ⟨j, hj⟩ := List.mem_iff_getElem?.1 hx
  have := hn j x hj
  simpa using this
theorem find_some {cs : List Cel} {row col : Int} {k : Nat} (h : findC cs row col = some k) : ∃ p, cs[k]? = some p ∧ p.row = row ∧ p.col = col ∧ ∀ (j : Nat) (q : Cel), j < k → cs[j]? = some q → ¬ (q.row = row ∧ q.col = col) := by
  unfold findC at h
  rw [List.findIdx?_eq_some_iff_getElem] at h
  obtain ⟨hk, h1, h2⟩ := h
  have h1 : cs[k].row = row ∧ cs[k].col = col := by simpa using h1
  refine ⟨_, List.getElem?_eq_getElem hk, h1.1, h1.2, fun j q hj hq => ?_⟩
  obtain ⟨hj', e⟩ := List.getElem?_eq_some_iff.1 hq
  have := h2 j hj
  rw [← e]
  simpa using this
theorem find_none {cs : List Cel} {row col : Int} (h : findC cs row col = none) : ∀ (j : Nat) (q : Cel), cs[j]? = some q → ¬ (q.row = row ∧ q.col = col) := by
  unfold findC at h
  rw [List.findIdx?_eq_none_iff] at h
  intro j q hq
  have := h q (List.mem_of_getElem? hq)
  simpa using this
theorem stays_lt {fst : Bool} {half i : Nat} (h : i < half) : stays fst half i < 2 * half := by unfold stays; cases fst <;> simp <;> omega
theorem moves_lt {fst : Bool} {half i : Nat} (h : i < half) : moves fst half i < 2 * half := by unfold moves; cases fst <;> simp <;> omega
theorem mem_putC {un hi : Bool} {a b : List Cel} {x : Cel} (h : x ∈ putC un hi a b) : x ∈ a ∨ ∃ y ∈ b, x = turnC hi y := by
  unfold putC at h
  cases un
  · simp only [Bool.false_eq_true, if_false, List.mem_append, List.mem_map, List.mem_reverse] at h
    rcases h with h | ⟨y, h1, h2⟩
    · exact .inl h
    · exact .inr ⟨y, h1, h2.symm⟩
  · simp only [if_true, List.mem_append, List.mem_map, List.mem_reverse] at h
    rcases h with ⟨y, h1, h2⟩ | h
    · exact .inr ⟨y, h1, h2.symm⟩
    · exact .inl h
/-- All cells of all stacks of a sheet are cells of R rows and C columns. -/
def Within (s : Sheet) (R C : Nat) : Prop := ∀ r c, r < s.R → c < s.C → ∀ x ∈ s.f r c, 0 ≤ x.row ∧ x.row < R ∧ 0 ≤ x.col ∧ x.col < C
theorem within_step {s : Sheet} {c : UInt8} {R C : Nat} (hF : Foldable s c) (h : Within s R C) : Within (stepS s c) R C := by
  intro r k hr hk x hx
  unfold stepS at hr hk hx
  cases hi : high (c.toNat : Int) with
  | true =>
    obtain ⟨e, b⟩ := hF.h hi
    rw [hi] at hr hk hx
    simp only [if_true] at hr hk hx
    rcases mem_putC hx with h1 | ⟨y, h1, rfl⟩
    · exact h _ _ (Nat.lt_of_lt_of_eq (stays_lt hr) e.symm) hk x h1
    · exact h _ _ (Nat.lt_of_lt_of_eq (moves_lt hr) e.symm) hk y h1
  | false =>
    obtain ⟨e, b⟩ := hF.w hi
    rw [hi] at hr hk hx
    simp only [Bool.false_eq_true, if_false] at hr hk hx
    rcases mem_putC hx with h1 | ⟨y, h1, rfl⟩
    · exact h _ _ hr (Nat.lt_of_lt_of_eq (stays_lt hk) e.symm) x h1
    · exact h _ _ hr (Nat.lt_of_lt_of_eq (moves_lt hk) e.symm) y h1
theorem within_to {l : List UInt8} (hok : sheetOk l = true) : ∀ k, k ≤ l.length → Within (sheetTo l k) (rowsOf l) (colsOf l)
  | 0, _ => by
    rw [sheetTo_zero]
    intro r c hr hc x hx
    have hr : r < rowsOf l := hr
    have hc : c < colsOf l := hc
    have hx : x ∈ [(⟨r, c, true, true⟩ : Cel)] := hx
    rw [List.mem_singleton] at hx
    subst hx
    simp only
    omega
  | k + 1, hk => by
    rw [sheetTo_succ l k (by omega)]
    exact within_step (foldable hok k (by omega)) (within_to hok k (by omega))
theorem end_dims {l : List UInt8} (hok : sheetOk l = true) : (sheetTo l l.length).R = 1 ∧ (sheetTo l l.length).C = 1 := by
  obtain ⟨hl, _⟩ := ok_is hok
  obtain ⟨d1, d2⟩ := sheetTo_dims hl l.length (Nat.le_refl _)
  have d3 : l.drop l.length = [] := List.drop_length
  rw [d3] at d1 d2
  exact ⟨d1, d2⟩
theorem in_range {l : List UInt8} (hok : sheetOk l = true) {x : Cel} (hx : x ∈ stackC l) : 0 ≤ x.row ∧ x.row < rowsOf l ∧ 0 ≤ x.col ∧ x.col < colsOf l := by
  obtain ⟨d1, d2⟩ := end_dims hok
  exact within_to hok l.length (Nat.le_refl _) 0 0 (by omega) (by omega) x hx
theorem stackC_bd {l : List UInt8} (hok : sheetOk l = true) : 1 ≤ (stackC l).length ∧ (stackC l).length ≤ 32 := by
  rw [stackC_length]
  exact pow_bd (ok_is hok).2
set_option maxHeartbeats 1000000 in
theorem specSheetLevel (s : ByteArray) (row col : Int) (w : World) (hs : s.size ≤ maxLen) :
    Calls Try.prog 32 #[.string s, .int .i64 row, .int .i64 col] w fun e w' => e = .returned (.int .i64 (lvI (lv (bl s) row col))) ∧ Below w.heap.size w w' := by
  cases hok : sheetOk (bl s) with
  | false =>
    have HV : Hid (lvI (lv (bl s) row col) = -1) := by show _ = _; unfold lv; rw [hok]; rfl
    have HOK := Lib.hid hok
    clear hok
    go_enter Try.func32, Try.ntmps32
    go_wp2_with fail
    refine (specSheetStack_no s _ hs HOK.out).mono ?_
    rintro e w1 ⟨A, rfl, hb⟩
    go_wp2_with fail
    refine wp_loop_rounds 1 ?_
    rw [rounds_succ]
    go_wp2_with fail
    go_ret
    rw [HV.out]
    exact ⟨rfl, hb⟩
  | true =>
    obtain ⟨hb1, hb2⟩ := stackC_bd hok
    obtain ⟨cs, hcs⟩ : ∃ cs, cs = stackC (bl s) := ⟨_, rfl⟩
    have HV : Hid (lv (bl s) row col = findC cs row col) := by show _ = _; unfold lv; rw [hok, hcs]; rfl
    have HR : Hid (∀ w, Calls Try.prog 21 #[.string s] w (StackRead w cs)) := by rw [hcs]; exact fun w => specSheetStack s w hok
    rw [← hcs] at hb1 hb2
    obtain ⟨n, hn⟩ : ∃ n, cs.length = n := ⟨_, rfl⟩
    have HN := Lib.hid hn
    rw [hn] at hb1 hb2
    clear hcs hn hok
    go_enter Try.func32, Try.ntmps32
    go_wp2_with fail
    refine (HR.out _).mono ?_
    rintro e w1 ⟨g, cap, rfl, hr, hb⟩
    have HRW := Lib.hid hr
    rw [HN.out]
    clear hr
    go_wp2_with fail
    go_loop [9] (fun i => ∃ k : Nat, k ≤ n ∧ i = .int .i64 k ∧ Hid (∀ (j : Nat) (q : Cel), j < k → cs[j]? = some q → ¬ (q.row = row ∧ q.col = col))) (fun i => n - (intOf i).toNat)
    case atStart => exact ⟨0, Nat.zero_le _, rfl, Lib.hid (fun j q hj => by omega)⟩
    case round =>
      obtain ⟨k, hk, rfl, HM⟩ := hrel
      by_cases hlt : k < n
      · obtain ⟨p, hp⟩ : ∃ p, cs[k]? = some p := ⟨_, List.getElem?_eq_getElem (by rw [HN.out]; exact hlt)⟩
        obtain ⟨c1, c2, _, _⟩ := HRW.out.at hp
        have HP := Lib.hid hp
        clear hp
        cases ha : (p.row == row) with
        | false =>
          have HM2 : Hid (∀ (j : Nat) (q : Cel), j < k + 1 → cs[j]? = some q → ¬ (q.row = row ∧ q.col = col)) := fun j q hj hq => by
            by_cases e : j = k
            · subst e
              rw [HP.out] at hq
              cases hq
              rintro ⟨h1, _⟩
              rw [h1] at ha
              simp at ha
            · exact HM.out j q (by omega) hq
          go_wp2_with fail
          go_round
          case rel => exact ⟨k + 1, by omega, by go_num, HM2⟩
          case measure => simp [intOf]; omega
        | true =>
          cases hb' : (p.col == col) with
          | false =>
            have HM2 : Hid (∀ (j : Nat) (q : Cel), j < k + 1 → cs[j]? = some q → ¬ (q.row = row ∧ q.col = col)) := fun j q hj hq => by
              by_cases e : j = k
              · subst e
                rw [HP.out] at hq
                cases hq
                rintro ⟨_, h1⟩
                rw [h1] at hb'
                simp at hb'
              · exact HM.out j q (by omega) hq
            go_wp2_with fail
            go_round
            case rel => exact ⟨k + 1, by omega, by go_num, HM2⟩
            case measure => simp [intOf]; omega
          | true =>
            have HF : Hid (lvI (lv (bl s) row col) = k) := by
              show _ = _
              rw [HV.out, find_hit HP.out (by simpa using ha) (by simpa using hb') HM.out]
              rfl
            go_wp2_with fail
            go_ret
            rw [HF.out]
            exact ⟨rfl, hb⟩
      · obtain rfl : k = n := by omega
        have HF : Hid (lvI (lv (bl s) row col) = -1) := by
          show _ = _
          rw [HV.out, find_miss fun j q hq => HM.out j q (by have := (List.getElem?_eq_some_iff.1 hq).1; rw [HN.out] at this; exact this) hq]
          rfl
        go_wp2_with fail
        go_ret
        rw [HF.out]
        exact ⟨rfl, hb⟩
end Go.Proofs.Ytdgkjlehofkooaa
