/- The walks of the function that draws a number of stamps, and of power and foldsOf of the laws. Conditions: each theorem's own premises. -/
import Derived.Test.YtadpbbjahckoaaaStampL
namespace Go.Proofs.Ytadpbbjahckoaaa
set_option maxRecDepth 100000
open Go.RowKit
/-- A number of stamps has been drawn. -/
def NumOk (n : Int) : Prop := n = 0 ∨ n = 8 ∨ n = -1 ∨ (1 ≤ n ∧ n ≤ 6)
def NumDrawn (g : Nat) (A : Option Addr) (len cap p : Nat) (w : World) (e : Ending) (w' : World) : Prop :=
  ∃ (n : Int) (p' : Nat), e = .returned (.int .i64 n) ∧ NumOk n ∧ p' ≤ p + 2 ∧ Rd w' g A len cap p' ∧ Below g w w'
set_option maxRecDepth 100000 in
set_option maxHeartbeats 4000000 in
theorem l91Number (g : Nat) (A : Option Addr) (len cap p : Nat) (w : World) (h : Rd w g A len cap p) (hp : p ≤ 900) :
    Calls Try.prog 36 #[.pointer (some ⟨g, 0, none⟩)] w (NumDrawn g A len cap p w) := by
  have HR := Lib.hid h
  have hlt := h.lt
  clear h
  go_enter Try.func36, Try.ntmps36
  go_wp2_with fail
  refine (pick g A len cap _ 12 _ HR.out (by omega) (by omega)).mono ?_
  rintro e w1 ⟨x, rfl, hx, _, hr1, hg1⟩
  have hb1 : Below g w w1 := below_grown_at (Below.refl _ _) hg1 (Nat.le_of_lt hlt) (Nat.le_refl _)
  have hlt1 := hr1.lt
  by_cases h0 : x = 0
  · subst h0
    have t0 : (((0 : Nat) : Int) == 0) = true := rfl
    have hr1a := hr1.below ((Below.refl _ w1).alloc (Nat.le_refl _) (.cells #[.int .i64 0, .int .i64 8, .int .i64 (-1)] 3))
    have HR1 := Lib.hid hr1a
    have HB1 := Lib.hid (hb1.alloc (Nat.le_of_lt hlt1) (.cells #[.int .i64 0, .int .i64 8, .int .i64 (-1)] 3))
    clear hg1 hr1 hr1a hb1
    go_wp2_with fail
    refine (pick g A len cap _ 3 _ HR1.out (by omega) (by omega)).mono ?_
    rintro e w2 ⟨y, rfl, hy, _, hr2, hg2⟩
    have hy3 : y < 3 := by omega
    have c1 : w2.cell? ⟨w1.heap.size, y, none⟩ = some (.int .i64 (if y = 0 then 0 else if y = 1 then 8 else -1)) :=
      (World.cell?_of_block (a := ⟨w1.heap.size, y, none⟩) (hg2.block w1.heap.size (by simp) (fun e => by have := Option.some.inj e; omega))).trans (three_cell w1 0 8 (-1) 3 y hy3)
    obtain ⟨v, hv⟩ : ∃ v : Int, v = (if y = 0 then 0 else if y = 1 then 8 else -1) := ⟨_, rfl⟩
    have hok : NumOk v := by
      rw [hv]
      unfold NumOk
      split
      · exact .inl rfl
      · split
        · exact .inr (.inl rfl)
        · exact .inr (.inr (.inl rfl))
    rw [← hv] at c1
    have HOK := Lib.hid hok
    have HR2 := Lib.hid hr2
    have HB2 := Lib.hid (below_grown_at HB1.out hg2 (by simp; omega) (Nat.le_refl _))
    have y0 : (0 : Int) ≤ (y : Int) := by omega
    have y1 : (y : Int) < 3 := by omega
    clear hv hok hr2 hg2 hy
    go_wp2_with fail
    go_ret
    exact ⟨v, _, rfl, HOK.out, by omega, HR2.out, HB2.out⟩
  · have t0 : ((x : Int) == 0) = false := by rw [beq_eq_false_iff_ne]; omega
    have HB1 := Lib.hid hb1
    have HR1 := Lib.hid hr1
    clear hg1 hr1 hb1
    go_wp2_with fail
    refine (pick g A len cap _ 6 _ HR1.out (by omega) (by omega)).mono ?_
    rintro e w2 ⟨y, rfl, hy, _, hr2, hg2⟩
    have HR2 := Lib.hid hr2
    have HB2 := Lib.hid (below_grown_at HB1.out hg2 (Nat.le_of_lt hlt1) (Nat.le_refl _))
    have HOK : Hid (NumOk (1 + (y : Int))) := Lib.hid (.inr (.inr (.inr ⟨by omega, by omega⟩)))
    clear hr2 hg2
    go_wp2_with fail
    go_ret
    exact ⟨_, _, rfl, HOK.out, by omega, HR2.out, HB2.out⟩
/-- A number has been drawn out of a code. -/
def DrawnNum (w : World) (e : Ending) (w' : World) : Prop := ∃ n : Int, e = .returned (.int .i64 n) ∧ NumOk n ∧ Below w.heap.size w w'
theorem drawStampClasses (a : Option Addr) (len cap : Nat) (z : List Int) (w : World) (hr : IsRow .u8 w a len cap z) (hc : len ≤ cap) : Calls Try.prog 21 #[.slice a len cap] w (DrawnNum w) := by
  have HR := Lib.hid hr
  clear hr
  go_enter Try.func21, Try.ntmps21
  go_wp2_with fail
  refine (l6Open _ _ _ _ _ HR.out hc).mono ?_
  rintro e w1 ⟨g, A, len', cap', rfl, hg, hrd, hb⟩
  go_wp2_with fail
  refine (l91Number g A len' cap' 0 _ hrd (by omega)).mono ?_
  rintro e w2 ⟨n, p', rfl, hn, _, _, hb2⟩
  have HN := Lib.hid hn
  clear hn
  go_wp2_with fail
  go_ret
  exact ⟨n, rfl, HN.out, hb.trans (hb2.mono hg)⟩
end Go.Proofs.Ytadpbbjahckoaaa
