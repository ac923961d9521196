/- The walk of right of the program. Conditions: each theorem's own premises. -/
import Derived.Test.YtadpbbjahckoaaaStripB
import Derived.Deep.CutRange
namespace Go.Proofs.Ytadpbbjahckoaaa
set_option maxRecDepth 100000
open Go.RowKit
/-- Whether a part lies in the way of a fold. -/
def blocked (f : Fd) (pl lv : List Int) (s : Nat) : Bool := btw (lv.getD s 0) (lv.getD f.a 0) (lv.getD f.b 0) && btw f.p (pl.getD s 0) (pl.getD (s + 1) 0)
def foldUp (f : Fd) (lv : List Int) : Bool := decide (lv.getD f.a 0 < lv.getD f.b 0) == f.h
def foldRight (n : Nat) (pl lv : List Int) (f : Fd) (t : List Fd) : Bool := foldUp f lv && ((List.range n).all (fun s => !blocked f pl lv s) && t.all (fun o => !(crossedL f o lv || crossedL o f lv)))
def rightGo (n : Nat) (pl lv : List Int) : List Fd → Bool
  | [] => true
  | f :: t => foldRight n pl lv f t && rightGo n pl lv t
/-- Whether layers are right for folds between parts. -/
def rightL (n : Nat) (pl : List Int) (fs : List Fd) (l : List Int) : Bool :=
  match levelsL l with
  | some lv => rightGo n pl lv fs
  | none => false
set_option maxRecDepth 100000 in
set_option maxHeartbeats 8000000 in
theorem right (F gf gp N cf cp g n c : Nat) (fs : List Fd) (pl l : List Int) (w : World) (h0 : w.cell? ⟨F, 0, none⟩ = some (.int .i64 n)) (h1 : w.cell? ⟨F, 1, none⟩ = some (.slice (some ⟨gp, 0, none⟩) (n + 1) cp))
    (h2 : w.cell? ⟨F, 2, none⟩ = some (.slice (some ⟨gf, 0, none⟩) N cf)) (hl : l.length = n) (hr : RowI w g l) (hfs : fs.length = N) (hrf : RowF w gf fs) (hpl : pl.length = n + 1) (hrp : RowI w gp pl) (hn : n ≤ 10) (hN : N ≤ 10) (hNc : N ≤ cf)
    (hin : ∀ f ∈ fs, f.a < n ∧ f.b < n) :
    Calls Try.prog 72 #[.pointer (some ⟨F, 0, none⟩), .slice (some ⟨g, 0, none⟩) n c] w fun e w' => e = .returned (.bool (rightL n pl fs l)) ∧ Below w.heap.size w w' := by
  have hF := World.block_lt_of_cell? w _ h0
  have C1 := levelsOf g n c l w hl (by omega) hr
  cases hlv : levelsL l with
  | none =>
    have HP : Hid (rightL n pl fs l = false) := by show _ = _; unfold rightL; rw [hlv]
    have HC1 := Lib.hid C1
    have HLV := Lib.hid hlv
    clear C1 hlv hl hr hfs hrf hpl hrp hin
    go_enter Try.func72, Try.ntmps72
    go_wp2_with fail
    refine HC1.out.mono ?_
    intro e w2 h2
    obtain ⟨rfl, hb2⟩ := (levels_none HLV.out).1 h2
    clear h2
    go_wp2_with fail
    go_ret
    exact ⟨ret_bool (by rw [HP.out]), hb2⟩
  | some lv =>
    have HP : Hid (rightL n pl fs l = rightGo n pl lv fs) := by show _ = _; unfold rightL; rw [hlv]
    have HC1 := Lib.hid C1
    have HLV := Lib.hid hlv
    have HLN : Hid (lv.length = n) := by show _ = _; rw [levelsL_length hlv, hl]
    have HL := Lib.hid hl
    have HFS := Lib.hid hfs
    have HRF := Lib.hid hrf
    have HRP := Lib.hid hrp
    have HPL := Lib.hid hpl
    have HIN := Lib.hid hin
    have H1 := Lib.hid h1
    have hgf := hrf.1
    have hgp := hrp.1
    clear C1 hlv hl hr hfs hrf hpl hrp hin
    go_enter Try.func72, Try.ntmps72
    go_wp2_with fail
    refine HC1.out.mono ?_
    intro e w2 h2x
    obtain ⟨g2, c2, rfl, hg2, hr2, hb2⟩ := (levels_some HLV.out).1 h2x
    rw [HL.out]
    have hz2 := hb2.size
    have hg2l := hr2.1
    have HR2 := Lib.hid hr2
    have HB2 := Lib.hid hb2
    have e2 := (hb2.cell (p := ⟨F, 2, none⟩) hF).trans h2
    clear h2x hr2 h0 h1 h2
    go_wp2_with fail
    go_loopw [31] (fun i wr => ∃ k : Nat, k ≤ N ∧ i = .int .i64 k ∧ Hid (rightGo n pl lv fs = rightGo n pl lv (fs.drop k)) ∧ Below w2.heap.size w2 wr) (fun i _ => N - (intOf i).toNat)
    case atStart => exact ⟨0, Nat.zero_le _, rfl, Lib.hid rfl, Below.refl _ _⟩
    case round =>
      obtain ⟨k, hk, rfl, HRT, hbel⟩ := hrel
      have hzr := hbel.size
      by_cases hlt : k < N
      · obtain ⟨f, hf⟩ : ∃ f, fs[k]? = some f := ⟨_, List.getElem?_eq_getElem (by rw [HFS.out]; exact hlt)⟩
        obtain ⟨n1, n3⟩ := HIN.out f (List.mem_of_getElem? hf)
        have HD : Hid (fs.drop k = f :: fs.drop (k + 1)) := by
          show _ = _
          obtain ⟨h1, h2⟩ := List.getElem?_eq_some_iff.1 hf
          rw [List.drop_eq_getElem_cons h1, h2]
        obtain ⟨a1, a2, a3, a4⟩ := HRF.out.2 k f hf
        obtain ⟨fa, fb, fp, fh⟩ := f
        simp only at a1 a2 a3 a4 n1 n3
        have hgf2 : gf < w2.heap.size := by omega
        have b1 := (hbel.cell (p := ⟨gf, k * 4, none⟩) hgf2).trans ((HB2.out.cell (p := ⟨gf, k * 4, none⟩) hgf).trans a1)
        have b2 := (hbel.cell (p := ⟨gf, k * 4 + 1, none⟩) hgf2).trans ((HB2.out.cell (p := ⟨gf, k * 4 + 1, none⟩) hgf).trans a2)
        have b3 := (hbel.cell (p := ⟨gf, k * 4 + 2, none⟩) hgf2).trans ((HB2.out.cell (p := ⟨gf, k * 4 + 2, none⟩) hgf).trans a3)
        have b4 := (hbel.cell (p := ⟨gf, k * 4 + 3, none⟩) hgf2).trans ((HB2.out.cell (p := ⟨gf, k * 4 + 3, none⟩) hgf).trans a4)
        clear a1 a2 a3 a4 hf
        go_wp2_with fail
        have hb3 : Below w2.heap.size w2 (wr.alloc (.cells #[.int .i64 fa, .int .i64 fb, .int .i64 fp, .bool fh] 76)) := hbel.alloc hzr _
        have d1 : (wr.alloc (.cells #[.int .i64 fa, .int .i64 fb, .int .i64 fp, .bool fh] 76)).cell? ⟨wr.heap.size, 0, none⟩ = some (.int .i64 fa) := World.cell?_alloc_mark wr _ _ (0, 0) 0
        have d2 : (wr.alloc (.cells #[.int .i64 fa, .int .i64 fb, .int .i64 fp, .bool fh] 76)).cell? ⟨wr.heap.size, 1, none⟩ = some (.int .i64 fb) := World.cell?_alloc_mark wr _ _ (0, 0) 1
        have d3 : (wr.alloc (.cells #[.int .i64 fa, .int .i64 fb, .int .i64 fp, .bool fh] 76)).cell? ⟨wr.heap.size, 2, none⟩ = some (.int .i64 fp) := World.cell?_alloc_mark wr _ _ (0, 0) 2
        have d4 : (wr.alloc (.cells #[.int .i64 fa, .int .i64 fb, .int .i64 fp, .bool fh] 76)).cell? ⟨wr.heap.size, 3, none⟩ = some (.bool fh) := World.cell?_alloc_mark wr _ _ (0, 0) 3
        have hT : wr.heap.size < (wr.alloc (.cells #[.int .i64 fa, .int .i64 fb, .int .i64 fp, .bool fh] 76)).heap.size := World.block_lt_of_cell? _ _ d1
        clear b1 b2 b3 b4
        generalize (wr.alloc (.cells #[.int .i64 fa, .int .i64 fb, .int .i64 fp, .bool fh] 76)) = w3 at *
        generalize wr.heap.size = T at *
        have hz3 := hb3.size
        have hF2 : F < w2.heap.size := by omega
        have hF3 : F < w3.heap.size := by omega
        have hg23 : g2 < w3.heap.size := by omega
        have hgp2 : gp < w2.heap.size := by omega
        have hgp3 : gp < w3.heap.size := by omega
        have hgf3 : gf < w3.heap.size := by omega
        have hlvn := HLN.out
        have q1 := (hb3.cell (p := ⟨g2, fa, none⟩) hg2l).trans (HR2.out.2 fa _ (getD_some (by omega)))
        have q2 := (hb3.cell (p := ⟨g2, fb, none⟩) hg2l).trans (HR2.out.2 fb _ (getD_some (by omega)))
        clear hlvn
        obtain ⟨A, hA⟩ : ∃ A, A = lv.getD fa 0 := ⟨_, rfl⟩
        obtain ⟨B, hB⟩ : ∃ B, B = lv.getD fb 0 := ⟨_, rfl⟩
        rw [← hA] at q1
        rw [← hB] at q2
        have HA := Lib.hid hA
        have HB := Lib.hid hB
        clear hA hB
        have m0 : (0 : Int) ≤ (fa : Int) := by omega
        have m1 : (fa : Int) < (n : Int) := by omega
        have m2 : (0 : Int) ≤ (fb : Int) := by omega
        have m3 : (fb : Int) < (n : Int) := by omega
        cases hup : (decide (A < B) == fh) with
        | false =>
          have HPF : Hid (rightGo n pl lv fs = false) := by
            show _ = _
            rw [HRT.out, HD.out]
            unfold rightGo foldRight foldUp
            simp only
            rw [← HA.out, ← HB.out, hup]
            rfl
          have tu : (!decide (A < B) == fh) = true := by rw [hup]; rfl
          clear hup
          go_wp2_with fail
          go_quiet (fail)
          go_wp2_with fail
          go_ret
          exact ⟨ret_bool (by rw [HP.out, HPF.out]), HB2.out.trans (below_drewN (hb3.mono hz2) _)⟩
        | true =>
          have HUP : Hid (foldUp ⟨fa, fb, fp, fh⟩ lv = true) := by
            show _ = _
            unfold foldUp
            simp only
            rw [← HA.out, ← HB.out, hup]
          have tu : (!decide (A < B) == fh) = false := by rw [hup]; rfl
          clear hup
          go_wp2_with fail
          go_quiet (fail)
          go_wp2_with fail
          clear q1 q2 m0 m1 m2 m3
          have hbel4 := below_drewN hb3 nq
          go_loopw [54] (fun i wr => ∃ s : Nat, s ≤ n ∧ i = .int .i64 s ∧ Hid (∀ s', s' < s → blocked ⟨fa, fb, fp, fh⟩ pl lv s' = false) ∧ Below w3.heap.size w3 wr) (fun i _ => n - (intOf i).toNat)
          case atStart => exact ⟨0, Nat.zero_le _, rfl, Lib.hid (fun s' h => by omega), below_drewN (Below.refl _ _) _⟩
          case round =>
            obtain ⟨s, hs, rfl, HSB, hbel5⟩ := hrel
            have hzr5 := hbel5.size
            by_cases hls : s < n
            · have hlvn := HLN.out
              have r1 := (hbel5.cell (p := ⟨g2, s, none⟩) hg23).trans ((hb3.cell (p := ⟨g2, s, none⟩) hg2l).trans (HR2.out.2 s _ (getD_some (by omega))))
              clear hlvn
              obtain ⟨L, hL⟩ : ∃ L, L = lv.getD s 0 := ⟨_, rfl⟩
              rw [← hL] at r1
              have HL2 := Lib.hid hL
              clear hL
              have r3 := (hbel5.cell (p := ⟨T, 2, none⟩) hT).trans d3
              have HBL : Hid (blocked ⟨fa, fb, fp, fh⟩ pl lv s = (btw L A B && btw fp (pl.getD s 0) (pl.getD (s + 1) 0))) := by
                show _ = _
                unfold blocked
                simp only
                rw [HL2.out, HA.out, HB.out]
              obtain ⟨X, hX⟩ : ∃ X, X = btw L A B := ⟨_, rfl⟩
              have C2 : ∀ w, Calls Try.prog 57 #[.int .i64 L, .int .i64 A, .int .i64 B] w fun e w' => e = .returned (.bool X) ∧ w = w' := fun w => by rw [hX]; exact isBetween L A B w
              rw [← hX] at HBL
              cases X with
              | false =>
                have HC2 := Lib.hid C2
                have HS2 : Hid (∀ s', s' < s + 1 → blocked ⟨fa, fb, fp, fh⟩ pl lv s' = false) := fun s' h => by
                  by_cases e : s' < s
                  · exact HSB.out s' e
                  · have : s' = s := by omega
                    subst this
                    rw [HBL.out]
                    rfl
                clear C2 hX
                go_wp2_with fail
                refine (HC2.out _).mono ?_
                rintro e w6 ⟨rfl, rfl⟩
                go_wp2_with fail
                go_roundw
                case rel => exact ⟨s + 1, by omega, by go_num, HS2, hbel5⟩
                case measure => simp [intOf]; omega
              | true =>
                have C3 := inside F gp (n + 1) cp pl fp s wr ((hbel5.cell (p := ⟨F, 1, none⟩) hF3).trans ((hb3.cell (p := ⟨F, 1, none⟩) hF2).trans ((HB2.out.cell (p := ⟨F, 1, none⟩) hF).trans H1.out)))
                  (((HRP.out.below HB2.out hgp).below hb3 hgp2).below hbel5 hgp3) HPL.out (by omega) (by omega)
                obtain ⟨Z, hZ⟩ : ∃ Z, Z = btw fp (pl.getD s 0) (pl.getD (s + 1) 0) := ⟨_, rfl⟩
                rw [← hZ] at C3 HBL
                have HC2 := Lib.hid C2
                have HC3 := Lib.hid C3
                cases Z with
                | false =>
                  have HS2 : Hid (∀ s', s' < s + 1 → blocked ⟨fa, fb, fp, fh⟩ pl lv s' = false) := fun s' h => by
                    by_cases e : s' < s
                    · exact HSB.out s' e
                    · have : s' = s := by omega
                      subst this
                      rw [HBL.out]
                      rfl
                  clear C2 C3 hX hZ
                  go_wp2_with fail
                  refine (HC2.out _).mono ?_
                  rintro e w6 ⟨rfl, rfl⟩
                  go_wp2_with fail
                  refine HC3.out.mono ?_
                  rintro e w7 ⟨rfl, hb7⟩
                  go_wp2_with fail
                  go_roundw
                  case rel => exact ⟨s + 1, by omega, by go_num, HS2, hbel5.trans (hb7.mono hzr5)⟩
                  case measure => simp [intOf]; omega
                | true =>
                  have HPF : Hid (rightGo n pl lv fs = false) := by
                    show _ = _
                    have : (List.range n).all (fun s => !blocked ⟨fa, fb, fp, fh⟩ pl lv s) = false := by
                      rw [List.all_eq_false]
                      exact ⟨s, List.mem_range.2 hls, by rw [HBL.out]; decide⟩
                    rw [HRT.out, HD.out]
                    unfold rightGo foldRight
                    rw [this, Bool.false_and, Bool.and_false]
                    rfl
                  clear C2 C3 hX hZ
                  go_wp2_with fail
                  refine (HC2.out _).mono ?_
                  rintro e w6 ⟨rfl, rfl⟩
                  go_wp2_with fail
                  refine HC3.out.mono ?_
                  rintro e w7 ⟨rfl, hb7⟩
                  go_wp2_with fail
                  go_ret
                  exact ⟨ret_bool (by rw [HP.out, HPF.out]), HB2.out.trans ((hb3.trans ((hbel5.trans (hb7.mono hzr5)).mono hz3)).mono hz2)⟩
            · obtain rfl : s = n := by omega
              have HAL : Hid ((List.range s).all (fun s => !blocked ⟨fa, fb, fp, fh⟩ pl lv s) = true) := by
                show _ = _
                rw [List.all_eq_true]
                intro x hx
                rw [HSB.out x (List.mem_range.1 hx)]
                rfl
              have e3 := (hbel5.cell (p := ⟨F, 2, none⟩) hF3).trans ((hb3.cell (p := ⟨F, 2, none⟩) hF2).trans e2)
              have hs3 := hbel5.size
              have hnext : (∀ j' o, j' < N - (k + 1) → fs[k + 1 + j']? = some o → (crossedL ⟨fa, fb, fp, fh⟩ o lv || crossedL o ⟨fa, fb, fp, fh⟩ lv) = false) → rightGo s pl lv fs = rightGo s pl lv (fs.drop (k + 1)) := fun h => by
                have e1 : (fs.drop (k + 1)).all (fun o => !(crossedL ⟨fa, fb, fp, fh⟩ o lv || crossedL o ⟨fa, fb, fp, fh⟩ lv)) = true := by
                  rw [List.all_eq_true]
                  intro o ho
                  obtain ⟨j', h1⟩ := List.getElem?_of_mem ho
                  rw [List.getElem?_drop] at h1
                  have h2 := (List.getElem?_eq_some_iff.1 h1).1
                  rw [HFS.out] at h2
                  rw [h j' o (by omega) h1]
                  rfl
                rw [HRT.out, HD.out]
                show (foldRight _ _ _ _ _ && _) = _
                unfold foldRight
                rw [HUP.out, HAL.out, e1]
                rfl
              have HNX := Lib.hid hnext
              clear hnext
              by_cases hcap : cf = k + 1
              · have hNk : N = k + 1 := by omega
                have hz0 : ¬ (0 : Int) < ((k + 1 - (k + 1) : Nat) : Int) := by omega
                subst hcap
                subst hNk
                go_wp2_with fail
                go_loopw [79] (fun i wr => i = .int .i64 0 ∧ Below w3.heap.size w3 wr) (fun i _ => 0)
                case atStart => exact ⟨rfl, hbel5⟩
                case round =>
                  obtain ⟨rfl, hbel8⟩ := hrel
                  go_wp2_with fail
                  simp only [show ((k : Int) + 1) = ((k + 1 : Nat) : Int) from rfl]
                  go_roundw
                  case rel => exact ⟨k + 1, by omega, rfl, Lib.hid <| HNX.out (fun j' o h => by omega), hb3.trans (hbel8.mono hz3)⟩
                  case measure => simp [intOf]
              · have HCAP := Lib.hid hcap
                go_wp2_with fail
                go_loopw [79] (fun i wr => ∃ j : Nat, j ≤ N - (k + 1) ∧ i = .int .i64 j ∧ Hid (∀ j' o, j' < j → fs[k + 1 + j']? = some o → (crossedL ⟨fa, fb, fp, fh⟩ o lv || crossedL o ⟨fa, fb, fp, fh⟩ lv) = false) ∧ Below w3.heap.size w3 wr) (fun i _ => N - (intOf i).toNat)
                case atStart => exact ⟨0, Nat.zero_le _, rfl, Lib.hid (fun j' o h => by omega), hbel5⟩
                case round =>
                  obtain ⟨j, hj, rfl, HCR, hbel8⟩ := hrel
                  have hzr8 := hbel8.size
                  by_cases hlj : j < N - (k + 1)
                  · obtain ⟨o, ho⟩ : ∃ o, fs[k + 1 + j]? = some o := ⟨_, List.getElem?_eq_getElem (by rw [HFS.out]; omega)⟩
                    obtain ⟨p1, p2⟩ := HIN.out o (List.mem_of_getElem? ho)
                    obtain ⟨x1, x2, x3, x4⟩ := HRF.out.2 (k + 1 + j) o ho
                    rw [show (k + 1 + j) * 4 = (k + 1) * 4 + j * 4 by omega] at x1 x2 x3 x4
                    have mv : ∀ {i : Nat} {v : Value}, w.cell? ⟨gf, i, none⟩ = some v → wr.cell? ⟨gf, i, none⟩ = some v := fun {i} {v} h => (hbel8.cell (p := ⟨gf, i, none⟩) hgf3).trans ((hb3.cell (p := ⟨gf, i, none⟩) hgf2).trans ((HB2.out.cell (p := ⟨gf, i, none⟩) hgf).trans h))
                    have y1 := mv x1
                    have y2 := mv x2
                    have y3 := mv x3
                    have y4 := mv x4
                    have z1 := (hbel8.cell (p := ⟨T, 0, none⟩) hT).trans d1
                    have z2 := (hbel8.cell (p := ⟨T, 1, none⟩) hT).trans d2
                    have z3 := (hbel8.cell (p := ⟨T, 2, none⟩) hT).trans d3
                    have z4 := (hbel8.cell (p := ⟨T, 3, none⟩) hT).trans d4
                    have hTw : T < wr.heap.size := by omega
                    have hrow := ((HR2.out.below hb3 hg2l).below hbel8 hg23)
                    have hXin : (crossedL ⟨fa, fb, fp, fh⟩ o lv || crossedL o ⟨fa, fb, fp, fh⟩ lv) = true → rightGo s pl lv fs = false := fun hx => by
                      have e1 : (fs.drop (k + 1)).all (fun o => !(crossedL ⟨fa, fb, fp, fh⟩ o lv || crossedL o ⟨fa, fb, fp, fh⟩ lv)) = false := by
                        rw [List.all_eq_false]
                        exact ⟨o, List.mem_of_getElem? (i := j) (by rw [List.getElem?_drop]; exact ho), by rw [hx]; decide⟩
                      rw [HRT.out, HD.out]
                      show (foldRight _ _ _ _ _ && _) = _
                      unfold foldRight
                      rw [e1, Bool.and_false, Bool.and_false]
                      rfl
                    have HXI := Lib.hid hXin
                    have HO := Lib.hid ho
                    have C5 := fun w (h : RowI w g2 lv) => crossed ⟨fa, fb, fp, fh⟩ o g2 s c2 lv w HLN.out (by omega) h n1 n3 p1 p2
                    have C6 := fun w (h : RowI w g2 lv) => crossed o ⟨fa, fb, fp, fh⟩ g2 s c2 lv w HLN.out (by omega) h p1 p2 n1 n3
                    have HRO := Lib.hid hrow
                    obtain ⟨oa, ob, op, oh⟩ := o
                    simp only at y1 y2 y3 y4
                    obtain ⟨X, hX⟩ : ∃ X, X = crossedL ⟨fa, fb, fp, fh⟩ ⟨oa, ob, op, oh⟩ lv := ⟨_, rfl⟩
                    obtain ⟨Y, hY⟩ : ∃ Y, Y = crossedL ⟨oa, ob, op, oh⟩ ⟨fa, fb, fp, fh⟩ lv := ⟨_, rfl⟩
                    rw [← hX] at C5
                    rw [← hY] at C6
                    rw [← hX, ← hY] at HXI
                    have HX := Lib.hid hX
                    have HY := Lib.hid hY
                    have HC5 := Lib.hid C5
                    have HC6 := Lib.hid C6
                    clear x1 x2 x3 x4 ho hXin C5 C6 hX hY hrow p1 p2
                    go_wp2_with fail
                    have w1 : (wr.alloc (.cells #[.int .i64 oa, .int .i64 ob, .int .i64 op, .bool oh] 76)).cell? ⟨wr.heap.size, 0, none⟩ = some (.int .i64 oa) := World.cell?_alloc_mark wr _ _ (0, 0) 0
                    have w2' : (wr.alloc (.cells #[.int .i64 oa, .int .i64 ob, .int .i64 op, .bool oh] 76)).cell? ⟨wr.heap.size, 1, none⟩ = some (.int .i64 ob) := World.cell?_alloc_mark wr _ _ (0, 0) 1
                    have w3' : (wr.alloc (.cells #[.int .i64 oa, .int .i64 ob, .int .i64 op, .bool oh] 76)).cell? ⟨wr.heap.size, 2, none⟩ = some (.int .i64 op) := World.cell?_alloc_mark wr _ _ (0, 0) 2
                    have w4 : (wr.alloc (.cells #[.int .i64 oa, .int .i64 ob, .int .i64 op, .bool oh] 76)).cell? ⟨wr.heap.size, 3, none⟩ = some (.bool oh) := World.cell?_alloc_mark wr _ _ (0, 0) 3
                    have hba : Below wr.heap.size wr (wr.alloc (.cells #[.int .i64 oa, .int .i64 ob, .int .i64 op, .bool oh] 76)) := (Below.refl _ _).alloc (Nat.le_refl _) _
                    have hT9 : wr.heap.size < (wr.alloc (.cells #[.int .i64 oa, .int .i64 ob, .int .i64 op, .bool oh] 76)).heap.size := World.block_lt_of_cell? _ _ w1
                    have hg2w : g2 < wr.heap.size := by omega
                    have hro := HRO.out.below hba hg2w
                    have v1 := (hba.cell (p := ⟨T, 0, none⟩) hTw).trans z1
                    have v2 := (hba.cell (p := ⟨T, 1, none⟩) hTw).trans z2
                    have v3 := (hba.cell (p := ⟨T, 2, none⟩) hTw).trans z3
                    have v4 := (hba.cell (p := ⟨T, 3, none⟩) hTw).trans z4
                    have hbel9 := hbel8.trans (hba.mono hzr8)
                    have hT10 : T < (wr.alloc (.cells #[.int .i64 oa, .int .i64 ob, .int .i64 op, .bool oh] 76)).heap.size := by omega
                    clear y1 y2 y3 y4 z1 z2 z3 z4 mv hba
                    generalize (wr.alloc (.cells #[.int .i64 oa, .int .i64 ob, .int .i64 op, .bool oh] 76)) = w9 at *
                    generalize wr.heap.size = T9 at *
                    have hz9 := hbel9.size
                    refine (HC5.out _ hro).mono ?_
                    rintro e w10 ⟨rfl, hb10⟩
                    have hz10 := hb10.size
                    have hbel10 := hbel9.trans (hb10.mono hz9)
                    have hz11 := hbel10.size
                    have s1 := (hb10.cell (p := ⟨T9, 0, none⟩) hT9).trans w1
                    have s2 := (hb10.cell (p := ⟨T9, 1, none⟩) hT9).trans w2'
                    have s3 := (hb10.cell (p := ⟨T9, 2, none⟩) hT9).trans w3'
                    have s4 := (hb10.cell (p := ⟨T9, 3, none⟩) hT9).trans w4
                    have t1 := (hb10.cell (p := ⟨T, 0, none⟩) hT10).trans v1
                    have t2 := (hb10.cell (p := ⟨T, 1, none⟩) hT10).trans v2
                    have t3 := (hb10.cell (p := ⟨T, 2, none⟩) hT10).trans v3
                    have t4 := (hb10.cell (p := ⟨T, 3, none⟩) hT10).trans v4
                    have hg2w9 : g2 < w9.heap.size := by omega
                    have hro10 := Lib.hid (hro.below hb10 hg2w9)
                    clear w1 w2' w3' w4 v1 v2 v3 v4 hro
                    cases X with
                    | true =>
                      have HF := Lib.hid (HXI.out rfl)
                      go_wp2_with fail
                      go_ret
                      exact ⟨ret_bool (by rw [HP.out, HF.out]), HB2.out.trans ((hb3.trans (hbel10.mono hz3)).mono hz2)⟩
                    | false =>
                      go_wp2_with fail
                      refine (HC6.out _ hro10.out).mono ?_
                      rintro e w11 ⟨rfl, hb11⟩
                      have hbel11 := hbel10.trans (hb11.mono hz11)
                      cases Y with
                      | true =>
                        have HF := Lib.hid (HXI.out rfl)
                        go_wp2_with fail
                        go_ret
                        exact ⟨ret_bool (by rw [HP.out, HF.out]), HB2.out.trans ((hb3.trans (hbel11.mono hz3)).mono hz2)⟩
                      | false =>
                        have HC2 : Hid (∀ j' o, j' < j + 1 → fs[k + 1 + j']? = some o → (crossedL ⟨fa, fb, fp, fh⟩ o lv || crossedL o ⟨fa, fb, fp, fh⟩ lv) = false) := fun j' o h1 h2 => by
                          by_cases e : j' < j
                          · exact HCR.out j' o e h2
                          · have : j' = j := by omega
                            subst this
                            rw [HO.out] at h2
                            rw [← Option.some.inj h2, ← HX.out, ← HY.out]
                            rfl
                        go_wp2_with fail
                        go_roundw
                        case rel => exact ⟨j + 1, by omega, by go_num, HC2, hbel11⟩
                        case measure => simp [intOf]; omega
                  · obtain rfl : j = N - (k + 1) := by omega
                    go_wp2_with fail
                    go_roundw
                    case rel => exact ⟨k + 1, by omega, by go_num, Lib.hid (HNX.out (fun j' o h1 h2 => HCR.out j' o h1 h2)), hb3.trans (hbel8.mono hz3)⟩
                    case measure => simp [intOf]; omega
      · obtain rfl : k = N := by omega
        have HT : Hid (rightGo n pl lv fs = true) := by
          show _ = _
          rw [HRT.out, List.drop_of_length_le (by rw [HFS.out]; exact Nat.le_refl _)]
          rfl
        go_wp2_with fail
        go_ret
        exact ⟨ret_bool (by rw [HP.out, HT.out]), HB2.out.trans (hbel.mono hz2)⟩
set_option maxRecDepth 100000 in
set_option maxHeartbeats 4000000 in
theorem rightNil (F g n c : Nat) (pl l : List Int) (w : World) (h0 : w.cell? ⟨F, 0, none⟩ = some (.int .i64 n))
    (h2 : w.cell? ⟨F, 2, none⟩ = some (.slice none 0 0)) (hl : l.length = n) (hr : RowI w g l) (hn : n ≤ 10) :
    Calls Try.prog 72 #[.pointer (some ⟨F, 0, none⟩), .slice (some ⟨g, 0, none⟩) n c] w fun e w' => e = .returned (.bool (rightL n pl [] l)) ∧ Below w.heap.size w w' := by
  have hF := World.block_lt_of_cell? w _ h0
  have C1 := levelsOf g n c l w hl (by omega) hr
  cases hlv : levelsL l with
  | none =>
    have HP : Hid (rightL n pl [] l = false) := by show _ = _; unfold rightL; rw [hlv]
    have HC1 := Lib.hid C1
    have HLV := Lib.hid hlv
    clear C1 hlv hl hr
    go_enter Try.func72, Try.ntmps72
    go_wp2_with fail
    refine HC1.out.mono ?_
    intro e w2 h2
    obtain ⟨rfl, hb2⟩ := (levels_none HLV.out).1 h2
    clear h2
    go_wp2_with fail
    go_ret
    exact ⟨ret_bool (by rw [HP.out]), hb2⟩
  | some lv =>
    have HP : Hid (rightL n pl [] l = true) := by show _ = _; unfold rightL; rw [hlv]; rfl
    have HC1 := Lib.hid C1
    have HLV := Lib.hid hlv
    have HL := Lib.hid hl
    clear C1 hlv hl hr
    go_enter Try.func72, Try.ntmps72
    go_wp2_with fail
    refine HC1.out.mono ?_
    intro e w2 h2x
    obtain ⟨g2, c2, rfl, hg2, hr2, hb2⟩ := (levels_some HLV.out).1 h2x
    rw [HL.out]
    have e2 := (hb2.cell (p := ⟨F, 2, none⟩) hF).trans h2
    clear h2x hr2 h0 h2
    go_wp2_with fail
    go_loopw [31] (fun i wr => i = .int .i64 0 ∧ w2 = wr) (fun i _ => 0)
    case atStart => exact ⟨rfl, rfl⟩
    case round =>
      obtain ⟨rfl, rfl⟩ := hrel
      go_wp2_with fail
      go_ret
      exact ⟨ret_bool (by rw [HP.out]), hb2⟩
end Go.Proofs.Ytadpbbjahckoaaa
