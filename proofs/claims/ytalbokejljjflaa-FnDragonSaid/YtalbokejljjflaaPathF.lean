/- The walks of PathOnce, of the program and of the reference. Conditions: each theorem's own premises. -/
import Derived.Test.YtalbokejljjflaaPathE
import Derived.Deep.CutRange
namespace Go.Proofs.Ytalbokejljjflaa
open Go.RowKit Go.Maps
/-- A law for a look-up in a map that counts. -/
theorem wpList_counts_look {ops : Array Oper} {rest : List Oper} {o : Oper} {a : Act} {Q : Exit → Act → World → Prop} {w : World} {K t : TypeId} {b n : Nat} {c : Value → Int}
    (hg : o.guard = none) (m x : Operand) (hop : o.op = Op.lookup t m x false) (h : Counts K w b n c) (L : WideMaps.KeyLaw Try.prog K) (ht : Try.prog.underlying t = some (.map K 3)) (hm : a.eval m = .map (some b)) (v : Value) (hx : a.eval x = v)
    (hk : ∃ kl, keyOf Try.prog K v = some kl) (n' : Int) (hn : c v = n') (hK : wpList Try.prog ops Q rest (a.put o.dst (.int .i64 n')) w) : wpList Try.prog ops Q (o :: rest) a w := by
  refine wpList_plain hg fun K' hK' => ?_
  obtain ⟨kl, hk⟩ := hk
  subst hn
  have hrun := h.look L ht hk
  unfold Oper.wp
  simp [execOp, hop, hm, hx, hrun, Result.andThen]
  exact hK' _ _ hK
/-- Block q holds a step; what is below the heap of wr is as it was. -/
structure StepAt (wr W : World) (q : Nat) (X : (Int × Int) × (Int × Int)) : Prop where
  b : Below wr.heap.size wr W
  q1 : W.cell? ⟨q, 0, none⟩ = some (.int .i64 X.1.1)
  q2 : W.cell? ⟨q, 1, none⟩ = some (.int .i64 X.1.2)
  q3 : W.cell? ⟨q, 2, none⟩ = some (.int .i64 X.2.1)
  q4 : W.cell? ⟨q, 3, none⟩ = some (.int .i64 X.2.2)
theorem stepAt_new {wr w2 : World} {X : (Int × Int) × (Int × Int)} (h : Below wr.heap.size wr w2) (T : TypeId) : StepAt wr (w2.alloc (.cells #[.int .i64 X.1.1, .int .i64 X.1.2, .int .i64 X.2.1, .int .i64 X.2.2] T)) w2.heap.size X :=
  ⟨h.alloc h.size _, World.cell?_alloc_mark w2 _ T (0, 0) 0, World.cell?_alloc_mark w2 _ T (0, 0) 1, World.cell?_alloc_mark w2 _ T (0, 0) 2, World.cell?_alloc_mark w2 _ T (0, 0) 3⟩
theorem stepAt_old {wr w2 : World} {X : (Int × Int) × (Int × Int)} {q : Nat} {a b c d : Value} (h : Below wr.heap.size wr w2) (hq : wr.heap.size ≤ q) (e1 : w2.cell? ⟨q, 0, none⟩ = some a) (e2 : w2.cell? ⟨q, 1, none⟩ = some b) (e3 : w2.cell? ⟨q, 2, none⟩ = some c) (e4 : w2.cell? ⟨q, 3, none⟩ = some d) :
    StepAt wr ((((w2.setCell ⟨q, 0, none⟩ (.int .i64 X.1.1)).setCell ⟨q, 1, none⟩ (.int .i64 X.1.2)).setCell ⟨q, 2, none⟩ (.int .i64 X.2.1)).setCell ⟨q, 3, none⟩ (.int .i64 X.2.2)) q X := by
  have other : ∀ (Y : World) (a b : Nat) (v : Value), a ≠ b → (Y.setCell ⟨q, a, none⟩ v).cell? ⟨q, b, none⟩ = Y.cell? ⟨q, b, none⟩ := fun Y a b v hab =>
    World.cell?_setCell_other Y ⟨q, a, none⟩ ⟨q, b, none⟩ v (by intro h; injection h; exact hab (by assumption))
  refine ⟨(((h.setCell hq _).setCell hq _).setCell hq _).setCell hq _, ?_, ?_, ?_, ?_⟩
  · rw [other _ _ _ _ (by omega), other _ _ _ _ (by omega), other _ _ _ _ (by omega), World.cell?_setCell_same _ _ _ e1]
  · rw [other _ _ _ _ (by omega), other _ _ _ _ (by omega), World.cell?_setCell_same _ _ _ (by rw [other _ _ _ _ (by omega)]; exact e2)]
  · rw [other _ _ _ _ (by omega), World.cell?_setCell_same _ _ _ (by rw [other _ _ _ _ (by omega), other _ _ _ _ (by omega)]; exact e3)]
  · rw [World.cell?_setCell_same _ _ _ (by rw [other _ _ _ _ (by omega), other _ _ _ _ (by omega), other _ _ _ _ (by omega)]; exact e4)]
theorem wp_at {P : Program} {c : Code} {Q : Exit → Act → World → Prop} {a : Act} {W : World} (S : World → Prop) (hS : S W) (h : ∀ W', S W' → c.wp P Q a W') : c.wp P Q a W := h W hS
/-- A block that the caller has made ahead of a call. -/
theorem new_kept {C : Prop} {w w2 : World} {T : TypeId} {a b c d : Value} (hb : Below (w.drew.alloc (.cells #[a, b, c, d] T)).heap.size (w.drew.alloc (.cells #[a, b, c, d] T)) w2)
    (k : w2.cell? ⟨w.heap.size, 0, none⟩ = some a → w2.cell? ⟨w.heap.size, 1, none⟩ = some b → w2.cell? ⟨w.heap.size, 2, none⟩ = some c → w2.cell? ⟨w.heap.size, 3, none⟩ = some d →
      w2.frozen? ⟨w.heap.size, 0, none⟩ = false → w2.frozen? ⟨w.heap.size, 1, none⟩ = false → w2.frozen? ⟨w.heap.size, 2, none⟩ = false → w2.frozen? ⟨w.heap.size, 3, none⟩ = false → C) : C :=
  have h : w.heap.size < (w.drew.alloc (.cells #[a, b, c, d] T)).heap.size := by simp
  have q := fun j => hb.cell (p := ⟨w.heap.size, j, none⟩) h
  have z := fun j => hb.frozen (p := ⟨w.heap.size, j, none⟩) h
  k ((q 0).trans (World.cell?_alloc_mark w.drew _ T (0, 0) 0)) ((q 1).trans (World.cell?_alloc_mark w.drew _ T (0, 0) 1)) ((q 2).trans (World.cell?_alloc_mark w.drew _ T (0, 0) 2)) ((q 3).trans (World.cell?_alloc_mark w.drew _ T (0, 0) 3))
    ((z 0).trans (World.frozen?_alloc_mark w.drew _ T 0 0 0)) ((z 1).trans (World.frozen?_alloc_mark w.drew _ T 0 0 1)) ((z 2).trans (World.frozen?_alloc_mark w.drew _ T 0 0 2)) ((z 3).trans (World.frozen?_alloc_mark w.drew _ T 0 0 3))
open Classical in
theorem Counts.bump2 {K t : TypeId} {w : World} {b n : Nat} {c : Value → Int} (h : Counts K w b n c) (L : WideMaps.KeyLaw Try.prog K) (ht : Try.prog.underlying t = some (.map K 3)) {v : Value} {kl : Lit} (hk : keyOf Try.prog K v = some kl) (hn : n < maxLen) (y x : Int) (hy : c v = y) (hx : (Lit.int .i64 x).wf = true) :
    ∃ (st : Nat) (u1 u2 : World), (Instr.mapEntry t (.map (some b)) v).run Try.prog w = .ok (.tuple #[.int .i64 y, .int .i64 (st : Int)]) u1 ∧ (Instr.lookup t (.map (some b)) v false).run Try.prog u1 = .ok (.int .i64 y) u1 ∧
      (Instr.entryStore t (.map (some b)) (.int .i64 (st : Int)) (.int .i64 x)).run Try.prog u1 = .ok () u2 ∧ Counts K u2 b (n + 1) (fun u => if u = v then x else c u) ∧ w.grownBy u2 (some b) := by
  subst hy
  have hlt := h.lt
  obtain ⟨D0, ⟨es0, clock0, hb0, _⟩, _⟩ := h.map
  obtain ⟨st, es1, es2, k1, k2, r1, r2, r3, r4, r5⟩ := h.bump L ht hk hn x hx
  have hb1 : (ChangeMaps.setBlock w b (.map es1 k1)).heap[b]? = some (.map es1 k1) := ChangeMaps.heap_setBlock_same hb0 _
  refine ⟨st, _, _, r1, r2, r3, r5, ⟨rfl, rfl, rfl, by simp [ChangeMaps.setBlock], fun i _ hi => ?_⟩⟩
  have hne : i ≠ b := fun e => hi (by rw [e])
  rw [ChangeMaps.heap_setBlock_other hb1 _ hne, ChangeMaps.heap_setBlock_other hb0 _ hne]
/-- The j-th step of a list of places, told alike in both directions. -/
def sAt (ps : List (Int × Int)) (j : Nat) : Option ((Int × Int) × (Int × Int)) :=
  match ps[j]?, ps[j + 1]? with
  | some a, some b => some (stepN a b)
  | _, _ => none
theorem sAt_some {ps : List (Int × Int)} {j : Nat} {a b : Int × Int} (ha : ps[j]? = some a) (hb : ps[j + 1]? = some b) : sAt ps j = some (stepN a b) := by
  unfold sAt
  rw [ha, hb]
theorem sAt_form {ps : List (Int × Int)} {j : Nat} {x : (Int × Int) × (Int × Int)} (h : sAt ps j = some x) : ∃ a b, ps[j]? = some a ∧ ps[j + 1]? = some b ∧ x = stepN a b := by
  unfold sAt at h
  split at h
  · rename_i a b ha hb
    exact ⟨a, b, ha, hb, (Option.some.inj h).symm⟩
  · cases h
theorem stepV_inj {x y : (Int × Int) × (Int × Int)} (h : stepV x = stepV y) : x = y := by
  obtain ⟨⟨a, b⟩, ⟨c, d⟩⟩ := x
  obtain ⟨⟨a', b'⟩, ⟨c', d'⟩⟩ := y
  unfold stepV at h
  simp at h
  simp [h]
/-- No step is taken twice among the first k places. -/
def OnceTo (ps : List (Int × Int)) (k : Nat) : Prop := ∀ (i j : Nat) (x : (Int × Int) × (Int × Int)), j < i → i + 1 < k → sAt ps i = some x → sAt ps j ≠ some x
theorem once_to {ps : List (Int × Int)} (h : OnceTo ps ps.length) : OnceP ps := by
  intro i k a b c d hik h1 h2 h3 h4 hs
  have hl := (List.getElem?_eq_some_iff.1 h4).1
  exact h i k _ hik hl (sAt_some h3 h4) (by rw [sAt_some h1 h2, stepN_same.2 hs])
theorem not_once {ps : List (Int × Int)} {i j : Nat} {x : (Int × Int) × (Int × Int)} (hij : j < i) (hi : sAt ps i = some x) (hj : sAt ps j = some x) : ¬ OnceP ps := fun h => by
  obtain ⟨a, b, h1, h2, e1⟩ := sAt_form hi
  obtain ⟨c, d, h3, h4, e2⟩ := sAt_form hj
  exact h i j c d a b hij h3 h4 h1 h2 (stepN_same.1 (e2.symm.trans e1))
/-- PathPlaces has returned these places, N of them. -/
def PlacesGot (N : Nat) (ps : List (Int × Int)) (w : World) (e : Ending) (w' : World) : Prop :=
  ∃ g cap : Nat, e = .returned (.tuple #[.slice (some ⟨g, 0, none⟩) N cap, .bool true]) ∧ w.heap.size ≤ g ∧ g < w'.heap.size ∧ RowP w' g ps ∧ Below w.heap.size w w'
theorem PlacesBack.got {l : List UInt8} {w : World} {e : Ending} {w' : World} (h : PlacesBack l w e w') : PlacesGot (l.length + 2) (places l) w e w' := by
  obtain ⟨g, cap, he, hg, ho, hb⟩ := h
  exact ⟨g, cap, he, hg, (ho.lt g rfl).2, RowP.of_own ho, hb⟩
theorem places_bd (l : List UInt8) (h : l.length ≤ 63) (i : Nat) (p : Int × Int) (hp : (places l)[i]? = some p) : -64 ≤ p.1 ∧ p.1 ≤ 64 ∧ -64 ≤ p.2 ∧ p.2 ≤ 64 := by
  cases i with
  | zero =>
    rw [places_zero] at hp
    obtain rfl := Option.some.inj hp
    decide
  | succ i =>
    have hi : i ≤ l.length := by
      have := (List.getElem?_eq_some_iff.1 hp).1
      rw [places_length] at this
      omega
    rw [places_at l i hi] at hp
    obtain rfl := Option.some.inj hp
    obtain ⟨_, b1, b2, b3, b4⟩ := st_bd l i hi
    omega
theorem wf_small {x : Int} (h1 : -64 ≤ x) (h2 : x ≤ 64) : (Lit.int .i64 x).wf = true := by
  have e1 : IntKind.i64.min = -9223372036854775808 := rfl
  have e2 : IntKind.i64.max = 9223372036854775807 := rfl
  simp only [Lit.wf, Bool.and_eq_true, decide_eq_true_eq]
  omega
theorem implPlaces (s : ByteArray) (hok : creas (bl s) = true) : ∃ (N : Nat) (ps : List (Int × Int)), ps = places (bl s) ∧ ps.length = N ∧ 2 ≤ N ∧ N ≤ 65 ∧ (∀ (i : Nat) (p : Int × Int), ps[i]? = some p → -64 ≤ p.1 ∧ p.1 ≤ 64 ∧ -64 ≤ p.2 ∧ p.2 ≤ 64) ∧ ∀ w, Calls Try.prog 20 #[.string s] w (PlacesGot N ps w) := by
  refine ⟨(bl s).length + 2, places (bl s), rfl, places_length _, by omega, ?_, places_bd _ (by rw [bl_length]; exact creas_len hok), fun w => (implPathPlaces s w hok).mono fun e w' h => h.got⟩
  have := creas_len hok
  rw [bl_length]
  omega
theorem specPlaces (s : ByteArray) (hok : creas (bl s) = true) : ∃ (N : Nat) (ps : List (Int × Int)), ps = places (bl s) ∧ ps.length = N ∧ 2 ≤ N ∧ N ≤ 65 ∧ (∀ (i : Nat) (p : Int × Int), ps[i]? = some p → -64 ≤ p.1 ∧ p.1 ≤ 64 ∧ -64 ≤ p.2 ∧ p.2 ≤ 64) ∧ ∀ w, Calls Try.prog 21 #[.string s] w (PlacesGot N ps w) := by
  refine ⟨(bl s).length + 2, places (bl s), rfl, places_length _, by omega, ?_, places_bd _ (by rw [bl_length]; exact creas_len hok), fun w => (specPathPlaces s w hok).mono fun e w' h => h.got⟩
  have := creas_len hok
  rw [bl_length]
  omega
/-- What the map of steps counts. -/
def Seen (ps : List (Int × Int)) (k : Nat) (c : Value → Int) : Prop := ∀ v, 0 ≤ c v ∧ c v ≤ k ∧ (0 < c v ↔ ∃ j x, j + 1 < k ∧ sAt ps j = some x ∧ v = stepV x)
theorem step_bd {a b : Int × Int} {X : (Int × Int) × (Int × Int)} (h : X = stepN a b) (ha : -64 ≤ a.1 ∧ a.1 ≤ 64 ∧ -64 ≤ a.2 ∧ a.2 ≤ 64) (hb : -64 ≤ b.1 ∧ b.1 ≤ 64 ∧ -64 ≤ b.2 ∧ b.2 ≤ 64) :
    (Lit.int .i64 X.1.1).wf = true ∧ (Lit.int .i64 X.1.2).wf = true ∧ (Lit.int .i64 X.2.1).wf = true ∧ (Lit.int .i64 X.2.2).wf = true := by
  subst h
  unfold stepN
  split
  · exact ⟨wf_small ha.1 ha.2.1, wf_small ha.2.2.1 ha.2.2.2, wf_small hb.1 hb.2.1, wf_small hb.2.2.1 hb.2.2.2⟩
  · exact ⟨wf_small hb.1 hb.2.1, wf_small hb.2.2.1 hb.2.2.2, wf_small ha.1 ha.2.1, wf_small ha.2.2.1 ha.2.2.2⟩
open Classical in
theorem seen_step {ps : List (Int × Int)} {k m : Nat} {c : Value → Int} {X : (Int × Int) × (Int × Int)} (hk1 : 1 ≤ k) (hm : k = m + 1) (hS : Seen ps k c) (hX : sAt ps m = some X) : Seen ps (k + 1) (fun u => if u = stepV X then 1 else c u) := by
  intro v
  obtain ⟨s1, s2, s3⟩ := hS v
  by_cases e : v = stepV X
  · simp only [if_pos e]
    refine ⟨by omega, by omega, fun _ => ⟨m, X, by omega, hX, e⟩, fun _ => by omega⟩
  · simp only [if_neg e]
    refine ⟨s1, by omega, fun h => ?_, fun h => ?_⟩
    · obtain ⟨j, x, hj, h1, h2⟩ := s3.1 h
      exact ⟨j, x, by omega, h1, h2⟩
    · obtain ⟨j, x, hj, h1, h2⟩ := h
      refine s3.2 ⟨j, x, ?_, h1, h2⟩
      apply Nat.lt_of_le_of_ne (by omega)
      intro ej
      have : j = m := by omega
      subst this
      rw [hX] at h1
      obtain rfl := Option.some.inj h1
      exact e h2
theorem once_step {ps : List (Int × Int)} {k m : Nat} {c : Value → Int} {X : (Int × Int) × (Int × Int)} (hm : k = m + 1) (hO : OnceTo ps k) (hS : Seen ps k c) (hX : sAt ps m = some X) (h0 : c (stepV X) = 0) : OnceTo ps (k + 1) := by
  intro i j x hij hi hx hj
  by_cases e : i + 1 < k
  · exact hO i j x hij e hx hj
  · have : i = m := by omega
    subst this
    rw [hX] at hx
    obtain rfl := Option.some.inj hx
    have := (hS (stepV X)).2.2.2 ⟨j, X, by omega, hj, rfl⟩
    omega
noncomputable def onceL (l : List UInt8) : Bool := creas l && onceB (places l)
set_option maxRecDepth 100000 in
set_option maxHeartbeats 4000000 in
theorem implPathOnce (s : ByteArray) (w : World) (hs : s.size ≤ maxLen) :
    Calls Try.prog 11 #[.string s] w fun e w' => e = .returned (.bool (onceL (bl s))) ∧ Below w.heap.size w w' := by
  cases hok : creas (bl s) with
  | false =>
    have HO : Hid (onceL (bl s) = false) := by show _ = _; unfold onceL; rw [hok]; rfl
    rw [HO.out]
    have HOK := Lib.hid hok
    clear hok
    go_enter Try.func11, Try.ntmps11
    go_wp2_with fail
    refine (implPathPlaces_no s _ hs HOK.out).mono ?_
    intro e w1 h1
    obtain ⟨A1, rfl, hb1⟩ := h1.form
    clear h1
    go_wp2_with fail
    go_ret
    exact ⟨rfl, hb1⟩
  | true =>
    have HOK := Lib.hid hok
    have hsl := creas_len hok
    have HO : Hid (onceL (bl s) = onceB (places (bl s))) := by show _ = _; unfold onceL; rw [hok]; rfl
    rw [HO.out]
    clear hok
    obtain ⟨N, ps, hps, hpl, hN2, hN65, hbd, C1⟩ := implPlaces s HOK.out
    rw [← hps]
    rw [← hps] at HO
    have HP := Lib.hid hpl
    have HC := Lib.hid C1
    have HBD := Lib.hid hbd
    clear hps hpl C1 hbd
    have hmm := @run_makeMap Try.prog
    go_enter Try.func11, Try.ntmps11
    go_wp2_with fail
    refine (HC.out _).mono ?_
    rintro e w1 ⟨g, cap, rfl, hg, hgl, hR, hb1⟩
    have hz1 := hb1.size
    have HR := Lib.hid hR
    clear hR
    go_wp2_with fail
    go_loopw [6] (fun i wr => ∃ k : Nat, 1 ≤ k ∧ k ≤ N ∧ i = .int .i64 k ∧ (∃ c : Value → Int, Hid (Counts 43 wr w1.heap.size k c) ∧ Hid (Seen ps k c)) ∧ Hid (OnceTo ps k) ∧ Below w1.heap.size w1 wr) (fun i _ => N - (intOf i).toNat)
    case atStart =>
      refine ⟨1, Nat.le_refl _, by omega, rfl, ⟨fun _ => 0, ?_, ?_⟩, ?_, ?_⟩
      · show Counts _ _ _ _ _
        obtain ⟨D, h1, h2, h3⟩ := (Counts.made 43 w1).map
        exact ⟨D, h1.mono (Nat.zero_le _), h2, h3⟩
      · show Seen _ _ _
        intro v
        show (0 : Int) ≤ 0 ∧ (0 : Int) ≤ (1 : Nat) ∧ ((0 : Int) < 0 ↔ _)
        refine ⟨Int.le_refl _, by omega, fun h => absurd h (by omega), ?_⟩
        rintro ⟨j, x, hj, _⟩
        omega
      · show OnceTo _ _
        intro i j x hij hi
        omega
      · exact (Below.refl _ _).alloc (Nat.le_refl _) _
    case round =>
      obtain ⟨k, hk1, hk, rfl, ⟨c, HCo, HSe⟩, HOn, hbel⟩ := hrel
      have hzr := hbel.size
      have hBl := HCo.out.lt
      by_cases hlt : k < N
      · obtain ⟨a, ha⟩ : ∃ a, ps[k - 1]? = some a := ⟨_, List.getElem?_eq_getElem (by rw [HP.out]; omega)⟩
        obtain ⟨b, hb⟩ : ∃ b, ps[k]? = some b := ⟨_, List.getElem?_eq_getElem (by rw [HP.out]; omega)⟩
        obtain ⟨m, hm⟩ : ∃ m, k = m + 1 := ⟨k - 1, by omega⟩
        rw [show k - 1 = m by omega] at ha
        have HM := Lib.hid hm
        have f1 : IntKind.i64.wrap ((k : Int) - 1) = (m : Int) := by rw [IntKind.wrap_i64]; omega
        have f2 : (k : Int) - 1 = (m : Int) := by omega
        have f3 : IntKind.i64.wrap (m : Int) = (m : Int) := by rw [IntKind.wrap_i64]; omega
        have k0 : (0 : Int) ≤ (m : Int) := by omega
        have k1 : (m : Int) < (N : Int) := by omega
        have k2 : (0 : Int) ≤ (k : Int) := by omega
        have k3 : (k : Int) < (N : Int) := by omega
        clear hm
        obtain ⟨a1, a2⟩ := HR.out m a ha
        obtain ⟨a3, a4⟩ := HR.out k b hb
        have b1 := (hbel.cell (p := ⟨g, m * 2, none⟩) hgl).trans a1
        have b2 := (hbel.cell (p := ⟨g, m * 2 + 1, none⟩) hgl).trans a2
        have b3 := (hbel.cell (p := ⟨g, k * 2, none⟩) hgl).trans a3
        have b4 := (hbel.cell (p := ⟨g, k * 2 + 1, none⟩) hgl).trans a4
        have HA := Lib.hid ha
        have HB := Lib.hid hb
        clear a1 a2 a3 a4 ha hb
        have m1 : g < wr.heap.size := by omega
        obtain ⟨X, hX⟩ : ∃ X, X = stepN a b := ⟨_, rfl⟩
        have HSB : Hid (∀ w, Calls Try.prog 24 #[.agg #[.int .i64 a.1, .int .i64 a.2], .agg #[.int .i64 b.1, .int .i64 b.2]] w fun e w' => e = .returned (.agg #[.int .i64 X.1.1, .int .i64 X.1.2, .int .i64 X.2.1, .int .i64 X.2.2]) ∧ Below w.heap.size w w') := fun w => by
          rw [hX]
          exact stepBetween a b w
        have HX := Lib.hid hX
        clear hX
        go_wp2
        go_cut [7] from 16 to 41 (fun p wx => ∃ q : Nat, p = .pointer (some ⟨q, 0, none⟩) ∧ StepAt wr wx q X)
        case first =>
          go_region_with ((go_at_call 24; refine (HSB.out _).mono ?_; rintro e w2 ⟨rfl, hb2⟩; have hacc : Below wr.heap.size wr w2 := Below.trans (by repeat (first | exact Below.refl _ _ | assumption | (refine Below.setCell ?_ (by first | omega | (simp; done) | (simp; omega)) _) | (refine Below.alloc ?_ (by first | omega | (simp; done) | (simp; omega)) _) | (refine below_drewN ?_ _) | (refine Below.drew ?_))) (hb2.mono (by first | (simp; done) | (simp; omega))); have hz2 := hacc.size; (first | (refine new_kept hb2 ?_; intro e1 e2 e3 e4 e5 e6 e7 e8) | skip)))
          all_goals
            go_wp2_with fail
            go_meet
            first
            | exact ⟨_, rfl, stepAt_old hacc (Nat.le_refl _) e1 e2 e3 e4⟩
            | exact ⟨_, rfl, stepAt_new hacc _⟩
        case rest =>
          obtain ⟨q, rfl, hbq, q1, q2, q3, q4⟩ := hcut
          have hcount := HCo.out.keep (hbq.block _ hBl)
          obtain ⟨hx1, hx2, hx3, hx4⟩ := step_bd HX.out (HBD.out m a HA.out) (HBD.out k b HB.out)
          have HKEY : Hid (∃ kl, keyOf Try.prog 43 (.agg #[.int .i64 X.1.1, .int .i64 X.1.2, .int .i64 X.2.1, .int .i64 X.2.2]) = some kl) := keyStep _ _ _ _ hx1 hx2 hx3 hx4
          obtain ⟨cv, hcv⟩ : ∃ cv, c (.agg #[.int .i64 X.1.1, .int .i64 X.1.2, .int .i64 X.2.1, .int .i64 X.2.2]) = cv := ⟨_, rfl⟩
          have hsx : sAt ps m = some X := by rw [HX.out]; exact sAt_some HA.out (by rw [← HM.out]; exact HB.out)
          obtain ⟨s1, s2, s3⟩ := HSe.out (stepV X)
          have hcv' : c (stepV X) = cv := hcv
          rw [hcv'] at s1 s2 s3
          by_cases hpos : 0 < cv
          · have HF : Hid (onceB ps = false) := by
              show _ = _
              obtain ⟨j, y, hj, hy, e⟩ := s3.1 hpos
              have := not_once (i := m) (j := j) (x := X) (by have := HM.out; omega) hsx (by rw [stepV_inj e]; exact hy)
              cases h : onceB ps with
              | false => rfl
              | true => exact absurd ((onceB_iff ps).1 h) this
            have HCN := Lib.hid hcount
            have HCV := Lib.hid hcv
            have hbw : Below w.heap.size w wc := hb1.trans ((hbel.trans (hbq.mono hzr)).mono hz1)
            clear s1 s2 s3 hsx hcv hcv' hcount hx1 hx2 hx3 hx4 hbq hb1 hbel
            go_wp2_with (first | (at_lookup; refine wpList_counts_look rfl _ _ rfl HCN.out stepLaw Try.underlying41 rfl _ rfl HKEY.out cv HCV.out ?_) | go_in)
            go_ret
            exact ⟨by rw [HF.out]; rfl, hbw⟩
          · have h0 : cv = 0 := by omega
            subst h0
            obtain ⟨kl, hkl⟩ := HKEY.out
            have hcd : Counts 43 wc.drew w1.heap.size k c := hcount.keep rfl
            obtain ⟨st, u1, u2, r1, r2, r3, r4, r5⟩ := hcd.bump2 stepLaw Try.underlying41 hkl (by unfold maxLen; omega) 0 1 hcv (by decide)
            have r0 := hcd.look stepLaw Try.underlying41 hkl
            rw [hcv] at r0
            have HCN := Lib.hid hcount
            have HCV := Lib.hid hcv
            have HR4 := Lib.hid r4
            have HR5 := Lib.hid r5
            have HSX := Lib.hid hsx
            clear s1 s2 s3 hsx hcv hcv' hcount hcd hx1 hx2 hx3 hx4 r4 r5 hpos
            go_wp2_with (first | (at_lookup; refine wpList_counts_look rfl _ _ rfl HCN.out stepLaw Try.underlying41 rfl _ rfl HKEY.out 0 HCV.out ?_) | go_in)
            go_region
            all_goals
              go_wp2
              go_roundw
              case rel => exact ⟨k + 1, by omega, by omega, by go_num, ⟨_, HR4.out, seen_step hk1 HM.out HSe.out HSX.out⟩, once_step HM.out HOn.out HSe.out HSX.out HCV.out, below_grown_at (hbel.trans (hbq.drew.mono hzr)) HR5.out (by show _ ≤ wc.heap.size; have := hbq.size; omega) (Nat.le_refl _)⟩
              case measure => simp [intOf]; omega
      · obtain rfl : k = N := by omega
        have HF : Hid (onceB ps = true) := (onceB_iff ps).2 (once_to (by rw [HP.out]; exact HOn.out))
        go_wp2
        go_ret
        exact ⟨by rw [HF.out]; rfl, hb1.trans (hbel.mono hz1)⟩
end Go.Proofs.Ytalbokejljjflaa
