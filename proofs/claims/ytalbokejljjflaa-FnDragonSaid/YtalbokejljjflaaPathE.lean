/- Maps that count places, and steps. Conditions: each theorem's own premises. -/
import Derived.Test.YtalbokejljjflaaPathD
import Derived.Test.YtalbokejljjflaaPlainS
import Derived.Maps.OwnOps
import Derived.Maps.Views
import Derived.DeepKeys4
import Derived.WideKeyEntry
namespace Go.Proofs.Ytalbokejljjflaa
open Go.RowKit Go.Maps
theorem laidOutP : laidOutB Try.prog = true := by kernel_rfl
def placeV (p : Int × Int) : Value := .agg #[.int .i64 p.1, .int .i64 p.2]
theorem placeLaw : WideMaps.KeyLaw Try.prog 25 := deep_law_laid laidOutP (m := 9) (by decide) (by decide +kernel) (by kernel_rfl) (by kernel_rfl)
theorem stepLaw : WideMaps.KeyLaw Try.prog 43 := deep_law_laid laidOutP (m := 9) (by decide) (by decide +kernel) (by kernel_rfl) (by kernel_rfl)
theorem zeroInt (w : World) : (zeroValue 3).run Try.prog w = .ok (.int .i64 0) w := by kernel_rfl
theorem keyInt (d : Nat) (a : Int) (wa : (Lit.int .i64 a).wf = true) : Try.prog.keyLits (d + 1) 3 [.int .i64 a] = some [.int .i64 a] := by
  unfold Program.keyLits
  rw [show Try.prog.underlying 3 = _ from Try.underlying3]
  simp [wa]
theorem cells1 : Try.prog.cellsOf 3 = 1 := by kernel_rfl
theorem cells2 : Try.prog.cellsOf 25 = 2 := by kernel_rfl
theorem cells4 : Try.prog.cellsOf 43 = 4 := by kernel_rfl
theorem keyPl (d : Nat) (a b : Int) (wa : (Lit.int .i64 a).wf = true) (wb : (Lit.int .i64 b).wf = true) : Try.prog.keyLits (d + 2) 25 [.int .i64 a, .int .i64 b] = some [.int .i64 a, .int .i64 b] := by
  unfold Program.keyLits
  rw [show Try.prog.underlying 25 = _ from Try.underlying25]
  simp [cells1, cells2, keyInt d a wa, keyInt d b wb]
theorem typesMany : Try.prog.types.size = (Try.prog.types.size - 2) + 2 := by kernel_rfl
theorem keyPlace (a b : Int) (wa : (Lit.int .i64 a).wf = true) (wb : (Lit.int .i64 b).wf = true) : ∃ kl, keyOf Try.prog 25 (.agg #[.int .i64 a, .int .i64 b]) = some kl := by
  unfold keyOf
  rw [show Try.prog.underlying 25 = _ from Try.underlying25]
  have e1 : Try.prog.keyType 25 = true := by kernel_rfl
  have e2 : Value.formed Try.prog 25 (Value.agg #[Value.int IntKind.i64 a, Value.int IntKind.i64 b]) = true := by kernel_rfl
  simp only [e1, e2, Bool.and_self, if_true]
  have e3 : (Value.agg #[Value.int IntKind.i64 a, Value.int IntKind.i64 b]).cells.toList = [.int .i64 a, .int .i64 b] := rfl
  rw [e3, typesMany, show Try.prog.types.size - 2 + 2 + 1 = (Try.prog.types.size - 2 + 1) + 2 by omega, keyPl _ a b wa wb]
  exact ⟨_, rfl⟩
theorem keyStep (a b c d : Int) (wa : (Lit.int .i64 a).wf = true) (wb : (Lit.int .i64 b).wf = true) (wc : (Lit.int .i64 c).wf = true) (wd : (Lit.int .i64 d).wf = true) : ∃ kl, keyOf Try.prog 43 (.agg #[.int .i64 a, .int .i64 b, .int .i64 c, .int .i64 d]) = some kl := by
  unfold keyOf
  rw [show Try.prog.underlying 43 = _ from Try.underlying43]
  have e1 : Try.prog.keyType 43 = true := by kernel_rfl
  have e2 : Value.formed Try.prog 43 (Value.agg #[Value.int IntKind.i64 a, Value.int IntKind.i64 b, Value.int IntKind.i64 c, Value.int IntKind.i64 d]) = true := by kernel_rfl
  simp only [e1, e2, Bool.and_self, if_true]
  have e3 : (Value.agg #[Value.int IntKind.i64 a, Value.int IntKind.i64 b, Value.int IntKind.i64 c, Value.int IntKind.i64 d]).cells.toList = [.int .i64 a, .int .i64 b, .int .i64 c, .int .i64 d] := rfl
  rw [e3, typesMany]
  unfold Program.keyLits
  rw [show Try.prog.underlying 43 = _ from Try.underlying43]
  simp [cells2, cells4, keyPl _ a b wa wb, keyPl _ c d wc wd]
/-- Block b is a map of at most n entries that holds these numbers at the keys of type K. -/
structure Counts (K : TypeId) (w : World) (b n : Nat) (c : Value → Int) : Prop where
  map : ∃ D : DataW Unit, w.ownsMap Try.prog K (plainElem Try.prog 3) b n D ∧ IsMap D ∧ ∀ v kl, keyOf Try.prog K v = some kl → D.atKey kl (.lit (.int .i64 0)) = .lit (.int .i64 (c v))
theorem Counts.made (K : TypeId) (w : World) : Counts K (w.alloc (.map #[] 0)) w.heap.size 0 fun _ => 0 :=
  ⟨.map [], World.ownsMap_made _ _ _ _, isMap_empty, fun _ _ _ => rfl⟩
theorem Counts.keep {K : TypeId} {w w' : World} {b n : Nat} {c : Value → Int} (h : Counts K w b n c) (hb : w'.heap[b]? = w.heap[b]?) : Counts K w' b n c := by
  obtain ⟨D, ⟨es, clock, h1, h2⟩, h3⟩ := h
  exact ⟨D, ⟨es, clock, hb.trans h1, h2⟩, h3⟩
theorem Counts.lt {K : TypeId} {w : World} {b n : Nat} {c : Value → Int} (h : Counts K w b n c) : b < w.heap.size := by
  obtain ⟨D, h1, _⟩ := h
  exact h1.lt
theorem Counts.look {K t : TypeId} {w : World} {b n : Nat} {c : Value → Int} (h : Counts K w b n c) (L : WideMaps.KeyLaw Try.prog K) (ht : Try.prog.underlying t = some (.map K 3)) {v : Value} {kl : Lit} (hk : keyOf Try.prog K v = some kl) :
    (Instr.lookup t (.map (some b)) v false).run Try.prog w = .ok (.int .i64 (c v)) w := by
  obtain ⟨D, h1, _, h3⟩ := h
  obtain ⟨x, hrun, hat, _⟩ := h1.lookup_int (Keyed.of_law L) ht Try.underlying3 (zeroInt w) hk
  rw [h3 v kl hk] at hat
  have : c v = x := by injection hat with e; injection e
  rw [this]
  exact hrun
open Go.ChangeShapes Go.WideShapes Go.MapKept in
open Classical in
/-- 'm[v]++' in two steps: the entry, and the store. -/
theorem Counts.bump {K t : TypeId} {w : World} {b n : Nat} {c : Value → Int} (h : Counts K w b n c) (L : WideMaps.KeyLaw Try.prog K) (ht : Try.prog.underlying t = some (.map K 3)) {v : Value} {kl : Lit} (hk : keyOf Try.prog K v = some kl) (hn : n < maxLen) (x : Int) (hx : (Lit.int .i64 x).wf = true) :
    ∃ (st : Nat) (es1 es2 : Array MapEntry) (k1 k2 : Nat), (Instr.mapEntry t (.map (some b)) v).run Try.prog w = .ok (.tuple #[.int .i64 (c v), goInt st]) (ChangeMaps.setBlock w b (.map es1 k1)) ∧
      (Instr.lookup t (.map (some b)) v false).run Try.prog (ChangeMaps.setBlock w b (.map es1 k1)) = .ok (.int .i64 (c v)) (ChangeMaps.setBlock w b (.map es1 k1)) ∧
      (Instr.entryStore t (.map (some b)) (goInt st) (.int .i64 x)).run Try.prog (ChangeMaps.setBlock w b (.map es1 k1)) = .ok () (ChangeMaps.setBlock (ChangeMaps.setBlock w b (.map es1 k1)) b (.map es2 k2)) ∧
      (ChangeMaps.setBlock (ChangeMaps.setBlock w b (.map es1 k1)) b (.map es2 k2)).heap[b]? = some (.map es2 k2) ∧
      Counts K (ChangeMaps.setBlock (ChangeMaps.setBlock w b (.map es1 k1)) b (.map es2 k2)) b (n + 1) (fun u => if u = v then x else c u) := by
  have hlook := h.look L ht hk
  have hlt := h.lt
  obtain ⟨D, h1, hD, h3⟩ := h
  obtain ⟨w', hup, hown, hgr⟩ := h1.update (Keyed.of_law L) ht hn hk (plainElem_int Try.underlying3 hx)
  obtain ⟨es, clock, hb, F, hs, hDe⟩ := h1
  obtain ⟨v0, st, es1, k1, hent, hv0, hst⟩ := WideElems.entry_then_store L ht (z := .int .i64 0) zeroInt hb F hk
  have hb1 : (ChangeMaps.setBlock w b (.map es1 k1)).heap[b]? = some (.map es1 k1) := ChangeMaps.heap_setBlock_same hb _
  obtain ⟨es2, k2, hstore, hup2⟩ := hst _ (.int .i64 x) hb1
  have hw' : w' = ChangeMaps.setBlock w b (.map es2 k2) := by
    rw [hup] at hup2
    injection hup2
  have hv : v0 = .int .i64 (c v) ∧ (Instr.lookup t (.map (some b)) v false).run Try.prog (ChangeMaps.setBlock w b (.map es1 k1)) = .ok (.int .i64 (c v)) (ChangeMaps.setBlock w b (.map es1 k1)) := by
    rcases L.find w hk es.toList F.keys with ⟨f1, f2⟩ | ⟨j, e0, f1, f2, f3⟩
    · rcases hv0 with ⟨e0, m, e, _⟩ | ⟨_, e⟩
      · exact absurd e (f2 e0 m)
      · have hl : (Instr.lookup t (.map (some b)) v false).run Try.prog w = .ok (.int .i64 0) w := by
          simp [Instr.lookup, run_underlying ht, MapKept.run_getObj_map hb, L.check w _ hk, f1, Result.andThen]
        rw [hl] at hlook
        have hc0 : Value.int .i64 (c v) = .int .i64 0 := by injection hlook with e1 _; exact e1.symm
        refine ⟨by rw [e, hc0], ?_⟩
        have he : (Instr.mapEntry t (.map (some b)) v).run Try.prog w = .ok (.tuple #[.int .i64 0, goInt clock]) (ChangeMaps.setBlock w b (.map (es.push ⟨v, .int .i64 0, clock⟩) (clock + 1))) := by
          simp [Instr.mapEntry, run_underlying ht, MapKept.run_getObj_map hb, L.check w false hk, f1, MapKept.run_setObj_map _ hb, Result.andThen, ChangeMaps.setBlock]
        rw [he] at hent
        have hw1 := (Result.ok.inj hent).2
        rw [← hw1, hc0]
        have hb3 : (ChangeMaps.setBlock w b (.map (es.push ⟨v, .int .i64 0, clock⟩) (clock + 1))).heap[b]? = some (.map (es.push ⟨v, .int .i64 0, clock⟩) (clock + 1)) := ChangeMaps.heap_setBlock_same hb _
        have hkeys : ∀ e ∈ (es.push ⟨v, .int .i64 0, clock⟩).toList, ∃ l, keyOf Try.prog K e.key = some l := fun e he => by
          rw [Array.toList_push, List.mem_append, List.mem_singleton] at he
          rcases he with he | rfl
          · exact F.keys e he
          · exact ⟨_, hk⟩
        rcases L.find (ChangeMaps.setBlock w b (.map (es.push ⟨v, .int .i64 0, clock⟩) (clock + 1))) hk _ hkeys with ⟨_, g2⟩ | ⟨j, e0, g1, g2, g3⟩
        · exact absurd rfl (g2 ⟨v, .int .i64 0, clock⟩ (by rw [Array.toList_push]; exact List.mem_append_right _ (List.mem_singleton.2 rfl)))
        · have hm := List.mem_of_getElem? g2
          rw [Array.toList_push, List.mem_append, List.mem_singleton] at hm
          rcases hm with hm | rfl
          · exact absurd g3 (f2 e0 hm)
          · rw [Array.toList_push] at g1
            simp [Instr.lookup, run_underlying ht, MapKept.run_getObj_map hb3, L.check _ _ hk, g1, Result.andThen]
    · have hl : (Instr.lookup t (.map (some b)) v false).run Try.prog w = .ok e0.val w := by
        simp [Instr.lookup, run_underlying ht, MapKept.run_getObj_map hb, L.check w _ hk, f1, Result.andThen]
      rw [hl] at hlook
      have hj : es[j]? = some e0 := by simpa using f2
      have he : (Instr.mapEntry t (.map (some b)) v).run Try.prog w = .ok (.tuple #[e0.val, goInt e0.born]) (ChangeMaps.setBlock w b (.map (es.modify j fun e => { e with key := v }) clock)) := by
        simp [Instr.mapEntry, run_underlying ht, MapKept.run_getObj_map hb, L.check w false hk, f1, hj, f3, L.stays w hk, MapKept.run_setObj_map _ hb, Result.andThen, ChangeMaps.setBlock]
      rw [he] at hent
      injection hent with e1 hw1
      injection e1 with e2
      have e3 : e0.val = v0 := by
        have := congrArg (fun a : Array Value => a[0]?) e2
        simpa using this
      have hsame : es.modify j (fun e => { e with key := v }) = es := by
        apply Array.ext'
        rw [Array.toList_modify, ChangeMaps.modify_eq_set _ _ _ _ f2]
        have : ({ e0 with key := v } : MapEntry) = e0 := by rw [← f3]
        rw [this]
        exact WideElems.set_self _ _ _ f2
      rw [hsame] at hw1
      have hev : e0.val = .int .i64 (c v) := by injection hlook
      refine ⟨by rw [← e3, hev], ?_⟩
      rw [← hw1]
      have hb3 : (ChangeMaps.setBlock w b (.map es clock)).heap[b]? = some (.map es clock) := ChangeMaps.heap_setBlock_same hb _
      rcases L.find (ChangeMaps.setBlock w b (.map es clock)) hk es.toList F.keys with ⟨_, g2⟩ | ⟨j', e0', g1, g2, g3⟩
      · exact absurd f3 (g2 e0 (List.mem_of_getElem? f2))
      · have hl' : (Instr.lookup t (.map (some b)) v false).run Try.prog (ChangeMaps.setBlock w b (.map es clock)) = .ok e0'.val (ChangeMaps.setBlock w b (.map es clock)) := by
          simp [Instr.lookup, run_underlying ht, MapKept.run_getObj_map hb3, L.check _ _ hk, g1, Result.andThen]
        rw [hl', ← hev]
        have h4 : e0' = e0 := by
          by_cases e : j' = j
          · subst e
            rw [f2] at g2
            exact (Option.some.inj g2).symm
          · exfalso
            obtain ⟨hj1, ea⟩ := List.getElem?_eq_some_iff.1 f2
            obtain ⟨hj2, eb⟩ := List.getElem?_eq_some_iff.1 g2
            have hp := List.pairwise_iff_getElem.1 (fit_apart (Keyed.of_law L) F)
            have ka : (WideElems.rg Try.prog K (plainElem (H := Unit) Try.prog 3) e0).1 = (WideElems.rg Try.prog K (plainElem (H := Unit) Try.prog 3) e0').1 := by
              obtain ⟨y, hy⟩ := F.reads e0 (List.mem_of_getElem? f2)
              obtain ⟨y', hy'⟩ := F.reads e0' (List.mem_of_getElem? g2)
              have m1 := WideElems.rd_key hy
              have m2 := WideElems.rd_key hy'
              rw [WideElems.rg_of hy, WideElems.rg_of hy']
              rw [f3] at m1
              rw [g3, m1] at m2
              exact Option.some.inj m2
            rcases Nat.lt_or_gt_of_ne e with h | h
            · have := hp j' j (by simpa using hj2) (by simpa using hj1) h
              simp only [List.getElem_map, ea, eb] at this
              exact this ka.symm
            · have := hp j j' (by simpa using hj1) (by simpa using hj2) h
              simp only [List.getElem_map, ea, eb] at this
              exact this ka
        rw [h4]
  obtain ⟨hv, hlook2⟩ := hv
  subst hv
  have hb2 : (ChangeMaps.setBlock (ChangeMaps.setBlock w b (.map es1 k1)) b (.map es2 k2)).heap[b]? = some (.map es2 k2) := ChangeMaps.heap_setBlock_same hb1 _
  refine ⟨st, es1, es2, k1, k2, hent, hlook2, hstore, hb2, D.put kl (.lit (.int .i64 x)), ?_, hD.put _ _, ?_⟩
  · obtain ⟨es', clock', g1, g2⟩ := hown
    rw [hw', ChangeMaps.heap_setBlock_same hb] at g1
    exact ⟨es', clock', hb2.trans g1, g2⟩
  · intro u ku hu
    by_cases e : u = v
    · subst e
      rw [hk] at hu
      obtain rfl := Option.some.inj hu
      rw [atKey_put_same hD ((Keyed.of_law L).key hk), if_pos rfl]
    · rw [atKey_put_other (fun e' => e (L.inj (by rw [hu, e']) hk)), if_neg e]
      exact h3 u ku hu
def stepN (a b : Int × Int) : (Int × Int) × (Int × Int) := if a.1 < b.1 ∨ (a.1 = b.1 ∧ a.2 < b.2) then (a, b) else (b, a)
def stepV (s : (Int × Int) × (Int × Int)) : Value := .agg #[.int .i64 s.1.1, .int .i64 s.1.2, .int .i64 s.2.1, .int .i64 s.2.2]
theorem stepN_same {a b c d : Int × Int} : stepN a b = stepN c d ↔ SameStep a b c d := by
  obtain ⟨a1, a2⟩ := a
  obtain ⟨b1, b2⟩ := b
  obtain ⟨c1, c2⟩ := c
  obtain ⟨d1, d2⟩ := d
  unfold stepN SameStep
  simp only
  split <;> split <;> simp only [Prod.mk.injEq] <;> omega
set_option maxHeartbeats 1000000 in
theorem stepBetween (a b : Int × Int) (w : World) : Calls Try.prog 24 #[.agg #[.int .i64 a.1, .int .i64 a.2], .agg #[.int .i64 b.1, .int .i64 b.2]] w fun e w' => e = .returned (stepV (stepN a b)) ∧ Below w.heap.size w w' := by
  by_cases h1 : a.1 < b.1
  · have HS : Hid (stepN a b = (a, b)) := by show _ = _; unfold stepN; rw [if_pos (.inl h1)]
    rw [HS.out]
    unfold stepV
    go_enter Try.func24, Try.ntmps24
    go_wp2
    exact bodyPost_ret (v := .agg #[.int .i64 a.1, .int .i64 a.2, .int .i64 b.1, .int .i64 b.2]) (by simp [results, Try.results24, go_sem]) rfl ⟨rfl, (by repeat (first | exact Below.refl _ _ | assumption | (refine Below.setCell ?_ (by first | omega | (simp; done) | (simp; omega)) _) | (refine Below.alloc ?_ (by first | omega | (simp; done) | (simp; omega)) _) | (refine below_drewN ?_ _) | (refine Below.drew ?_)))⟩
  · by_cases h2 : a.1 = b.1
    · by_cases h3 : a.2 < b.2
      · have HS : Hid (stepN a b = (a, b)) := by show _ = _; unfold stepN; rw [if_pos (.inr ⟨h2, h3⟩)]
        rw [HS.out]
        unfold stepV
        have t2 : (a.1 == b.1) = true := by simpa using h2
        clear h2
        go_enter Try.func24, Try.ntmps24
        go_wp2
        exact bodyPost_ret (v := .agg #[.int .i64 a.1, .int .i64 a.2, .int .i64 b.1, .int .i64 b.2]) (by simp [results, Try.results24, go_sem]) rfl ⟨rfl, (by repeat (first | exact Below.refl _ _ | assumption | (refine Below.setCell ?_ (by first | omega | (simp; done) | (simp; omega)) _) | (refine Below.alloc ?_ (by first | omega | (simp; done) | (simp; omega)) _) | (refine below_drewN ?_ _) | (refine Below.drew ?_)))⟩
      · have HS : Hid (stepN a b = (b, a)) := by show _ = _; unfold stepN; rw [if_neg (by omega)]
        rw [HS.out]
        unfold stepV
        have t2 : (a.1 == b.1) = true := by simpa using h2
        clear h2
        go_enter Try.func24, Try.ntmps24
        go_wp2
        exact bodyPost_ret (v := .agg #[.int .i64 b.1, .int .i64 b.2, .int .i64 a.1, .int .i64 a.2]) (by simp [results, Try.results24, go_sem]) rfl ⟨rfl, (by repeat (first | exact Below.refl _ _ | assumption | (refine Below.setCell ?_ (by first | omega | (simp; done) | (simp; omega)) _) | (refine Below.alloc ?_ (by first | omega | (simp; done) | (simp; omega)) _) | (refine below_drewN ?_ _) | (refine Below.drew ?_)))⟩
    · have HS : Hid (stepN a b = (b, a)) := by show _ = _; unfold stepN; rw [if_neg (by omega)]
      rw [HS.out]
      unfold stepV
      have t2 : (a.1 == b.1) = false := by simpa using h2
      clear h2
      go_enter Try.func24, Try.ntmps24
      go_wp2
      exact bodyPost_ret (v := .agg #[.int .i64 b.1, .int .i64 b.2, .int .i64 a.1, .int .i64 a.2]) (by simp [results, Try.results24, go_sem]) rfl ⟨rfl, (by repeat (first | exact Below.refl _ _ | assumption | (refine Below.setCell ?_ (by first | omega | (simp; done) | (simp; omega)) _) | (refine Below.alloc ?_ (by first | omega | (simp; done) | (simp; omega)) _) | (refine below_drewN ?_ _) | (refine Below.drew ?_)))⟩
end Go.Proofs.Ytalbokejljjflaa
