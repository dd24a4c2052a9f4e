/- Maps with int keys, as functions: what a block holds, a lookup, a store. -/
import Derived.Test.YtmkbojhnbkdalaaLib
import Derived.MapKept
set_option linter.unusedSimpArgs false
set_option linter.unusedVariables false
namespace Go.Proofs.Ytmkbojhnbkdalaa
open Go.RowKit

def keyIs (v : Value) (k : Int) : Bool := match v with
  | .int .i64 a => a == k
  | _ => false
theorem keyIs_int (a k : Int) : keyIs (.int .i64 a) k = (a == k) := rfl
/-- The first entry at key k. -/
def lkE : List MapEntry → Int → Option Value
  | [], _ => none
  | e :: r, k => if keyIs e.key k then some e.val else lkE r k
def intKeys (es : List MapEntry) : Prop := ∀ e ∈ es, ∃ k, e.key = .int .i64 k

/-- Block b is a map with int keys that holds f. -/
def Mp (w : World) (b : Nat) (f : Int → Option Value) : Prop := ∃ es clock, w.heap[b]? = some (.map es clock) ∧ intKeys es.toList ∧ ∀ k, lkE es.toList k = f k

def putF (f : Int → Option Value) (k : Int) (v : Value) : Int → Option Value := fun j => if j = k then some v else f j

theorem findNow_int : ∀ (es : List MapEntry) (k : Int) (i : Nat), intKeys es → ∃ r, Instr.findNow (.int .i64) (.int .i64 k) es i = some r ∧ r.map (·.2) = lkE es k ∧
    (∀ j v, r = some (j, v) → i ≤ j ∧ ∃ e, es[j - i]? = some e ∧ e.key = .int .i64 k ∧ ∀ m, m < j - i → ∀ e', es[m]? = some e' → ¬ keyIs e'.key k = true)
  | [], k, i, _ => ⟨none, rfl, rfl, fun j v h => by cases h⟩
  | e :: r, k, i, h => by
    obtain ⟨k', hk'⟩ := h e (List.mem_cons.2 (Or.inl rfl))
    by_cases hk : k = k'
    · subst hk
      refine ⟨some (i, e.val), ?_, ?_, fun j v hj => ?_⟩
      · simp [Instr.findNow, Instr.sameNow, hk']
      · simp [lkE, hk', keyIs_int]
      · injection hj with hj; injection hj with h1 h2; subst h1
        refine ⟨Nat.le_refl _, e, by simp, hk', fun m hm => ?_⟩
        omega
    · obtain ⟨q, hq, hv, hj⟩ := findNow_int r k (i + 1) (fun e he => h e (List.mem_cons.2 (Or.inr he)))
      refine ⟨q, ?_, ?_, fun j v hjv => ?_⟩
      · simp only [Instr.findNow, Instr.sameNow, hk', if_true]
        rw [show (k == k') = false by simpa using hk]
        exact hq
      · rw [hv, lkE, hk', keyIs_int, if_neg (by simpa using fun h => hk h.symm)]
      · obtain ⟨h1, e', he', hke, hlt⟩ := hj j v hjv
        refine ⟨by omega, e', by rw [show j - i = (j - (i + 1)) + 1 by omega, List.getElem?_cons_succ]; exact he', hke, fun m hm e'' he'' => ?_⟩
        rcases m with _ | m
        · simp only [List.getElem?_cons_zero, Option.some.injEq] at he''
          subst he''
          rw [hk', keyIs_int]
          simpa using fun h => hk h.symm
        · rw [List.getElem?_cons_succ] at he''
          exact hlt m (by omega) e'' he''

theorem lkE_none_push {es : List MapEntry} {k : Int} (h : lkE es k = none) (v : Value) (c : Nat) : ∀ j, lkE (es ++ [⟨.int .i64 k, v, c⟩]) j = putF (lkE es) k v j := by
  intro j
  induction es with
  | nil =>
    simp only [List.nil_append, lkE, putF]
    by_cases hj : j = k
    · subst hj; simp [keyIs_int]
    · rw [keyIs_int, if_neg (by simpa using fun h => hj h.symm), if_neg hj]
  | cons e r ih =>
    simp only [lkE] at h
    split at h
    · cases h
    · rename_i hne
      simp only [List.cons_append, lkE, putF]
      by_cases he : keyIs e.key j = true
      · rw [if_pos he, if_pos he]
        by_cases hj : j = k
        · subst hj; exact absurd he hne
        · rw [if_neg hj]
      · rw [if_neg he, if_neg he, ih h, putF]

theorem lkE_modify {k : Int} {v : Value} : ∀ {es : List MapEntry} {i : Nat} {e : MapEntry}, es[i]? = some e → e.key = .int .i64 k → (∀ m, m < i → ∀ e', es[m]? = some e' → ¬ keyIs e'.key k = true) →
    ∀ j, lkE (es.modify i fun e => { e with key := .int .i64 k, val := v }) j = putF (lkE es) k v j
  | [], i, e, h, _, _, j => by simp at h
  | a :: r, 0, e, h, hk, _, j => by
    simp only [List.getElem?_cons_zero, Option.some.injEq] at h
    subst h
    simp only [List.modify_zero_cons, lkE, putF, hk, keyIs_int]
    by_cases hj : j = k
    · subst hj; simp
    · have h1 : (k == j) = false := by simpa using fun h => hj h.symm
      simp [h1, hj]
  | a :: r, i + 1, e, h, hk, hlt, j => by
    rw [List.getElem?_cons_succ] at h
    have ha := hlt 0 (by omega) a rfl
    have ih := lkE_modify (v := v) h hk (fun m hm e' he' => hlt (m + 1) (by omega) e' (by rw [List.getElem?_cons_succ]; exact he')) j
    simp only [List.modify_succ_cons, lkE, putF]
    by_cases haj : keyIs a.key j = true
    · rw [if_pos haj, if_pos haj]
      by_cases hj : j = k
      · subst hj; exact absurd haj ha
      · rw [if_neg hj]
    · rw [if_neg haj, if_neg haj, ih, putF]

section
variable {P : Program} {w : World} {b : Nat} {f : Int → Option Value} {t kt et : TypeId}
theorem Mp.lt (h : Mp w b f) : b < w.heap.size := by
  obtain ⟨es, clock, hb, _⟩ := h
  rcases Nat.lt_or_ge b w.heap.size with hlt | hge
  · exact hlt
  · rw [Array.getElem?_eq_none hge] at hb; cases hb
theorem Mp.below {w' : World} {B : Nat} (h : Mp w b f) (hb : Below B w w') (hlt : b < B) : Mp w' b f := by
  obtain ⟨es, clock, hh, hr⟩ := h
  exact ⟨es, clock, (hb.block b hlt).trans hh, hr⟩
theorem Mp.of_block {w' : World} (h : Mp w b f) (hb : w'.heap[b]? = w.heap[b]?) : Mp w' b f := by
  obtain ⟨es, clock, hh, hr⟩ := h
  exact ⟨es, clock, hb.trans hh, hr⟩
theorem Mp.new (w : World) : Mp (w.alloc (.map #[] 0)) w.heap.size (fun _ => none) := ⟨#[], 0, heap_alloc_new w _, (fun e he => by simp at he), fun k => rfl⟩

theorem Mp.run_lookup (h : Mp w b f) (ht : P.underlying t = some (.map kt et)) (hk : P.underlying kt = some (.int .i64)) {z : Value} (hz : (zeroValue et).run P w = .ok z w) (k : Int) (c : Bool) :
    (Instr.lookup t (.map (some b)) (.int .i64 k) c).run P w = .ok (if c then .tuple #[(f k).getD z, .bool (f k).isSome] else (f k).getD z) w := by
  obtain ⟨es, clock, hb, hi, hf⟩ := h
  obtain ⟨r, hr, hv, _⟩ := findNow_int es.toList k 0 hi
  have hc : ∀ e, (Instr.checkKey e 10000 kt (.int .i64 k)).run P w = .ok () w := fun e => MapKept.run_checkKey (k := .int .i64 k) hk (by simp [MapKept.IsKey]) e 9999
  rw [hf k] at hv
  cases r with
  | none =>
    have hv' : f k = none := by rw [← hv]; rfl
    cases c <;> simp [Instr.lookup, run_underlying ht, MapKept.run_getObj_map hb, hc, MapKept.run_findKey hk hr, hz, Result.andThen, hv']
  | some p =>
    have hv' : f k = some p.2 := by rw [← hv]; rfl
    cases c <;> simp [Instr.lookup, run_underlying ht, MapKept.run_getObj_map hb, hc, MapKept.run_findKey hk hr, Result.andThen, hv']

/-- A store: only block b has turned. -/
structure PutM (w w' : World) (b : Nat) (f : Int → Option Value) (k : Int) (v : Value) : Prop where
  os : w'.os = w.os
  tape : w'.tape = w.tape
  output : w'.output = w.output
  size : w'.heap.size = w.heap.size
  block : ∀ j, j ≠ b → w'.heap[j]? = w.heap[j]?
  map : Mp w' b (putF f k v)

theorem Mp.run_update (h : Mp w b f) (ht : P.underlying t = some (.map kt et)) (hk : P.underlying kt = some (.int .i64)) (k : Int) (v : Value) :
    ∃ w', (Instr.mapUpdate t (.map (some b)) (.int .i64 k) v).run P w = .ok () w' ∧ PutM w w' b f k v := by
  have hlt := h.lt
  obtain ⟨es, clock, hb, hi, hf⟩ := h
  obtain ⟨r, hr, hv, hj⟩ := findNow_int es.toList k 0 hi
  have hc : ∀ e, (Instr.checkKey e 10000 kt (.int .i64 k)).run P w = .ok () w := fun e => MapKept.run_checkKey (k := .int .i64 k) hk (by simp [MapKept.IsKey]) e 9999
  have fr : ∀ o : Obj, ({ w with heap := w.heap.setIfInBounds b o } : World).heap[b]? = some o := fun o => by
    show (w.heap.setIfInBounds b o)[b]? = some o
    rw [Array.getElem?_setIfInBounds, if_pos rfl, if_pos hlt]
  have ff : ∀ (o : Obj) j, j ≠ b → ({ w with heap := w.heap.setIfInBounds b o } : World).heap[j]? = w.heap[j]? := fun o j hne => by
    show (w.heap.setIfInBounds b o)[j]? = w.heap[j]?
    rw [Array.getElem?_setIfInBounds, if_neg (fun e => hne e.symm)]
  cases r with
  | none =>
    refine ⟨{ w with heap := w.heap.setIfInBounds b (.map (es.push { key := .int .i64 k, val := v, born := clock }) (clock + 1)) }, ?_, rfl, rfl, rfl, by simp, fun j hne => ff _ j hne, _, _, fr _, ?_, fun j => ?_⟩
    · simp [Instr.mapUpdate, run_underlying ht, MapKept.run_getObj_map hb, hc, MapKept.run_findKey hk hr, MapKept.run_setObj_map _ hb, Result.andThen]
    · intro e he
      simp only [Array.toList_push, List.mem_append, List.mem_singleton] at he
      rcases he with he | rfl
      · exact hi e he
      · exact ⟨k, rfl⟩
    · rw [Array.toList_push, lkE_none_push hv.symm]
      simp only [putF, hf]
  | some p =>
    obtain ⟨i, u⟩ := p
    obtain ⟨_, e, he, hke, hlt'⟩ := hj i u rfl
    rw [Nat.sub_zero] at he hlt'
    have he' : es[i]? = some e := by rw [← Array.getElem?_toList]; exact he
    have hst : (Instr.keyThatStays (((es[i]?).map (·.key)).getD (.int .i64 k)) (.int .i64 k)).run P w = .ok (.int .i64 k) w := by
      rw [he']; simp [Instr.keyThatStays, hke, Instr.sameBits]
    refine ⟨{ w with heap := w.heap.setIfInBounds b (.map (es.modify i fun e => { e with key := .int .i64 k, val := v }) clock) }, ?_, rfl, rfl, rfl, by simp, fun j hne => ff _ j hne, _, _, fr _, ?_, fun j => ?_⟩
    · simp [Instr.mapUpdate, run_underlying ht, MapKept.run_getObj_map hb, hc, MapKept.run_findKey hk hr, hst, MapKept.run_setObj_map _ hb, Result.andThen]
    · intro e' he2
      rw [Array.toList_modify] at he2
      obtain ⟨m, hm⟩ := List.mem_iff_getElem?.1 he2
      rw [List.getElem?_modify] at hm
      cases hm3 : es.toList[m]? with
      | none => rw [hm3] at hm; simp at hm
      | some e3 =>
        rw [hm3] at hm
        simp only [Option.map_eq_map, Option.map_some, Option.some.injEq] at hm
        by_cases him : i = m
        · rw [if_pos him] at hm
          rw [← hm]; exact ⟨k, rfl⟩
        · rw [if_neg him] at hm
          rw [← hm]; exact hi e3 (List.mem_iff_getElem?.2 ⟨m, hm3⟩)
    · rw [Array.toList_modify, lkE_modify he hke hlt']
      simp only [putF, hf]
end

end Go.Proofs.Ytmkbojhnbkdalaa
