/- Maps with string keys, as functions: what a block holds, a lookup, a store. -/
import Derived.Test.YtmkbojhnbkdalaaLib
import Derived.MapKept
set_option linter.unusedSimpArgs false
set_option linter.unusedVariables false
namespace Go.Proofs.Ytmkbojhnbkdalaa
open Go.RowKit

instance lawful_bytes : LawfulBEq ByteArray where
  eq_of_beq {a b} h := by
    cases a with | mk a => cases b with | mk b =>
      have h2 : (a == b) = true := h
      rw [eq_of_beq h2]
  rfl {a} := by
    cases a with | mk a =>
      show (a == a) = true
      exact beq_self_eq_true a
def keyIsS (v : Value) (k : ByteArray) : Bool := match v with
  | .string a => a == k
  | _ => false
theorem keyIs_str (a k : ByteArray) : keyIsS (.string a) k = (a == k) := rfl
/-- The first entry at key k. -/
def lkS : List MapEntry → ByteArray → Option Value
  | [], _ => none
  | e :: r, k => if keyIsS e.key k then some e.val else lkS r k
def strKeys (es : List MapEntry) : Prop := ∀ e ∈ es, ∃ k, e.key = .string k

/-- Block b is a map with int keys that holds f. -/
def MpS (w : World) (b : Nat) (f : ByteArray → Option Value) : Prop := ∃ es clock, w.heap[b]? = some (.map es clock) ∧ strKeys es.toList ∧ ∀ k, lkS es.toList k = f k

def putS (f : ByteArray → Option Value) (k : ByteArray) (v : Value) : ByteArray → Option Value := fun j => if j = k then some v else f j

theorem findNow_str : ∀ (es : List MapEntry) (k : ByteArray) (i : Nat), strKeys es → ∃ r, Instr.findNow .string (.string k) es i = some r ∧ r.map (·.2) = lkS es k ∧
    (∀ j v, r = some (j, v) → i ≤ j ∧ ∃ e, es[j - i]? = some e ∧ e.key = .string k ∧ ∀ m, m < j - i → ∀ e', es[m]? = some e' → ¬ keyIsS e'.key k = true)
  | [], k, i, _ => ⟨none, rfl, rfl, fun j v h => by cases h⟩
  | e :: r, k, i, h => by
    obtain ⟨k', hk'⟩ := h e (List.mem_cons.2 (Or.inl rfl))
    by_cases hk : k = k'
    · subst hk
      refine ⟨some (i, e.val), ?_, ?_, fun j v hj => ?_⟩
      · simp [Instr.findNow, Instr.sameNow, hk']
      · simp [lkS, hk', keyIs_str]
      · injection hj with hj; injection hj with h1 h2; subst h1
        refine ⟨Nat.le_refl _, e, by simp, hk', fun m hm => ?_⟩
        omega
    · obtain ⟨q, hq, hv, hj⟩ := findNow_str r k (i + 1) (fun e he => h e (List.mem_cons.2 (Or.inr he)))
      refine ⟨q, ?_, ?_, fun j v hjv => ?_⟩
      · simp only [Instr.findNow, Instr.sameNow, hk', if_true]
        rw [show (k == k') = false by simpa using hk]
        exact hq
      · rw [hv, lkS, hk', keyIs_str, if_neg (by simpa using fun h => hk h.symm)]
      · obtain ⟨h1, e', he', hke, hlt⟩ := hj j v hjv
        refine ⟨by omega, e', by rw [show j - i = (j - (i + 1)) + 1 by omega, List.getElem?_cons_succ]; exact he', hke, fun m hm e'' he'' => ?_⟩
        rcases m with _ | m
        · simp only [List.getElem?_cons_zero, Option.some.injEq] at he''
          subst he''
          rw [hk', keyIs_str]
          simpa using fun h => hk h.symm
        · rw [List.getElem?_cons_succ] at he''
          exact hlt m (by omega) e'' he''

theorem lkS_none_push {es : List MapEntry} {k : ByteArray} (h : lkS es k = none) (v : Value) (c : Nat) : ∀ j, lkS (es ++ [⟨.string k, v, c⟩]) j = putS (lkS es) k v j := by
  intro j
  induction es with
  | nil =>
    simp only [List.nil_append, lkS, putS]
    by_cases hj : j = k
    · subst hj; simp [keyIs_str]
    · rw [keyIs_str, if_neg (by simpa using fun h => hj h.symm), if_neg hj]
  | cons e r ih =>
    simp only [lkS] at h
    split at h
    · cases h
    · rename_i hne
      simp only [List.cons_append, lkS, putS]
      by_cases he : keyIsS e.key j = true
      · rw [if_pos he, if_pos he]
        by_cases hj : j = k
        · subst hj; exact absurd he hne
        · rw [if_neg hj]
      · rw [if_neg he, if_neg he, ih h, putS]

theorem lkS_modify {k : ByteArray} {v : Value} : ∀ {es : List MapEntry} {i : Nat} {e : MapEntry}, es[i]? = some e → e.key = .string k → (∀ m, m < i → ∀ e', es[m]? = some e' → ¬ keyIsS e'.key k = true) →
    ∀ j, lkS (es.modify i fun e => { e with key := .string k, val := v }) j = putS (lkS es) k v j
  | [], i, e, h, _, _, j => by simp at h
  | a :: r, 0, e, h, hk, _, j => by
    simp only [List.getElem?_cons_zero, Option.some.injEq] at h
    subst h
    simp only [List.modify_zero_cons, lkS, putS, hk, keyIs_str]
    by_cases hj : j = k
    · subst hj; simp
    · have h1 : (k == j) = false := by simpa using fun h => hj h.symm
      simp [h1, hj]
  | a :: r, i + 1, e, h, hk, hlt, j => by
    rw [List.getElem?_cons_succ] at h
    have ha := hlt 0 (by omega) a rfl
    have ih := lkS_modify (v := v) h hk (fun m hm e' he' => hlt (m + 1) (by omega) e' (by rw [List.getElem?_cons_succ]; exact he')) j
    simp only [List.modify_succ_cons, lkS, putS]
    by_cases haj : keyIsS a.key j = true
    · rw [if_pos haj, if_pos haj]
      by_cases hj : j = k
      · subst hj; exact absurd haj ha
      · rw [if_neg hj]
    · rw [if_neg haj, if_neg haj, ih, putS]

section
variable {P : Program} {w : World} {b : Nat} {f : ByteArray → Option Value} {t kt et : TypeId}
theorem MpS.lt (h : MpS w b f) : b < w.heap.size := by
  obtain ⟨es, clock, hb, _⟩ := h
  rcases Nat.lt_or_ge b w.heap.size with hlt | hge
  · exact hlt
  · rw [Array.getElem?_eq_none hge] at hb; cases hb
theorem MpS.below {w' : World} {B : Nat} (h : MpS w b f) (hb : Below B w w') (hlt : b < B) : MpS w' b f := by
  obtain ⟨es, clock, hh, hr⟩ := h
  exact ⟨es, clock, (hb.block b hlt).trans hh, hr⟩
theorem MpS.of_block {w' : World} (h : MpS w b f) (hb : w'.heap[b]? = w.heap[b]?) : MpS w' b f := by
  obtain ⟨es, clock, hh, hr⟩ := h
  exact ⟨es, clock, hb.trans hh, hr⟩
theorem MpS.new (w : World) : MpS (w.alloc (.map #[] 0)) w.heap.size (fun _ => none) := ⟨#[], 0, heap_alloc_new w _, (fun e he => by simp at he), fun k => rfl⟩

theorem MpS.run_lookup (h : MpS w b f) (ht : P.underlying t = some (.map kt et)) (hk : P.underlying kt = some .string) {z : Value} (hz : (zeroValue et).run P w = .ok z w) (k : ByteArray) (c : Bool) :
    (Instr.lookup t (.map (some b)) (.string k) c).run P w = .ok (if c then .tuple #[(f k).getD z, .bool (f k).isSome] else (f k).getD z) w := by
  obtain ⟨es, clock, hb, hi, hf⟩ := h
  obtain ⟨r, hr, hv, _⟩ := findNow_str es.toList k 0 hi
  have hc : ∀ e, (Instr.checkKey e 10000 kt (.string k)).run P w = .ok () w := fun e => MapKept.run_checkKey (k := .string k) hk (by simp [MapKept.IsKey]) e 9999
  rw [hf k] at hv
  cases r with
  | none =>
    have hv' : f k = none := by rw [← hv]; rfl
    cases c <;> simp [Instr.lookup, run_underlying ht, MapKept.run_getObj_map hb, hc, MapKept.run_findKey hk hr, hz, Result.andThen, hv']
  | some p =>
    have hv' : f k = some p.2 := by rw [← hv]; rfl
    cases c <;> simp [Instr.lookup, run_underlying ht, MapKept.run_getObj_map hb, hc, MapKept.run_findKey hk hr, Result.andThen, hv']

/-- A store: only block b has turned. -/
structure PutS (w w' : World) (b : Nat) (f : ByteArray → Option Value) (k : ByteArray) (v : Value) : Prop where
  os : w'.os = w.os
  tape : w'.tape = w.tape
  output : w'.output = w.output
  size : w'.heap.size = w.heap.size
  block : ∀ j, j ≠ b → w'.heap[j]? = w.heap[j]?
  map : MpS w' b (putS f k v)

theorem MpS.run_update (h : MpS w b f) (ht : P.underlying t = some (.map kt et)) (hk : P.underlying kt = some .string) (k : ByteArray) (v : Value) :
    ∃ w', (Instr.mapUpdate t (.map (some b)) (.string k) v).run P w = .ok () w' ∧ PutS w w' b f k v := by
  have hlt := h.lt
  obtain ⟨es, clock, hb, hi, hf⟩ := h
  obtain ⟨r, hr, hv, hj⟩ := findNow_str es.toList k 0 hi
  have hc : ∀ e, (Instr.checkKey e 10000 kt (.string k)).run P w = .ok () w := fun e => MapKept.run_checkKey (k := .string k) hk (by simp [MapKept.IsKey]) e 9999
  have fr : ∀ o : Obj, ({ w with heap := w.heap.setIfInBounds b o } : World).heap[b]? = some o := fun o => by
    show (w.heap.setIfInBounds b o)[b]? = some o
    rw [Array.getElem?_setIfInBounds, if_pos rfl, if_pos hlt]
  have ff : ∀ (o : Obj) j, j ≠ b → ({ w with heap := w.heap.setIfInBounds b o } : World).heap[j]? = w.heap[j]? := fun o j hne => by
    show (w.heap.setIfInBounds b o)[j]? = w.heap[j]?
    rw [Array.getElem?_setIfInBounds, if_neg (fun e => hne e.symm)]
  cases r with
  | none =>
    refine ⟨{ w with heap := w.heap.setIfInBounds b (.map (es.push { key := .string k, val := v, born := clock }) (clock + 1)) }, ?_, rfl, rfl, rfl, by simp, fun j hne => ff _ j hne, _, _, fr _, ?_, fun j => ?_⟩
    · simp [Instr.mapUpdate, run_underlying ht, MapKept.run_getObj_map hb, hc, MapKept.run_findKey hk hr, MapKept.run_setObj_map _ hb, Result.andThen]
    · intro e he
      simp only [Array.toList_push, List.mem_append, List.mem_singleton] at he
      rcases he with he | rfl
      · exact hi e he
      · exact ⟨k, rfl⟩
    · rw [Array.toList_push, lkS_none_push hv.symm]
      simp only [putS, hf]
  | some p =>
    obtain ⟨i, u⟩ := p
    obtain ⟨_, e, he, hke, hlt'⟩ := hj i u rfl
    rw [Nat.sub_zero] at he hlt'
    have he' : es[i]? = some e := by rw [← Array.getElem?_toList]; exact he
    have hst : (Instr.keyThatStays (((es[i]?).map (·.key)).getD (.string k)) (.string k)).run P w = .ok (.string k) w := by
      rw [he']; simp [Instr.keyThatStays, hke, Instr.sameBits]
    refine ⟨{ w with heap := w.heap.setIfInBounds b (.map (es.modify i fun e => { e with key := .string k, val := v }) clock) }, ?_, rfl, rfl, rfl, by simp, fun j hne => ff _ j hne, _, _, fr _, ?_, fun j => ?_⟩
    · simp [Instr.mapUpdate, run_underlying ht, MapKept.run_getObj_map hb, hc, MapKept.run_findKey hk hr, hst, MapKept.run_setObj_map _ hb, Result.andThen]
    · intro e' he2
      rw [Array.toList_modify] at he2
      obtain ⟨m, hm⟩ := List.mem_iff_getElem?.1 he2
      rw [List.getElem?_modify] at hm
      cases hm3 : es.toList[m]? with
      | none => rw [hm3] at hm; simp at hm
      | some e3 =>
        rw [hm3] at hm
        simp only [Option.map_eq_map, Option.map_some, Option.some.injEq] at hm
        by_cases him : i = m
        · rw [if_pos him] at hm
          rw [← hm]; exact ⟨k, rfl⟩
        · rw [if_neg him] at hm
          rw [← hm]; exact hi e3 (List.mem_iff_getElem?.2 ⟨m, hm3⟩)
    · rw [Array.toList_modify, lkS_modify he hke hlt']
      simp only [putS, hf]
end

end Go.Proofs.Ytmkbojhnbkdalaa
