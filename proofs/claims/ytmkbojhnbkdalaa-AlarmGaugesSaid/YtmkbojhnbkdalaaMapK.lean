/- Maps with int keys of which the number of keys is asked: the list of the keys. -/
import Derived.Test.YtmkbojhnbkdalaaMap
set_option linter.unusedSimpArgs false
set_option linter.unusedVariables false
namespace Go.Proofs.Ytmkbojhnbkdalaa
open Go.RowKit

def addK (ks : List Int) (k : Int) : List Int := if k ∈ ks then ks else ks ++ [k]
def keysOf (es : List MapEntry) (ks : List Int) : Prop := es.map (·.key) = ks.map fun k => Value.int .i64 k
def MpK (w : World) (b : Nat) (ks : List Int) : Prop := ∃ es clock, w.heap[b]? = some (.map es clock) ∧ keysOf es.toList ks
theorem keysOf_int {es : List MapEntry} {ks : List Int} (h : keysOf es ks) : intKeys es := by
  intro e he
  have : e.key ∈ es.map (·.key) := List.mem_map.2 ⟨e, he, rfl⟩
  rw [h] at this
  obtain ⟨k, _, hk⟩ := List.mem_map.1 this
  exact ⟨k, hk.symm⟩
theorem lkE_keys : ∀ {es : List MapEntry} {ks : List Int}, keysOf es ks → ∀ k, (lkE es k).isSome = true ↔ k ∈ ks
  | [], ks, h, k => by
    have : ks = [] := by
      have := congrArg List.length h
      simp at this
      exact List.length_eq_zero_iff.1 this.symm
    subst this
    simp [lkE]
  | e :: r, [], h, k => by simp [keysOf] at h
  | e :: r, a :: ks, h, k => by
    unfold keysOf at h
    simp only [List.map_cons, List.cons.injEq] at h
    have ih := lkE_keys (es := r) (ks := ks) h.2 k
    unfold lkE
    rw [h.1, keyIs_int]
    by_cases hk : a = k
    · subst hk; simp
    · have hak : (a == k) = false := by simpa using hk
      rw [hak]
      simp only [Bool.false_eq_true, if_false, List.mem_cons]
      rw [ih]
      constructor
      · exact Or.inr
      · rintro (h1 | h1)
        · exact absurd h1.symm hk
        · exact h1

section
variable {P : Program} {w : World} {b : Nat} {ks : List Int} {t kt et : TypeId}
theorem MpK.lt (h : MpK w b ks) : b < w.heap.size := by
  obtain ⟨es, clock, hb, _⟩ := h
  rcases Nat.lt_or_ge b w.heap.size with hlt | hge
  · exact hlt
  · rw [Array.getElem?_eq_none hge] at hb; cases hb
theorem MpK.below {w' : World} {B : Nat} (h : MpK w b ks) (hb : Below B w w') (hlt : b < B) : MpK w' b ks := by
  obtain ⟨es, clock, hh, hr⟩ := h
  exact ⟨es, clock, (hb.block b hlt).trans hh, hr⟩
theorem MpK.new (w : World) : MpK (w.alloc (.map #[] 0)) w.heap.size [] := ⟨#[], 0, heap_alloc_new w _, rfl⟩
structure PutK (w w' : World) (b : Nat) (ks : List Int) : Prop where
  os : w'.os = w.os
  tape : w'.tape = w.tape
  output : w'.output = w.output
  size : w'.heap.size = w.heap.size
  block : ∀ j, j ≠ b → w'.heap[j]? = w.heap[j]?
  map : MpK w' b ks
theorem MpK.run_update (h : MpK w b ks) (ht : P.underlying t = some (.map kt et)) (hk : P.underlying kt = some (.int .i64)) (k : Int) (v : Value) :
    ∃ w', (Instr.mapUpdate t (.map (some b)) (.int .i64 k) v).run P w = .ok () w' ∧ PutK w w' b (addK ks k) := by
  have hlt := h.lt
  obtain ⟨es, clock, hb, hi⟩ := h
  obtain ⟨r, hr, hv, hj⟩ := findNow_int es.toList k 0 (keysOf_int hi)
  have hkm := lkE_keys hi k
  have hc : ∀ e, (Instr.checkKey e 10000 kt (.int .i64 k)).run P w = .ok () w := fun e => MapKept.run_checkKey (k := .int .i64 k) hk (by simp [MapKept.IsKey]) e 9999
  have fr : ∀ o : Obj, ({ w with heap := w.heap.setIfInBounds b o } : World).heap[b]? = some o := fun o => by
    show (w.heap.setIfInBounds b o)[b]? = some o
    rw [Array.getElem?_setIfInBounds, if_pos rfl, if_pos hlt]
  have ff : ∀ (o : Obj) j, j ≠ b → ({ w with heap := w.heap.setIfInBounds b o } : World).heap[j]? = w.heap[j]? := fun o j hne => by
    show (w.heap.setIfInBounds b o)[j]? = w.heap[j]?
    rw [Array.getElem?_setIfInBounds, if_neg (fun e => hne e.symm)]
  cases r with
  | none =>
    have hnot : ¬ k ∈ ks := by
      rw [← hkm, ← hv]
      simp
    refine ⟨{ w with heap := w.heap.setIfInBounds b (.map (es.push { key := .int .i64 k, val := v, born := clock }) (clock + 1)) }, ?_, rfl, rfl, rfl, by simp, fun j hne => ff _ j hne, _, _, fr _, ?_⟩
    · simp [Instr.mapUpdate, run_underlying ht, MapKept.run_getObj_map hb, hc, MapKept.run_findKey hk hr, MapKept.run_setObj_map _ hb, Result.andThen]
    · unfold addK keysOf
      rw [if_neg hnot, Array.toList_push, List.map_append, List.map_append, hi]
      rfl
  | some p =>
    have hin : k ∈ ks := by
      rw [← hkm, ← hv]
      rfl
    obtain ⟨i, u⟩ := p
    obtain ⟨_, e, he, hke, hlt'⟩ := hj i u rfl
    rw [Nat.sub_zero] at he hlt'
    have he' : es[i]? = some e := by rw [← Array.getElem?_toList]; exact he
    have hst : (Instr.keyThatStays (((es[i]?).map (·.key)).getD (.int .i64 k)) (.int .i64 k)).run P w = .ok (.int .i64 k) w := by
      rw [he']; simp [Instr.keyThatStays, hke, Instr.sameBits]
    refine ⟨{ w with heap := w.heap.setIfInBounds b (.map (es.modify i fun e => { e with key := .int .i64 k, val := v }) clock) }, ?_, rfl, rfl, rfl, by simp, fun j hne => ff _ j hne, _, _, fr _, ?_⟩
    · simp [Instr.mapUpdate, run_underlying ht, MapKept.run_getObj_map hb, hc, MapKept.run_findKey hk hr, hst, MapKept.run_setObj_map _ hb, Result.andThen]
    · unfold addK keysOf
      rw [if_pos hin, ← hi, Array.toList_modify]
      apply List.ext_getElem?
      intro m
      rw [List.getElem?_map, List.getElem?_map, List.getElem?_modify]
      cases hm3 : es.toList[m]? with
      | none => rfl
      | some e3 =>
        by_cases him : i = m
        · subst him
          rw [he] at hm3
          injection hm3 with hm3
          subst hm3
          simp [hke]
        · simp [him]
theorem MpK.run_len (h : MpK w b ks) (ht : P.underlying t = some (.map kt et)) (ty : TypeId) : (Builtin.len_ #[t] ty #[.map (some b)]).run P w = .ok (.int .i64 (ks.length : Int)) w := by
  obtain ⟨es, clock, hb, hi⟩ := h
  have hl : es.size = ks.length := by
    have := congrArg List.length hi
    simpa using this
  simp [Builtin.len_, run_underlying ht, MapKept.run_getObj_map hb, goInt, hl]
end

end Go.Proofs.Ytmkbojhnbkdalaa
