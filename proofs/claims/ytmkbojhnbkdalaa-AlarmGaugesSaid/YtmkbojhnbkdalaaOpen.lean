/- How this claim opens its arguments: a type's data as a plain Lean value, its cells told by a relation; and the last step of a law. -/
import Derived.Test.YtmkbojhnbkdalaaLib
import Derived.ProofKit
import Derived.Deep.Slices
import Derived.OpenShut
set_option linter.unusedSimpArgs false
namespace Go.Proofs.Ytmkbojhnbkdalaa
open Go.ChangeShapes Go.WideShapes Go.ChangeAt Go.RowKit Go.Deep

theorem own_knob : ownKnob Try.prog.godebug = none := by kernel_rfl
theorem laid_out : laidOutB Try.prog = true := by kernel_rfl

/-- An int's range. -/
def I64 (n : Int) : Prop := -9223372036854775808 ≤ n ∧ n ≤ 9223372036854775807
def U8 (n : Int) : Prop := 0 ≤ n ∧ n ≤ 255
def Any {α : Type} (_ : α) : Prop := True

/-- Whatever reads as type t is, in its sz cells, a value of the Lean type α by R. -/
def Opens {α : Type} (P : Program) (t : TypeId) (sz : Nat) (R : World → Nat → α → List Value → Prop) (Ok : α → Prop) : Prop :=
  P.cellsOf t = sz ∧ ∀ (H : Type) (enc : TypeId × Value → H) (w : World) (base : Nat) (spare : Nat → Bool) (held : Bool) (fuel : Nat) (cs : List Value) (x : DataW H × List MemPlace),
    DataW.trod enc P w base spare held fuel t cs = some x → ∃ a : α, R w w.heap.size a cs ∧ Ok a

def intC (n : Int) : List Value := [.int .i64 n]
def u8C (n : Int) : List Value := [.int .u8 n]
def boolC (b : Bool) : List Value := [.bool b]
def strC (s : ByteArray) : List Value := [.string s]

section
variable {P : Program} {t e : TypeId}
theorem Opens.int (ht : P.underlying t = some (.int .i64)) (hc : P.cellsOf t = 1) : Opens P t 1 (Pl intC) I64 :=
  ⟨hc, fun H enc w base spare held fuel cs x h => by
    obtain ⟨n, rfl, _, hw⟩ := DataW.trod_int ht h
    exact ⟨n, rfl, bounds_i64 hw⟩⟩
theorem Opens.bool (ht : P.underlying t = some .bool) (hc : P.cellsOf t = 1) : Opens P t 1 (Pl boolC) Any :=
  ⟨hc, fun H enc w base spare held fuel cs x h => by
    obtain ⟨n, rfl, _⟩ := DataW.trod_bool ht h
    exact ⟨n, rfl, trivial⟩⟩
theorem Opens.str (ht : P.underlying t = some .string) (hc : P.cellsOf t = 1) : Opens P t 1 (Pl strC) (fun s => s.size ≤ maxLen) :=
  ⟨hc, fun H enc w base spare held fuel cs x h => by
    obtain ⟨n, rfl, _, hw⟩ := DataW.trod_string ht h
    exact ⟨n, rfl, hw⟩⟩

/-- A slice value. -/
def SlV {α : Type} (R : World → Nat → α → List Value → Prop) (sz : Nat) : World → Nat → List α → List Value → Prop :=
  fun w B l vs => ∃ A n cap, vs = [.slice A n cap] ∧ Sl R sz w B A n l ∧ n ≤ maxLen ∧ n ≤ cap ∧ cap ≤ maxLen

theorem slice_reads {α : Type} {sz : Nat} {R : World → Nat → α → List Value → Prop} {Ok : α → Prop} (he : Opens P e sz R Ok) (hsz : 0 < sz) (ht : P.underlying t = some (.slice e))
    {H : Type} {enc : TypeId × Value → H} {w : World} {base : Nat} {spare : Nat → Bool} {held : Bool} {fuel : Nat} {cs : List Value} {x : DataW H × List MemPlace} (h : DataW.trod enc P w base spare held fuel t cs = some x) :
    ∃ l : List α, SlV R sz w w.heap.size l cs ∧ ∀ x ∈ l, Ok x := by
  rcases open_slice ht h with ⟨rfl, _⟩ | ⟨a, len, cap, m, n, D, Pl', rfl, hba, hl, hm, hmm, _, hi⟩
  · exact ⟨[], ⟨none, 0, 0, rfl, Sl.nil_ _ _ _ _ _, Nat.zero_le _, Nat.le_refl _, Nat.zero_le _⟩, fun x hx => by cases hx⟩
  · have hlm : len ≤ m := by rw [hmm]; split <;> omega
    have hel : ∀ i, i < len → ∃ y : α × List Value, R w w.heap.size y.1 y.2 ∧ Ok y.1 ∧ y.2.length = sz ∧ ∀ j, j < sz → w.cell? (a.add (i * sz + j)) = y.2[j]? := by
      intro i hlt
      obtain ⟨cs', hcs, htr⟩ := hi i (by omega)
      rw [he.1] at hcs
      obtain ⟨_, hlen, hat⟩ := World.cells?_some hcs
      obtain ⟨y, hr, hok⟩ := he.2 H enc w base spare held n cs' _ htr
      exact ⟨(y, cs'), hr, hok, hlen, fun j hj => by rw [← add_add]; exact hat j hj⟩
    rcases Nat.eq_zero_or_pos len with h0 | h0
    · subst h0
      exact ⟨[], ⟨some a, 0, cap, rfl, Sl.nil_ _ _ _ _ _, Nat.zero_le _, Nat.zero_le _, hm⟩, fun x hx => by cases hx⟩
    · obtain ⟨y0, _⟩ := hel 0 h0
      haveI : Inhabited (α × List Value) := ⟨y0⟩
      obtain ⟨f, hf⟩ := choose_lt hel
      refine ⟨(List.range len).map fun i => (f i).1, ⟨some a, len, cap, rfl, ⟨by simp, fun k y hk => ?_⟩, Nat.le_trans hl hm, hl, hm⟩, fun x hx => ?_⟩
      · obtain ⟨hkl, hky⟩ := List.getElem?_eq_some_iff.1 hk
        simp only [List.length_map, List.length_range] at hkl
        simp only [List.getElem_map, List.getElem_range] at hky
        obtain ⟨h1, _, h3, h4⟩ := hf k hkl
        have h00 := (hf 0 (by omega)).2.2.2 0 hsz
        have hl0 := (hf 0 (by omega)).2.2.1
        rw [List.getElem?_eq_getElem (by omega)] at h00
        have hspot := World.cell?_spot h00
        have hlt := World.block_lt_of_cell? w _ h00
        rw [show 0 * sz + 0 = 0 by omega] at hspot hlt
        obtain ⟨b, o, sp⟩ := a
        have hsp : sp = none := by simpa [Addr.add] using hspot
        subst hsp
        refine ⟨b, o, (f k).2, rfl, by simpa [Addr.add] using hlt, by rw [← hky]; exact h1, fun j u hu => ?_⟩
        have hj : j < sz := by have := (List.getElem?_eq_some_iff.1 hu).1; omega
        have := h4 j hj
        rw [hu, Go.WideShapes.add_plain] at this
        rw [Nat.add_assoc]; exact this
      · obtain ⟨i, hi', rfl⟩ := List.mem_map.1 hx
        exact (hf i (List.mem_range.1 hi')).2.1

theorem Opens.slice {α : Type} {sz : Nat} {R : World → Nat → α → List Value → Prop} {Ok : α → Prop} (he : Opens P e sz R Ok) (hsz : 0 < sz) (ht : P.underlying t = some (.slice e)) (hc : P.cellsOf t = 1) :
    Opens P t 1 (SlV R sz) (fun l => ∀ x ∈ l, Ok x) :=
  ⟨hc, fun _ _ _ _ _ _ _ _ _ h => slice_reads he hsz ht h⟩

end

section
variable {H : Type} {enc : TypeId × Value → H} {P : Program} {w : World} {base b0 : Nat} {spare : Nat → Bool} {held : Bool} {r : Reach} {t : TypeId} {v : Value} {d : DataW H} {ps : List MemPlace}
theorem arg_struct {α : Type} {sz : Nat} {c : α → List Value} {Ok : α → Prop} {fs : Array Field} (hO : Opens P t sz (Pl c) Ok) (ht : P.underlying t = some (.struct fs))
    (hv : Value.okWide P w r b0 t v) (h : DataW.Trod enc P w base spare held t v d ps) : ∃ a, v = .agg (c a).toArray ∧ Ok a := by
  obtain ⟨cs, rfl, _⟩ := okWide_struct ht hv
  obtain ⟨fuel, hf⟩ := h
  obtain ⟨a, hr, ho⟩ := hO.2 _ _ _ _ _ _ _ _ _ hf
  refine ⟨a, ?_, ho⟩
  have : cs.toList = c a := hr
  rw [← this]
theorem arg_structR {α : Type} {sz : Nat} {R : World → Nat → α → List Value → Prop} {Ok : α → Prop} {fs : Array Field} (hO : Opens P t sz R Ok) (ht : P.underlying t = some (.struct fs))
    (hv : Value.okWide P w r b0 t v) (h : DataW.Trod enc P w base spare held t v d ps) : ∃ a vs, v = .agg vs.toArray ∧ R w w.heap.size a vs ∧ Ok a := by
  obtain ⟨cs, rfl, _⟩ := okWide_struct ht hv
  obtain ⟨fuel, hf⟩ := h
  obtain ⟨a, hr, ho⟩ := hO.2 _ _ _ _ _ _ _ _ _ hf
  exact ⟨a, cs.toList, rfl, hr, ho⟩
theorem arg_slice {α : Type} {sz : Nat} {R : World → Nat → α → List Value → Prop} {Ok : α → Prop} {e : TypeId} (hO : Opens P t 1 (SlV R sz) (fun l => ∀ x ∈ l, Ok x)) (ht : P.underlying t = some (.slice e))
    (hv : Value.okWide P w r b0 t v) (h : DataW.Trod enc P w base spare held t v d ps) : ∃ A n cap l, v = .slice A n cap ∧ Sl R sz w w.heap.size A n l ∧ n ≤ maxLen ∧ n ≤ cap ∧ cap ≤ maxLen ∧ ∀ x ∈ l, Ok x := by
  obtain ⟨A, n, cap, rfl⟩ := okWide_slice ht hv
  obtain ⟨fuel, hf⟩ := h
  obtain ⟨l, ⟨A', n', cap', hvs, hs, hn, hc, hm⟩, ho⟩ := hO.2 _ _ _ _ _ _ _ _ _ hf
  obtain ⟨rfl, rfl, rfl⟩ : A = A' ∧ n = n' ∧ cap = cap' := by simpa [Value.cells] using hvs
  exact ⟨A, n, cap, l, rfl, hs, hn, hc, hm, ho⟩
theorem arg_int (ht : P.underlying t = some (.int .i64)) (hv : Value.okWide P w r b0 t v) (h : DataW.Trod enc P w base spare held t v d ps) : ∃ n, v = .int .i64 n ∧ I64 n := by
  obtain ⟨n, rfl⟩ := okWide_int ht hv
  obtain ⟨fuel, hf⟩ := h
  obtain ⟨m, hm, _, hw⟩ := DataW.trod_int ht hf
  obtain rfl : n = m := by simpa [Value.cells] using hm
  exact ⟨n, rfl, bounds_i64 hw⟩
theorem arg_u8 (ht : P.underlying t = some (.int .u8)) (hv : Value.okWide P w r b0 t v) (h : DataW.Trod enc P w base spare held t v d ps) : ∃ n, v = .int .u8 n ∧ U8 n := by
  obtain ⟨n, rfl⟩ := okWide_int ht hv
  obtain ⟨fuel, hf⟩ := h
  obtain ⟨m, hm, _, hw⟩ := DataW.trod_int ht hf
  obtain rfl : n = m := by simpa [Value.cells] using hm
  exact ⟨n, rfl, bounds_u8 hw⟩
end

/-- The arguments read behind the call as before it. -/
theorem trodAll_stay {H : Type} {enc : TypeId × Value → H} {P : Program} (hl : laidOutB P = true) {W W' : World} (hb : Below W.heap.size W W') :
    ∀ {ts : List TypeId} {vs : List Value} {ds : List (DataW H)} {ps : List MemPlace}, (ts.all fun t => P.readableRec t && decide (t < P.types.size)) = true →
      DataW.TrodAll enc P W 0 (fun _ => true) true ts vs ds ps → (∀ x ∈ ps, x.block < W.heap.size) → DataW.TrodAll enc P W' 0 (fun b => decide (b < W.heap.size)) true ts vs ds ps
  | [], [], [], _, _, h, _ => h
  | [], [], _ :: _, _, _, h, _ => h.elim
  | [], _ :: _, _, _, _, h, _ => h.elim
  | _ :: _, [], _, _, _, h, _ => h.elim
  | _ :: _, _ :: _, [], _, _, h, _ => h.elim
  | t :: ts, v :: vs, d :: ds, ps, ht, h, hlt => by
    obtain ⟨p, q, h1, h2, rfl⟩ := h
    simp only [List.all_cons, Bool.and_eq_true, decide_eq_true_eq] at ht
    exact ⟨p, q, Below.trod hl ht.1.1 ht.1.2 h1 hb (fun x hx => hlt x (List.mem_append_left _ hx)),
      trodAll_stay hl hb ht.2 h2 (fun x hx => hlt x (List.mem_append_right _ hx)), rfl⟩

/-- A law's last step: it has returned true, and nothing that was there has turned. -/
theorem law_post {H : Type} {enc : TypeId × Value → H} {P : Program} {f : Func} {s : ChangeSpec} {W W' : World} {args : Array Value} {ds gs : List (DataW H)} {before : List MemPlace} {T : TypeId}
    (hl : laidOutB P = true) (hrows : (f.params.toList.all fun t => P.readableRec t && decide (t < P.types.size)) = true) (hvars : s.vars = [])
    (hfn : s.fn H (ds ++ []) = { results := [.lit (.bool true)], args := ds }) (hr : f.resultTypes = #[T]) (hT : P.underlying T = some .bool)
    (hW : DataW.Whole enc P f.params.toList s.vars false W args.toList ds gs before) (hb : Below W.heap.size W W') :
    s.post enc P f false true false false W args (.bool true) W' := by
  have hW' := hW
  obtain ⟨p, q, hA, hV, rfl, hfz, hnd⟩ := hW
  have hlt : ∀ x ∈ p ++ q, x.block < W.heap.size := fun x hx => hW'.lt x hx
  have hq : q = [] := by
    rw [hvars] at hV
    cases gs with
    | nil => exact hV
    | cons g gs => exact hV.elim
  subst hq
  have hg : gs = [] := by
    rw [hvars] at hV
    cases gs with
    | nil => rfl
    | cons g gs => exact hV.elim
  subst hg
  refine ⟨ds, [], p ++ [], [], p, [], hW', ?_, ?_, ?_, ?_, fun h => by cases h⟩
  · rw [hr, hfn]
    exact trodAll_mk1 (shut_bool hT true)
  · rw [hfn]
    exact trodAll_stay hl hb hrows hA (fun x hx => hlt x (List.mem_append_left _ hx))
  · rw [hvars, hfn]
    exact rfl
  · exact hb.frame _

end Go.Proofs.Ytmkbojhnbkdalaa
