/- Law WardenAside: the plain part: two posts, one of which has only the calls for one town. -/
import Derived.Test.YtlhaoiplbebgnaaWardenP
import Derived.Maps.AppendAt
set_option linter.unusedSimpArgs false
set_option linter.unusedVariables false
namespace Go.Proofs.Ytlhaoiplbebgnaa
open Go.RowKit

/-- The number that stands for another post's number: one more than the last index at which it is found, or -1. -/
def trL (f : List Int) (num : Int) : Nat → Int
  | 0 => -1
  | k + 1 => if f[k]? = some num then (k : Int) + 1 else trL f num k
theorem trL_le (f : List Int) (num : Int) : ∀ k, trL f num k = -1 ∨ (1 ≤ trL f num k ∧ trL f num k ≤ k)
  | 0 => .inl rfl
  | k + 1 => by
    have ih := trL_le f num k
    unfold trL
    split
    · exact .inr ⟨by omega, by omega⟩
    · omega
theorem trL_last {f : List Int} {x num : Int} (h : f.getLast? = some x) : trL f num f.length = f.length ↔ x = num := by
  rw [List.getLast?_eq_getElem?] at h
  obtain ⟨hlt, _⟩ := List.getElem?_eq_some_iff.1 h
  obtain ⟨n, hn⟩ : ∃ n, f.length = n + 1 := ⟨f.length - 1, by omega⟩
  rw [hn] at h ⊢
  simp only [Nat.add_sub_cancel] at h
  unfold trL
  rw [h]
  by_cases hx : x = num
  · subst hx; simp
  · have hx' : ¬ some x = some num := fun h => hx (Option.some.inj h)
    rw [if_neg hx']
    have := trL_le f num n
    constructor
    · intro h; omega
    · intro h; exact absurd h hx

structure AsRel (sp sq : St) (t : Int) (f : List Int) : Prop where
  many : sq.many = f.length
  other : ∀ j, j ≠ t → sq.F j = none
  none_ : f = [] → sp.F t = none ∧ sq.F t = none
  some_ : ∀ x, f.getLast? = some x → ∃ lv h fin, sp.F t = some ⟨lv, x, h, fin⟩ ∧ sq.F t = some ⟨lv, f.length, h, fin⟩

theorem AsRel.start (t : Int) : AsRel ⟨0, fun _ => none⟩ ⟨0, fun _ => none⟩ t [] := ⟨rfl, fun _ _ => rfl, fun _ => ⟨rfl, rfl⟩, fun x h => by cases h⟩
theorem AsRel.cases_ {sp sq : St} {t : Int} {f : List Int} (h : AsRel sp sq t f) : (f = [] ∧ sp.F t = none ∧ sq.F t = none) ∨ ∃ x lv u fin, f.getLast? = some x ∧ sp.F t = some ⟨lv, x, u, fin⟩ ∧ sq.F t = some ⟨lv, f.length, u, fin⟩ := by
  cases hl : f.getLast? with
  | none =>
    have hf : f = [] := by simpa using hl
    exact .inl ⟨hf, h.none_ hf⟩
  | some x =>
    obtain ⟨lv, u, fin, h1, h2⟩ := h.some_ x hl
    exact .inr ⟨x, lv, u, fin, rfl, h1, h2⟩
theorem AsRel.awaits {sp sq : St} {t : Int} {f : List Int} (h : AsRel sp sq t f) (wd num wn : Int) : awaitsB sq.F wd t (trL f num f.length) wn = awaitsB sp.F wd t num wn := by
  rcases h.cases_ with ⟨_, h1, h2⟩ | ⟨x, lv, u, fin, hl, h1, h2⟩
  · unfold awaitsB; rw [h1, h2]
  · unfold awaitsB
    rw [h1, h2]
    have := trL_last (num := num) hl
    have e : ((f.length : Int) == trL f num f.length) = (x == num) := by
      rw [Bool.eq_iff_iff, beq_iff_eq, beq_iff_eq, ← this]
      exact ⟨fun h => h.symm, fun h => h.symm⟩
    simp only [e]
theorem ackS_fin (wd : Int) (s : St) (c : Cl) (o : Od) (h : s.F c.town = some o) : ackS wd s c = ⟨s.many, fun j => if j = c.town then some ⟨o.level, o.number, o.hour, o.fin || awaitsB s.F wd c.town c.number c.warden⟩ else s.F j⟩ := by
  obtain ⟨m, F⟩ := s
  unfold ackS
  simp only at h ⊢
  rw [h]
  simp only
  cases ha : awaitsB F wd c.town c.number c.warden with
  | true => simp
  | false =>
    simp only [Bool.false_eq_true, if_false, Bool.or_false]
    congr 1
    funext j
    by_cases hj : j = c.town
    · subst hj; simp [h]
    · simp [hj]
theorem ackS_none (wd : Int) (s : St) (c : Cl) (h : s.F c.town = none) : ackS wd s c = s := by
  unfold ackS; rw [h]
theorem AsRel.ack {sp sq : St} {f : List Int} {c : Cl} (h : AsRel sp sq c.town f) (wd : Int) : AsRel (ackS wd sp c) (ackS wd sq ⟨c.town, c.level, trL f c.number f.length, c.warden⟩) c.town f := by
  have ha := h.awaits wd c.number c.warden
  rcases h.cases_ with ⟨hf, h1, h2⟩ | ⟨x, lv, u, fin, hl, h1, h2⟩
  · rw [ackS_none wd sp c h1, ackS_none wd sq ⟨c.town, c.level, trL f c.number f.length, c.warden⟩ h2]; exact h
  · rw [ackS_fin wd sp c _ h1, ackS_fin wd sq ⟨c.town, c.level, trL f c.number f.length, c.warden⟩ _ h2]
    refine ⟨h.many, fun j hj => ?_, fun hf => ?_, fun x' hx' => ?_⟩
    · show (if j = c.town then _ else sq.F j) = none
      rw [if_neg hj]; exact h.other j hj
    · rw [hf] at hl; cases hl
    · rw [hl] at hx'
      injection hx' with hx'
      subst hx'
      refine ⟨lv, u, fin || awaitsB sp.F wd c.town c.number c.warden, by simp, ?_⟩
      show (if c.town = c.town then some _ else _) = _
      rw [if_pos rfl, ← ha]
theorem AsRel.ack_other {sp sq : St} {t : Int} {f : List Int} {c : Cl} (h : AsRel sp sq t f) (wd : Int) (hc : c.town ≠ t) : AsRel (ackS wd sp c) sq t f := by
  have e : (ackS wd sp c).F t = sp.F t := by
    cases hF : sp.F c.town with
    | none => rw [ackS_none wd sp c hF]
    | some o =>
      rw [ackS_fin wd sp c o hF]
      show (if t = c.town then _ else sp.F t) = _
      rw [if_neg (fun h => hc h.symm)]
  exact ⟨h.many, h.other, fun hf => by rw [e]; exact h.none_ hf, fun x hx => by rw [e]; exact h.some_ x hx⟩
theorem AsRel.raise {sp sq : St} {t lv u : Int} {f : List Int} (h : AsRel sp sq t f) (hr : raiseOk t lv u) : AsRel (raiseS sp t lv u) (raiseS sq t lv u) t (f ++ [sp.many + 1]) := by
  unfold raiseS
  rw [if_pos hr, if_pos hr]
  refine ⟨?_, fun j hj => ?_, fun hf => by simp at hf, fun x hx => ?_⟩
  · show sq.many + 1 = _
    rw [h.many, List.length_append]; simp
  · show (if j = t then _ else sq.F j) = none
    rw [if_neg hj]; exact h.other j hj
  · rw [List.getLast?_concat] at hx
    injection hx with hx
    subst hx
    refine ⟨lv, u, false, by simp, ?_⟩
    show (if t = t then some _ else _) = _
    rw [if_pos rfl, h.many, List.length_append]
    simp
theorem AsRel.raise_other {sp sq : St} {t town lv u : Int} {f : List Int} (h : AsRel sp sq t f) (hc : town ≠ t) : AsRel (raiseS sp town lv u) sq t f := by
  have e : (raiseS sp town lv u).F t = sp.F t := by
    unfold raiseS
    split
    · show (if t = town then _ else sp.F t) = _
      rw [if_neg (fun h => hc h.symm)]
    · rfl
  exact ⟨h.many, h.other, fun hf => by rw [e]; exact h.none_ hf, fun x hx => by rw [e]; exact h.some_ x hx⟩
theorem raise_not {s : St} {town lv u : Int} (h : ¬ raiseOk town lv u) : raiseS s town lv u = s := by unfold raiseS; rw [if_neg h]

theorem due_pair {sp sq : St} {t : Int} {f : List Int} {n : Nat} (h : AsRel sp sq t f) (hg : Good sp n) (wd u : Int) :
    (∀ i y, (dueL sp.F wd u)[i]? = some y → y.town = t → ∃ z, (dueL sq.F wd u)[cnt t ((dueL sp.F wd u).take i)]? = some z ∧ z.warden = y.warden ∧ z.level = y.level ∧ z.town = t) ∧ cnt t (dueL sp.F wd u) = (dueL sq.F wd u).length := by
  have hself : (dueL sq.F wd u).filter (ofT t) = dueL sq.F wd u := by
    rw [List.filter_eq_self]
    intro y hy
    obtain ⟨h1, _⟩ := mem_due.1 hy
    obtain ⟨o, ho, _⟩ := openL_mem h1
    by_cases ht : y.town = t
    · simp [ofT, ht]
    · rw [h.other _ ht] at ho; cases ho
  have hnil : (∀ o, sp.F t = some o → o.fin = true) → (∀ o, sq.F t = some o → o.fin = true) →
      (∀ i y, (dueL sp.F wd u)[i]? = some y → y.town = t → ∃ z, (dueL sq.F wd u)[cnt t ((dueL sp.F wd u).take i)]? = some z ∧ z.warden = y.warden ∧ z.level = y.level ∧ z.town = t) ∧ cnt t (dueL sp.F wd u) = (dueL sq.F wd u).length := by
    intro hp hq
    have e1 := due_shut wd u hp
    have e2 := due_shut wd u hq
    rw [hself] at e2
    refine ⟨fun i y hi hy => ?_, by rw [cnt_shut wd u hp, e2]; rfl⟩
    have := filter_get (ofT t) _ _ _ hi (by simp [ofT, hy])
    rw [e1] at this
    simp at this
  rcases h.cases_ with ⟨_, h1, h2⟩ | ⟨x, lv, v, fin, hl, h1, h2⟩
  · exact hnil (fun o ho => by rw [h1] at ho; cases ho) (fun o ho => by rw [h2] at ho; cases ho)
  · cases fin with
    | true => exact hnil (fun o ho => by rw [h1] at ho; injection ho with ho; subst ho; rfl) (fun o ho => by rw [h2] at ho; injection ho with ho; subst ho; rfl)
    | false =>
      obtain ⟨t0, t1, _⟩ := hg.od t _ h1
      have e2 := due_open wd u t0 t1 h2 rfl
      rw [hself] at e2
      refine ⟨fun i y hi hy => ?_, by rw [cnt_open wd u t0 t1 h1 rfl, e2, callsN_len]⟩
      obtain ⟨hyy, _, hlt⟩ := due_get t0 t1 h1 hi hy
      refine ⟨⟨t, lv, f.length, (cnt t ((dueL sp.F wd u).take i) : Nat)⟩, ?_, ?_⟩
      · rw [e2]
        unfold callsN
        rw [List.getElem?_map, List.getElem?_range hlt]
        rfl
      · rw [hyy]; exact ⟨rfl, rfl, rfl⟩

def gL (m : Nat) : List Int := (List.range m).map fun (k : Nat) => (k : Int) + 1
theorem gL_len (m : Nat) : (gL m).length = m := by simp [gL]
theorem gL_succ (m : Nat) : gL (m + 1) = gL m ++ [(m : Int) + 1] := by simp [gL, List.range_succ]
theorem gL_get {m k : Nat} {x : Int} (h : (gL m)[k]? = some x) : x = (k : Int) + 1 := by
  unfold gL at h
  rw [List.getElem?_map] at h
  cases hk : (List.range m)[k]? with
  | none => rw [hk] at h; cases h
  | some j =>
    rw [hk] at h
    obtain ⟨_, he⟩ := List.getElem?_eq_some_iff.1 hk
    rw [List.getElem_range] at he
    subst he
    injection h with h
    exact h.symm

theorem own_of_blocks {w w' : World} {base : Nat} {e : TypeId} {sz n : Nat} {v : Value} {xs : List Value} (h : w.ownsRow base e sz v n xs) (hb : ∀ j, v.ownBlock = some j → w'.heap[j]? = w.heap[j]?) : w'.ownsRow base e sz v n xs := by
  refine ⟨h.1, ?_⟩
  rcases h.2 with h0 | ⟨g, cap, cur, hv, hg, hh, hr⟩
  · exact .inl h0
  · exact .inr ⟨g, cap, cur, hv, hg, (hb g (by rw [hv]; rfl)).trans hh, hr⟩
theorem own_map_ne {w : World} {base : Nat} {e : TypeId} {sz n : Nat} {v : Value} {xs : List Value} {b : Nat} {m : Int → Option Value} (h : w.ownsRow base e sz v n xs) (hm : Mp w b m) : v.ownBlock ≠ some b := by
  obtain ⟨es, clock, hb, _⟩ := hm
  rcases h.2 with ⟨rfl, _⟩ | ⟨g', cap, cur, rfl, _, hh, _⟩
  · simp [Value.ownBlock]
  · intro he
    have : g' = b := by simpa [Value.ownBlock] using he
    subst this
    rw [hb] at hh
    injection hh with hh
    cases hh
theorem Post.of_blocks {w w' : World} {g b : Nat} {wd : Int} {s : St} (h : Post w g b wd s) (h1 : w'.heap[g]? = w.heap[g]?) (h2 : w'.heap[b]? = w.heap[b]?) : Post w' g b wd s :=
  ⟨⟨h1.trans h.rep.cells, h.rep.map.of_block h2, h.rep.ne_⟩⟩
theorem own_post_ne {w : World} {base : Nat} {sz n : Nat} {v : Value} {xs : List Value} {g b : Nat} {wd : Int} {s : St} (h : w.ownsRow base 3 sz v n xs) (hp : Post w g b wd s) : v.ownBlock ≠ some g ∧ v.ownBlock ≠ some b :=
  ⟨own_bk_ne h hp.rep.cells (by decide), own_map_ne h hp.rep.map⟩

/-- What lies in memory in a round of the law's first loop. -/
structure AsW (w0 wr : World) (B0 g b g2 b2 : Nat) (wd : Int) (sp sq : St) (v12 v13 : Value) (f gg : List Int) : Prop where
  below : Below B0 w0 wr
  p : Post wr g b wd sp
  q : Post wr g2 b2 wd sq
  o1 : wr.ownsRow B0 3 1 v12 f.length (f.flatMap fun n => [.int .i64 n])
  o2 : wr.ownsRow B0 3 1 v13 gg.length (gg.flatMap fun n => [.int .i64 n])
  sep : ∀ j, v12.ownBlock = some j → v13.ownBlock ≠ some j
  low : B0 ≤ w0.heap.size ∧ B0 ≤ g ∧ B0 ≤ b ∧ B0 ≤ g2 ∧ B0 ≤ b2
  dis : g ≠ g2 ∧ g ≠ b2 ∧ b ≠ g2 ∧ b ≠ b2
section
variable {w0 wr w' : World} {B0 g b g2 b2 : Nat} {wd : Int} {sp sq : St} {v12 v13 : Value} {f gg : List Int}
theorem AsW.big (h : AsW w0 wr B0 g b g2 b2 wd sp sq v12 v13 f gg) : B0 ≤ wr.heap.size := Nat.le_trans h.low.1 h.below.size
theorem AsW.on (h : AsW w0 wr B0 g b g2 b2 wd sp sq v12 v13 f gg) (hb : Below wr.heap.size wr w') : AsW w0 w' B0 g b g2 b2 wd sp sq v12 v13 f gg :=
  ⟨h.below.trans (hb.mono h.big), h.p.below hb, h.q.below hb, own_below h.o1 hb, own_below h.o2 hb, h.sep, h.low, h.dis⟩
theorem AsW.turn_p {sp' : St} (h : AsW w0 wr B0 g b g2 b2 wd sp sq v12 v13 f gg) (ho : Only2 wr w' g b) (hp : Post w' g b wd sp') : AsW w0 w' B0 g b g2 b2 wd sp' sq v12 v13 f gg := by
  obtain ⟨l0, l1, l2, l3, l4⟩ := h.low
  obtain ⟨d1, d2, d3, d4⟩ := h.dis
  refine ⟨h.below.trans (ho.to_below l1 l2 h.big), hp, h.q.other ho (Ne.symm d1) (Ne.symm d3) (Ne.symm d2) (Ne.symm d4), own_of_blocks h.o1 (fun j hj => ?_), own_of_blocks h.o2 (fun j hj => ?_), h.sep, h.low, h.dis⟩
  · obtain ⟨n1, n2⟩ := own_post_ne h.o1 h.p
    exact ho.block j (h.o1.lt j hj).2 (fun e => n1 (by rw [hj, e])) (fun e => n2 (by rw [hj, e]))
  · obtain ⟨n1, n2⟩ := own_post_ne h.o2 h.p
    exact ho.block j (h.o2.lt j hj).2 (fun e => n1 (by rw [hj, e])) (fun e => n2 (by rw [hj, e]))
theorem AsW.turn_q {sq' : St} (h : AsW w0 wr B0 g b g2 b2 wd sp sq v12 v13 f gg) (ho : Only2 wr w' g2 b2) (hp : Post w' g2 b2 wd sq') : AsW w0 w' B0 g b g2 b2 wd sp sq' v12 v13 f gg := by
  obtain ⟨l0, l1, l2, l3, l4⟩ := h.low
  obtain ⟨d1, d2, d3, d4⟩ := h.dis
  refine ⟨h.below.trans (ho.to_below l3 l4 h.big), h.p.other ho d1 d2 d3 d4, hp, own_of_blocks h.o1 (fun j hj => ?_), own_of_blocks h.o2 (fun j hj => ?_), h.sep, h.low, h.dis⟩
  · obtain ⟨n1, n2⟩ := own_post_ne h.o1 h.q
    exact ho.block j (h.o1.lt j hj).2 (fun e => n1 (by rw [hj, e])) (fun e => n2 (by rw [hj, e]))
  · obtain ⟨n1, n2⟩ := own_post_ne h.o2 h.q
    exact ho.block j (h.o2.lt j hj).2 (fun e => n1 (by rw [hj, e])) (fun e => n2 (by rw [hj, e]))
theorem Post.grown {w1 : World} {s : St} (h : Post wr g b wd s) {row : Option Nat} (hg : wr.grownBy w1 row) (h1 : row ≠ some g) (h2 : row ≠ some b) : Post w1 g b wd s :=
  h.of_blocks (hg.block g h.rep.cells.lt (fun e => h1 e.symm)) (hg.block b h.rep.map.lt (fun e => h2 e.symm))
theorem AsW.app1 {v' : Value} {x : Int} (h : AsW w0 wr B0 g b g2 b2 wd sp sq v12 v13 f gg) (hg : wr.grownBy w' v12.ownBlock) (ho : w'.ownsRow B0 3 1 v' (f.length + 1) ((f.flatMap fun n => [.int .i64 n]) ++ [.int .i64 x])) (hat : v'.ownBlock = v12.ownBlock ∨ v'.ownBlock = some wr.heap.size) :
    AsW w0 w' B0 g b g2 b2 wd sp sq v' v13 (f ++ [x]) gg := by
  obtain ⟨n1, n2⟩ := own_post_ne h.o1 h.p
  obtain ⟨n3, n4⟩ := own_post_ne h.o1 h.q
  refine ⟨h.below.grown hg h.big (fun j hj => (h.o1.lt j hj).1), h.p.grown hg n1 n2, h.q.grown hg n3 n4, by simpa using ho, h.o2.kept hg ?_, fun j hj => ?_, h.low, h.dis⟩
  · cases he : v13.ownBlock with
    | none => exact .inl rfl
    | some j => exact .inr (fun e => h.sep j e.symm he)
  · rcases hat with e | e
    · exact h.sep j (e ▸ hj)
    · intro h2
      have := (h.o2.lt j h2).2
      rw [hj] at e
      injection e with e
      omega
theorem AsW.app2 {v' : Value} {x : Int} (h : AsW w0 wr B0 g b g2 b2 wd sp sq v12 v13 f gg) (hg : wr.grownBy w' v13.ownBlock) (ho : w'.ownsRow B0 3 1 v' (gg.length + 1) ((gg.flatMap fun n => [.int .i64 n]) ++ [.int .i64 x])) (hat : v'.ownBlock = v13.ownBlock ∨ v'.ownBlock = some wr.heap.size) :
    AsW w0 w' B0 g b g2 b2 wd sp sq v12 v' f (gg ++ [x]) := by
  obtain ⟨n1, n2⟩ := own_post_ne h.o2 h.p
  obtain ⟨n3, n4⟩ := own_post_ne h.o2 h.q
  refine ⟨h.below.grown hg h.big (fun j hj => (h.o2.lt j hj).1), h.p.grown hg n1 n2, h.q.grown hg n3 n4, h.o1.kept hg ?_, by simpa using ho, fun j hj h2 => ?_, h.low, h.dis⟩
  · cases he : v12.ownBlock with
    | none => exact .inl rfl
    | some j => exact .inr (fun e => h.sep j he e.symm)
  · rcases hat with e | e
    · exact h.sep j hj (e ▸ h2)
    · have := (h.o1.lt j hj).2
      rw [h2] at e
      injection e with e
      omega
end

end Go.Proofs.Ytlhaoiplbebgnaa
