/- A region that draws its order, walked once, in an order of one's own choice: its main operations (calls, allocs, stores, appends: they may turn the world and return what they like) come one after the other, each waiting for the one before; each other operation yields its value in every world that meets S, and comes ahead of every main operation for which it does not wait. -/
import Derived.Test.YtmkbojhnbkdalaaRegionA
import Derived.Maps.AppendAt
set_option linter.unusedSimpArgs false
set_option linter.unusedVariables false
namespace Go.Proofs.Ytmkbojhnbkdalaa
open Go.RowKit

section
variable {P : Program} {ops : Array Oper} {Q : Exit → Act → World → Prop} {S : World → Prop} {mains : List Nat} {T : Act → World → Prop}

/-- An operation that leaves the world alone. -/
def LightM (P : Program) (ops : Array Oper) (S : World → Prop) (o : Oper) (v : Value) (a : Act) : Prop :=
  (Region.wanted o (yielded ops a.tmps) = true ∧ ∀ w, S w → (execOp a.eval o).run P w = .ok (.value v) w) ∨ (Region.wanted o (yielded ops a.tmps) = false ∧ v = undef)
/-- A main operation: what it returns, and the world behind it. -/
def MainM (P : Program) (ops : Array Oper) (o : Oper) (a : Act) (w : World) (R : Value → World → Prop) : Prop :=
  Region.wanted o (yielded ops a.tmps) = true ∧ ((∃ v w', (execOp a.eval o).run P w = .ok (.value v) w' ∧ R v w') ∨ (∃ w', (execOp a.eval o).run P w = .ok .skip w' ∧ R undef w') ∨
    ∃ f args w', (execOp a.eval o).run P w = .ok (.enter f args) w' ∧ Calls P f args w' (fun e w'' => ∃ v, e = .returned v ∧ R v w''))

theorem LightM.of_same {o : Oper} {v : Value} {a a' : Act} (h : LightM P ops S o v a) (he : execOp a'.eval o = execOp a.eval o)
    (hw : Region.wanted o (yielded ops a'.tmps) = Region.wanted o (yielded ops a.tmps)) : LightM P ops S o v a' := by
  unfold LightM at *
  rw [he, hw]
  exact h
theorem MainM.of_same {o : Oper} {a a' : Act} {w : World} {R : Value → World → Prop} (h : MainM P ops o a w R) (he : execOp a'.eval o = execOp a.eval o)
    (hw : Region.wanted o (yielded ops a'.tmps) = Region.wanted o (yielded ops a.tmps)) : MainM P ops o a' w R := by
  unfold MainM at *
  rw [he, hw]
  exact h
theorem MainM.imp {o : Oper} {a : Act} {w : World} {R R' : Value → World → Prop} (h : MainM P ops o a w R) (hi : ∀ v w', R v w' → R' v w') : MainM P ops o a w R' := by
  obtain ⟨hw, h⟩ := h
  refine ⟨hw, ?_⟩
  rcases h with ⟨v, w', h1, h2⟩ | ⟨w', h1, h2⟩ | ⟨f, args, w', h1, h2⟩
  · exact .inl ⟨v, w', h1, hi _ _ h2⟩
  · exact .inr (.inl ⟨w', h1, hi _ _ h2⟩)
  · exact .inr (.inr ⟨f, args, w', h1, h2.mono fun e w'' ⟨v, he, hr⟩ => ⟨v, he, hi _ _ hr⟩⟩)
theorem LightM.wpOp {i : Nat} {o : Oper} {v : Value} {a : Act} (hi : ops[i]? = some o) (hy : LightM P ops S o v a) {K : Act → World → Prop} {w : World} (hS : S w) (h : K (a.put o.dst v) w) : wpOp P ops Q i K a w := by
  unfold Go.wpOp
  simp only [hi]
  rcases hy with ⟨hw, hv⟩ | ⟨hw, rfl⟩
  · simp only [hw, if_true]
    refine .inl ?_
    unfold Oper.wp
    rw [hv w hS]
    exact h
  · simp only [hw, Bool.false_eq_true, if_false]; exact h
theorem MainM.wpOp {i : Nat} {o : Oper} {a : Act} (hi : ops[i]? = some o) {w : World} {R : Value → World → Prop} (hy : MainM P ops o a w R) {K : Act → World → Prop} (h : ∀ v w', R v w' → K (a.put o.dst v) w') : wpOp P ops Q i K a w := by
  unfold Go.wpOp
  simp only [hi]
  obtain ⟨hw, hv⟩ := hy
  simp only [hw, if_true]
  refine .inl ?_
  unfold Oper.wp
  rcases hv with ⟨v, w', h1, h2⟩ | ⟨w', h1, h2⟩ | ⟨f, args, w', h1, h2⟩
  · rw [h1]; exact h _ _ h2
  · rw [h1]; exact h _ _ h2
  · rw [h1]
    refine Calls.mono h2 fun e w'' ⟨v, he, hr⟩ => ?_
    subst he
    exact h _ _ hr

def ChainM (P : Program) (ops : Array Oper) (S : World → Prop) (mains : List Nat) (T : Act → World → Prop) : List Nat → Act → World → Prop
  | [], a, w => T a w
  | i :: r, a, w => ∃ o, ops[i]? = some o ∧ ((mains.contains i = false ∧ ∃ v, LightM P ops S o v a ∧ ChainM P ops S mains T r (a.put o.dst v) w) ∨
      (mains.contains i = true ∧ MainM P ops o a w (fun v w' => S w' ∧ ChainM P ops S mains T r (a.put o.dst v) w')))

theorem chain_moveL (hsel : ∀ (j : Nat) (o : Oper) cs b, ops[j]? = some o → o.op ≠ .select cs b) {j : Nat} {oj : Oper} (hj : ops[j]? = some oj) (hjm : mains.contains j = false) :
    ∀ (r1 r2 : List Nat) (a : Act) (w : World), (∀ i ∈ r1, mains.contains i = false ∧ ∀ oi, ops[i]? = some oi → oi.apart ops oj = true) → ChainM P ops S mains T (r1 ++ j :: r2) a w →
      ∃ v, LightM P ops S oj v a ∧ ChainM P ops S mains T (r1 ++ r2) (a.put oj.dst v) w
  | [], r2, a, w, _, h => by
    obtain ⟨o, ho, h⟩ := h
    rw [hj] at ho
    injection ho with ho
    subst ho
    rcases h with ⟨_, v, hd, hc⟩ | ⟨h1, _⟩
    · exact ⟨v, hd, hc⟩
    · rw [hjm] at h1; cases h1
  | i :: r1, r2, a, w, hap, h => by
    obtain ⟨oi, hi, h⟩ := h
    obtain ⟨him, hai⟩ := hap i (List.mem_cons.2 (Or.inl rfl))
    rcases h with ⟨_, vi, hdi, hc⟩ | ⟨h1, _⟩
    · obtain ⟨v, hdj, hc'⟩ := chain_moveL hsel hj hjm r1 r2 (a.put oi.dst vi) w (fun k hk => hap k (List.mem_cons.2 (Or.inr hk))) hc
      obtain ⟨h1, h2, h3⟩ := Oper.apart_spec (hai oi hi)
      refine ⟨v, hdj.of_same (execOp_put oj (fun cs b => hsel j oj cs b hj) a oi.dst vi h1).symm (wanted_put oj a oi.dst vi h1).symm, oi, hi, .inl ⟨him, vi,
        hdi.of_same (execOp_put oi (fun cs b => hsel i oi cs b hi) a oj.dst v h3) (wanted_put oi a oj.dst v h3), ?_⟩⟩
      rw [← Act.put_comm a vi v h2]
      exact hc'
    · rw [him] at h1; cases h1

theorem chain_moveM (hsel : ∀ (j : Nat) (o : Oper) cs b, ops[j]? = some o → o.op ≠ .select cs b) {j : Nat} {oj : Oper} (hj : ops[j]? = some oj) (hjm : mains.contains j = true) :
    ∀ (r1 r2 : List Nat) (a : Act) (w : World), (∀ i ∈ r1, mains.contains i = false ∧ ∀ oi, ops[i]? = some oi → oi.apart ops oj = true) → ChainM P ops S mains T (r1 ++ j :: r2) a w →
      MainM P ops oj a w (fun v w' => S w' ∧ ChainM P ops S mains T (r1 ++ r2) (a.put oj.dst v) w')
  | [], r2, a, w, _, h => by
    obtain ⟨o, ho, h⟩ := h
    rw [hj] at ho
    injection ho with ho
    subst ho
    rcases h with ⟨h1, _⟩ | ⟨_, h2⟩
    · rw [hjm] at h1; cases h1
    · exact h2
  | i :: r1, r2, a, w, hap, h => by
    obtain ⟨oi, hi, h⟩ := h
    obtain ⟨him, hai⟩ := hap i (List.mem_cons.2 (Or.inl rfl))
    rcases h with ⟨_, vi, hdi, hc⟩ | ⟨h1, _⟩
    · have hm := chain_moveM hsel hj hjm r1 r2 (a.put oi.dst vi) w (fun k hk => hap k (List.mem_cons.2 (Or.inr hk))) hc
      obtain ⟨h1, h2, h3⟩ := Oper.apart_spec (hai oi hi)
      refine (hm.of_same (execOp_put oj (fun cs b => hsel j oj cs b hj) a oi.dst vi h1).symm (wanted_put oj a oi.dst vi h1).symm).imp fun v w' ⟨hs, hc'⟩ => ⟨hs, oi, hi, .inl ⟨him, vi,
        hdi.of_same (execOp_put oi (fun cs b => hsel i oi cs b hi) a oj.dst v h3) (wanted_put oi a oj.dst v h3), ?_⟩⟩
      rw [← Act.put_comm a vi v h2]
      exact hc'
    · rw [him] at h1; cases h1

/-- j waits for i, itself or through others. -/
inductive Waits (ops : Array Oper) : Nat → Nat → Prop
  | step {j : Nat} {oj : Oper} {e} : ops[j]? = some oj → e ∈ oj.after → Region.binds .any e = true → Waits ops j e.on
  | more {j i : Nat} {oj : Oper} {e} : ops[j]? = some oj → e ∈ oj.after → Region.binds .any e = true → Waits ops e.on i → Waits ops j i

def maskOf (ms : List Nat) (o : Oper) : Nat := o.after.toList.foldl (fun m e => if Region.binds .any e then m ||| 2 ^ e.on ||| ms.getD e.on 0 else m) 0
def masksM : List Oper → List Nat → List Nat
  | [], acc => acc
  | o :: r, acc => masksM r (acc ++ [maskOf acc o])
theorem maskOf_spec {ms : List Nat} {o : Oper} {i : Nat} (h : (maskOf ms o).testBit i = true) : ∃ e ∈ o.after, Region.binds .any e = true ∧ (e.on = i ∨ (ms.getD e.on 0).testBit i = true) := by
  unfold maskOf at h
  have key : ∀ (l : List _) (m : Nat), (l.foldl (fun m e => if Region.binds .any e then m ||| 2 ^ e.on ||| ms.getD e.on 0 else m) m).testBit i = true →
      m.testBit i = true ∨ ∃ e ∈ l, Region.binds .any e = true ∧ (e.on = i ∨ (ms.getD e.on 0).testBit i = true) := by
    intro l
    induction l with
    | nil => intro m h; exact .inl h
    | cons e r ih =>
      intro m h
      rw [List.foldl_cons] at h
      rcases ih _ h with h1 | ⟨e', he', hb, hh⟩
      · by_cases hb : Region.binds .any e = true
        · rw [if_pos hb, Nat.testBit_or, Nat.testBit_or, Nat.testBit_two_pow] at h1
          simp only [Bool.or_eq_true, decide_eq_true_eq] at h1
          rcases h1 with (h1 | h1) | h1
          · exact .inl h1
          · exact .inr ⟨e, List.mem_cons_self, hb, .inl h1⟩
          · exact .inr ⟨e, List.mem_cons_self, hb, .inr h1⟩
        · rw [if_neg hb] at h1
          exact .inl h1
      · exact .inr ⟨e', List.mem_cons_of_mem _ he', hb, hh⟩
  rcases key _ _ h with h1 | ⟨e, he, hb, hh⟩
  · rw [Nat.zero_testBit] at h1; cases h1
  · exact ⟨e, by simpa using he, hb, hh⟩
theorem masksM_spec : ∀ (l : List Oper) (acc : List Nat), ops.toList.drop acc.length = l → (∀ (j m i : Nat), acc[j]? = some m → m.testBit i = true → Waits ops j i) →
    ∀ (j m i : Nat), (masksM l acc)[j]? = some m → m.testBit i = true → Waits ops j i
  | [], acc, _, h, j, m, i, hj, hb => h j m i hj hb
  | o :: r, acc, hd, h, j, m, i, hj, hb => by
    have hlt : acc.length < ops.toList.length := by
      rcases Nat.lt_or_ge acc.length ops.toList.length with h1 | h1
      · exact h1
      · rw [List.drop_eq_nil_of_le h1] at hd; cases hd
    rw [List.drop_eq_getElem_cons hlt] at hd
    injection hd with h1 h2
    have ho : ops[acc.length]? = some o := by
      rw [← Array.getElem?_toList, List.getElem?_eq_getElem hlt, h1]
    refine masksM_spec r (acc ++ [maskOf acc o]) (by rw [List.length_append, List.length_singleton]; exact h2) ?_ j m i hj hb
    intro j m i hj hb
    rcases Nat.lt_trichotomy j acc.length with hl | hl | hl
    · rw [List.getElem?_append_left hl] at hj
      exact h j m i hj hb
    · subst hl
      simp at hj
      subst hj
      obtain ⟨e, he, hbd, hh⟩ := maskOf_spec hb
      rcases hh with rfl | hh
      · exact .step ho he hbd
      · refine .more ho he hbd ?_
        rw [List.getD_eq_getElem?_getD] at hh
        cases hx : acc[e.on]? with
        | none => rw [hx] at hh; simp at hh
        | some mm => rw [hx] at hh; exact h _ _ _ hx hh
    · rw [List.getElem?_append_right (by omega)] at hj
      rw [List.getElem?_eq_none (by simp; omega)] at hj
      cases hj

/-- The closed check of an order. -/
def ordOk (ops : Array Oper) (ms mains : List Nat) : List Nat → List Nat → Bool
  | _, [] => true
  | before, j :: r => (match ops[j]? with
    | some oj => (oj.after.all fun e => !Region.binds .any e || before.contains e.on) && !before.contains j &&
        before.all fun i => (ms.getD j 0).testBit i || (!mains.contains i && match ops[i]? with | some oi => oi.apart ops oj | none => true)
    | none => false) && ordOk ops ms mains (j :: before) r
def ordM (ops : Array Oper) (ord mains : List Nat) : Bool :=
  Region.noSelect ops && ordOk ops (masksM ops.toList []) mains [] ord && decide (ord.length = ops.size)

theorem ordOk_at {ms mains : List Nat} {j : Nat} {l2 : List Nat} : ∀ (l1 before : List Nat), ordOk ops ms mains before (l1 ++ j :: l2) = true → ordOk ops ms mains (l1.reverse ++ before) (j :: l2) = true
  | [], before, h => h
  | i :: l1, before, h => by
    unfold ordOk at h
    rw [List.cons_append] at h
    simp only [Bool.and_eq_true] at h
    have := ordOk_at l1 (i :: before) h.2
    rw [List.reverse_cons, List.append_assoc]
    exact this
theorem ordM_at {ord l1 l2 : List Nat} {j : Nat} (h : ordM ops ord mains = true) (hs : ord = l1 ++ j :: l2) : ∃ oj, ops[j]? = some oj ∧ j ∉ l1 ∧ (∀ e ∈ oj.after, Region.binds .any e = true → e.on ∈ l1) ∧
    ∀ i ∈ l1, Waits ops j i ∨ (mains.contains i = false ∧ ∀ oi, ops[i]? = some oi → oi.apart ops oj = true) := by
  simp only [ordM, Bool.and_eq_true] at h
  have h1 := h.1.2
  rw [hs] at h1
  have h2 := ordOk_at l1 [] h1
  rw [List.append_nil] at h2
  unfold ordOk at h2
  simp only [Bool.and_eq_true] at h2
  have h3 := h2.1
  cases ho : ops[j]? with
  | none => rw [ho] at h3; cases h3
  | some oj =>
    rw [ho] at h3
    simp only [Bool.and_eq_true, Bool.not_eq_true', List.contains_eq_mem, List.mem_reverse, decide_eq_false_iff_not] at h3
    refine ⟨oj, rfl, h3.1.2, fun e he hb => ?_, fun i hi => ?_⟩
    · have := (Array.all_eq_true_iff_forall_mem.1 h3.1.1) e he
      simpa [hb] using this
    · have := List.all_eq_true.1 h3.2 i (List.mem_reverse.2 hi)
      simp only [Bool.or_eq_true, Bool.and_eq_true, Bool.not_eq_true'] at this
      rcases this with h4 | ⟨h4, h5⟩
      · left
        rw [List.getD_eq_getElem?_getD] at h4
        cases hx : (masksM ops.toList [])[j]? with
        | none => rw [hx] at h4; simp at h4
        | some m =>
          rw [hx] at h4
          exact masksM_spec ops.toList [] rfl (fun _ _ _ h _ => by simp at h) j m i hx h4
      · right
        refine ⟨by simpa [List.contains_eq_mem] using h4, fun oi hoi => ?_⟩
        rw [hoi] at h5
        exact h5

theorem Waits.out {D : Nat → Prop} {j i : Nat} (h : Waits ops j i) (hD : ∀ t ot, ¬ D t → ops[t]? = some ot → ∀ e ∈ ot.after, Region.binds .any e = true → ¬ D e.on) (hj : ∀ oj, ops[j]? = some oj → ∀ e ∈ oj.after, Region.binds .any e = true → ¬ D e.on) : ¬ D i := by
  induction h with
  | step ho he hb => exact hj _ ho _ he hb
  | more ho he hb _ ih => exact ih (fun oj' ho' e' he' hb' => hD _ oj' (hj _ ho _ he hb) ho' e' he' hb')

theorem wpAny_chainM {ord : List Nat} (h : ordM ops ord mains = true) (hn : ord.Nodup) (hall : ∀ i, i < ops.size → i ∈ ord) : ∀ (n : Nat) (r : List Nat) (listed : Array Bool) (a : Act) (w : World), r.length = n → r.Sublist ord → listed.size = ops.size →
    (∀ i, i < ops.size → listed[i]? = some (decide (i ∉ r))) → (∀ t ot, t ∉ r → ops[t]? = some ot → ∀ e ∈ ot.after, Region.binds .any e = true → e.on ∉ r) → S w →
    ChainM P ops S mains (fun a w => Q .normal a w) r a w → wpAny P .any ops Q n listed a w
  | 0, r, listed, a, w, hr, _, hs, hl, _, hS, hc => by
    obtain rfl := List.length_eq_zero_iff.1 hr
    refine ⟨List.eq_nil_iff_forall_not_mem.2 fun j hj => ?_, hc⟩
    obtain ⟨h1, o, ho, _⟩ := mem_ready.1 hj
    have hlt : j < ops.size := (Array.getElem?_eq_some_iff.1 ho).1
    rw [Array.getD_eq_getD_getElem?, hl j hlt] at h1
    simp at h1
  | n + 1, r, listed, a, w, hr, hsub, hs, hl, hcl, hS, hc => by
    have hsel : ∀ (j : Nat) (o : Oper) cs b, ops[j]? = some o → o.op ≠ .select cs b := by
      simp only [ordM, Bool.and_eq_true] at h
      exact Region.noSelect_spec h.1.1
    have hrn : r.Nodup := hsub.nodup hn
    -- the place of an operation in the order, and what is before it
    have place : ∀ {j : Nat} {r1 r2 : List Nat}, r = r1 ++ j :: r2 → ∃ l1 l2, ord = l1 ++ j :: l2 ∧ (∀ i ∈ r1, i ∈ l1) ∧ (∀ i ∈ r2, i ∉ l1) := by
      intro j r1 r2 he
      have hsub' : (r1 ++ j :: r2).Sublist ord := he ▸ hsub
      obtain ⟨s1, s2, hes, hs1, hs2⟩ := List.append_sublist_iff.1 hsub'
      obtain ⟨t1, t2, het, hjt, hs3⟩ := List.cons_sublist_iff.1 hs2
      obtain ⟨u1, u2, hu⟩ := List.append_of_mem hjt
      refine ⟨s1 ++ u1, u2 ++ t2, by rw [hes, het, hu]; simp, fun i hi => List.mem_append_left _ (hs1.subset hi), fun i hi hmem => ?_⟩
      have hn' := hn
      rw [hes, het, hu] at hn'
      have hi2 := hs3.subset hi
      rcases List.mem_append.1 hmem with h1 | h1
      · exact (List.nodup_append.1 hn').2.2 i h1 i (List.mem_append_right _ hi2) rfl
      · have := (List.nodup_append.1 (List.nodup_append.1 hn').2.1).2.2 i (List.mem_append_left _ h1) i hi2
        exact this rfl
    match r, hr, hc with
    | i0 :: r', hr, hc =>
      have hi0 : i0 ∈ Region.ready .any ops listed := by
        obtain ⟨l1, l2, ho, h1, h2⟩ := place (j := i0) (r1 := []) (r2 := r') rfl
        obtain ⟨o0, hok, hnl, hed, _⟩ := ordM_at h ho
        have hlt : i0 < ops.size := (Array.getElem?_eq_some_iff.1 hok).1
        refine mem_ready.2 ⟨?_, o0, hok, fun e he hb => ?_⟩
        · rw [Array.getD_eq_getD_getElem?, hl i0 hlt]; simp
        · have hin := hed e he hb
          have hne : e.on ∉ i0 :: r' := fun hm => by
            rcases List.mem_cons.1 hm with h3 | h3
            · exact hnl (h3 ▸ hin)
            · exact h2 _ h3 hin
          have hel : e.on < ops.size := by
            have : e.on ∈ ord := by rw [ho]; exact List.mem_append_left _ hin
            obtain ⟨k1, k2, hk⟩ := List.append_of_mem this
            obtain ⟨oe, hoe, _⟩ := ordM_at h hk
            exact (Array.getElem?_eq_some_iff.1 hoe).1
          rw [Array.getD_eq_getD_getElem?, hl e.on hel]
          simpa using hne
      refine ⟨(fun h0 => by rw [h0] at hi0; cases hi0), fun j hj => ?_⟩
      obtain ⟨h1, oj, hoj, h2⟩ := mem_ready.1 hj
      have hlt : j < ops.size := (Array.getElem?_eq_some_iff.1 hoj).1
      rw [Array.getD_eq_getD_getElem?, hl j hlt] at h1
      simp only [Option.getD_some, decide_eq_false_iff_not, Classical.not_not] at h1
      obtain ⟨r1, r2, hsplit⟩ := List.append_of_mem h1
      obtain ⟨l1, l2, ho, hin1, hin2⟩ := place hsplit
      obtain ⟨oj', hoj', hjl, hed, hbf⟩ := ordM_at h ho
      rw [hoj] at hoj'
      injection hoj' with hoj'
      subst hoj'
      have hnotr : ∀ e ∈ oj.after, Region.binds .any e = true → e.on ∉ i0 :: r' := fun e he hb hmem => by
        have := h2 e he hb
        have hel : e.on < ops.size := by
          have : e.on ∈ ord := hsub.subset hmem
          obtain ⟨k1, k2, hk⟩ := List.append_of_mem this
          obtain ⟨oe, hoe, _⟩ := ordM_at h hk
          exact (Array.getElem?_eq_some_iff.1 hoe).1
        rw [Array.getD_eq_getD_getElem?, hl e.on hel] at this
        simp only [Option.getD_some, decide_eq_true_eq] at this
        exact this hmem
      have hap : ∀ i ∈ r1, mains.contains i = false ∧ ∀ oi, ops[i]? = some oi → oi.apart ops oj = true := by
        intro i hi
        rcases hbf i (hin1 i hi) with hw | hw
        · exfalso
          refine hw.out (D := fun t => t ∈ i0 :: r') (fun t ot ht hot e he hb => hcl t ot ht hot e he hb) (fun oj' hoj' e he hb => ?_) (by rw [hsplit]; exact List.mem_append_left _ hi)
          rw [hoj] at hoj'
          injection hoj' with hoj'
          subst hoj'
          exact hnotr e he hb
        · exact hw
      have hnd1 : j ∉ r1 := fun hm' => hjl (hin1 j hm')
      have hnd2 : j ∉ r2 := fun hm' => by
        have := hrn
        rw [hsplit] at this
        exact (List.nodup_cons.1 (List.nodup_append.1 this).2.1).1 hm'
      have hsubm : ∀ x, x ∈ r1 ++ r2 ↔ x ∈ i0 :: r' ∧ x ≠ j := by
        intro x
        rw [hsplit, List.mem_append, List.mem_append, List.mem_cons]
        constructor
        · rintro (h2 | h2)
          · exact ⟨Or.inl h2, fun e => hnd1 (e ▸ h2)⟩
          · exact ⟨Or.inr (Or.inr h2), fun e => hnd2 (e ▸ h2)⟩
        · rintro ⟨h2 | h2 | h2, h3⟩
          · exact Or.inl h2
          · exact absurd h2 h3
          · exact Or.inr h2
      have next : ∀ (a' : Act) (w' : World), S w' → ChainM P ops S mains (fun a w => Q .normal a w) (r1 ++ r2) a' w' → wpAny P .any ops Q n (listed.setIfInBounds j true) a' w' := by
        intro a' w' hS' hc'
        refine wpAny_chainM h hn hall n (r1 ++ r2) (listed.setIfInBounds j true) a' w' ?_ ?_ (by simpa using hs) ?_ ?_ hS' hc'
        · have : (i0 :: r').length = (r1 ++ j :: r2).length := by rw [hsplit]
          simp only [List.length_append, List.length_cons] at this hr ⊢
          omega
        · refine List.Sublist.trans ?_ hsub
          rw [hsplit]
          exact List.Sublist.append (List.Sublist.refl _) (List.sublist_cons_self j r2)
        · intro i hi
          rw [Array.getElem?_setIfInBounds]
          split
          · rename_i he
            subst he
            rw [if_pos (by rw [hs]; exact hi)]
            simp [hnd1, hnd2]
          · rename_i hne
            rw [hl i hi]
            congr 1
            simp only [decide_eq_decide]
            rw [hsubm]
            constructor
            · intro a1 a2; exact a1 a2.1
            · intro a1 a2; exact a1 ⟨a2, fun e => hne e.symm⟩
        · intro t ot htr hot e he hb hmem
          rw [hsubm] at hmem
          by_cases htj : t = j
          · subst htj
            rw [hoj] at hot
            injection hot with hot
            subst hot
            exact hnotr e he hb hmem.1
          · exact hcl t ot (fun hx => htr ((hsubm t).2 ⟨hx, htj⟩)) hot e he hb hmem.1
      rw [hsplit] at hc
      cases hjm : mains.contains j with
      | false =>
        obtain ⟨v, hd, hc'⟩ := chain_moveL hsel hoj hjm r1 r2 a w hap hc
        exact hd.wpOp hoj hS (next _ _ hS hc')
      | true =>
        exact (chain_moveM hsel hoj hjm r1 r2 a w hap hc).wpOp hoj (fun v w' ⟨hs', hc'⟩ => next _ _ hs' hc')

def permB (n : Nat) (ord : List Nat) : Bool := (List.range n).all fun i => ord.contains i
/-- The operations of an order, with their numbers. -/
def nthM {α : Type} : List α → Nat → Option α
  | [], _ => none
  | a :: _, 0 => some a
  | _ :: r, n + 1 => nthM r n
theorem nthM_eq {α : Type} : ∀ (l : List α) (n : Nat), nthM l n = l[n]?
  | [], _ => by simp [nthM]
  | a :: r, 0 => by simp [nthM]
  | a :: r, n + 1 => by simp [nthM, nthM_eq r n]
def pickM (l : List Oper) : List Nat → List (Nat × Oper)
  | [] => []
  | i :: r => match nthM l i with
    | some o => (i, o) :: pickM l r
    | none => []
def ChainLM (P : Program) (ops : Array Oper) (S : World → Prop) (mains : List Nat) (T : Act → World → Prop) : List (Nat × Oper) → Act → World → Prop
  | [], a, w => T a w
  | x :: r, a, w => (mains.contains x.1 = false ∧ ∃ v, LightM P ops S x.2 v a ∧ ChainLM P ops S mains T r (a.put x.2.dst v) w) ∨
      (mains.contains x.1 = true ∧ MainM P ops x.2 a w (fun v w' => S w' ∧ ChainLM P ops S mains T r (a.put x.2.dst v) w'))
theorem chain_of_LM : ∀ (ord : List Nat) (a : Act) (w : World), (∀ i ∈ ord, i < ops.size) → ChainLM P ops S mains T (pickM ops.toList ord) a w → ChainM P ops S mains T ord a w
  | [], a, w, _, h => h
  | i :: r, a, w, hi, h => by
    have hlt := hi i List.mem_cons_self
    have ho : ops[i]? = some ops[i] := Array.getElem?_eq_getElem hlt
    have hn : nthM ops.toList i = some ops[i] := by rw [nthM_eq, Array.getElem?_toList]; exact ho
    unfold pickM at h
    rw [hn] at h
    have hr : ∀ k ∈ r, k < ops.size := fun k hk => hi k (List.mem_cons_of_mem _ hk)
    refine ⟨ops[i], ho, ?_⟩
    rcases h with ⟨h1, v, h2, h3⟩ | ⟨h1, h2⟩
    · exact .inl ⟨h1, v, h2, chain_of_LM r _ _ hr h3⟩
    · exact .inr ⟨h1, h2.imp fun v w' ⟨hs, hc⟩ => ⟨hs, chain_of_LM r _ _ hr hc⟩⟩

/-- THE REGION: S holds behind the draw; the operations in the order ord. -/
theorem wp_region_M (ord mains : List Nat) (S : World → Prop) {id : Nat} {a : Act} {w : World} (hm : P.follows .mixedOrders = true) (h : (ordM ops ord mains && permB ops.size ord && decide ord.Nodup) = true) (hS : S w.drew)
    (hc : ChainLM P ops S mains (fun a w => Q .normal a w) (pickM ops.toList ord) a w.drew) : (Code.region id ops true).wp P Q a w := by
  simp only [Bool.and_eq_true, decide_eq_true_eq] at h
  obtain ⟨⟨h1, h2⟩, h3⟩ := h
  have hall : ∀ i, i < ops.size → i ∈ ord := fun i hi => by
    have := List.all_eq_true.1 h2 i (List.mem_range.2 hi)
    simpa [List.contains_eq_mem] using this
  have hlen : ord.length = ops.size := by
    simp only [ordM, Bool.and_eq_true, decide_eq_true_eq] at h1
    exact h1.2
  have hin : ∀ i ∈ ord, i < ops.size := fun i hi => by
    obtain ⟨k1, k2, hk⟩ := List.append_of_mem hi
    obtain ⟨oe, hoe, _⟩ := ordM_at h1 hk
    exact (Array.getElem?_eq_some_iff.1 hoe).1
  refine wp_region_any hm ?_
  have := wpAny_chainM (P := P) (Q := Q) (S := S) (w := w.drew) h1 h3 hall ops.size ord (Array.replicate ops.size false) a hlen (List.Sublist.refl _) (by simp) (fun i hi => ?_) (fun t ot ht hot e he hb hmem => ?_) hS (chain_of_LM ord a _ hin hc)
  · exact this
  · rw [Array.getElem?_replicate, if_pos hi]
    congr 1
    symm
    simpa using hall i hi
  · exact ht (hall t (Array.getElem?_eq_some_iff.1 hot).1)

theorem M_nil {a : Act} {w : World} (h : T a w) : ChainLM P ops S mains T [] a w := h
theorem M_pure {r : List (Nat × Oper)} {i : Nat} {a : Act} {w : World} {o : Oper} (hn : mains.contains i = false) (hw : Region.wanted o (yielded ops a.tmps) = true)
    (h : ∃ v, (∀ w, S w → (execOp a.eval o).run P w = .ok (.value v) w) ∧ ChainLM P ops S mains T r (a.put o.dst v) w) : ChainLM P ops S mains T ((i, o) :: r) a w :=
  let ⟨v, h1, h2⟩ := h
  .inl ⟨hn, v, .inl ⟨hw, h1⟩, h2⟩
theorem M_off {r : List (Nat × Oper)} {i : Nat} {a : Act} {w : World} {o : Oper} (hn : mains.contains i = false) (hw : Region.wanted o (yielded ops a.tmps) = false)
    (h : ChainLM P ops S mains T r (a.put o.dst undef) w) : ChainLM P ops S mains T ((i, o) :: r) a w :=
  .inl ⟨hn, undef, .inr ⟨hw, rfl⟩, h⟩
theorem M_call {r : List (Nat × Oper)} {i : Nat} {a : Act} {w : World} {o : Oper} (hn : mains.contains i = true) (hw : Region.wanted o (yielded ops a.tmps) = true)
    (h : ∃ f args, (execOp a.eval o).run P w = .ok (.enter f args) w ∧ Calls P f args w (fun e w' => ∃ v, e = .returned v ∧ S w' ∧ ChainLM P ops S mains T r (a.put o.dst v) w')) : ChainLM P ops S mains T ((i, o) :: r) a w :=
  let ⟨f, args, h1, h2⟩ := h
  .inr ⟨hn, hw, .inr (.inr ⟨f, args, w, h1, h2⟩)⟩
theorem M_do {r : List (Nat × Oper)} {i : Nat} {a : Act} {w : World} {o : Oper} (hn : mains.contains i = true) (hw : Region.wanted o (yielded ops a.tmps) = true)
    (h : ∃ v w', (execOp a.eval o).run P w = .ok (.value v) w' ∧ S w' ∧ ChainLM P ops S mains T r (a.put o.dst v) w') : ChainLM P ops S mains T ((i, o) :: r) a w :=
  let ⟨v, w', h1, h2⟩ := h
  .inr ⟨hn, hw, .inl ⟨v, w', h1, h2⟩⟩
theorem M_store {r : List (Nat × Oper)} {i : Nat} {a : Act} {w : World} {o : Oper} (hn : mains.contains i = true) (hw : Region.wanted o (yielded ops a.tmps) = true)
    (h : ∃ w', (execOp a.eval o).run P w = .ok .skip w' ∧ S w' ∧ ChainLM P ops S mains T r (a.put o.dst undef) w') : ChainLM P ops S mains T ((i, o) :: r) a w :=
  let ⟨w', h1, h2⟩ := h
  .inr ⟨hn, hw, .inr (.inl ⟨w', h1, h2⟩)⟩
theorem M_append {r : List (Nat × Oper)} {i : Nat} {a : Act} {w : World} {o : Oper} (hn : mains.contains i = true) (hw : Region.wanted o (yielded ops a.tmps) = true) (s x : Operand) (t : TypeId)
    (ho : o.op = .call { callee := .builtin .append, args := #[s, x], argTypes := #[t, t] })
    (base : Nat) (e : TypeId) (ti : TypeInfo) (z : Value) (size bytes : Nat) (ht : P.underlying t = some (.slice e)) (hi : P.info? e = some ti) (hz : ti.zero = some z)
    (hsize : ti.size = size) (hby : ti.bytes = bytes) (hzs : z.cells.size = size) (hsz : 0 < size)
    (v : Value) (n : Nat) (xs : List Value) (hs : a.eval s = v) (hown : w.ownsRow base e size v n xs)
    (ad : Addr) (m c : Nat) (news : List Value) (hx : a.eval x = .slice (some ad) m c) (hl : news.length = m * size) (hnews : ∀ j u, news[j]? = some u → w.cell? (ad.add j) = some u) (h1 : ∀ u ∈ news, u.oneCell' = true)
    (h63 : n + m ≤ maxLen) (hbytes : (n + m) * bytes ≤ 140737488355328) (hbase : base ≤ w.heap.size)
    (h : ∀ v' w', w'.ownsRow base e size v' (n + m) (xs ++ news) → w.grownBy w' v.ownBlock → (v'.ownBlock = v.ownBlock ∨ v'.ownBlock = some w.heap.size) → S w' ∧ ChainLM P ops S mains T r (a.put o.dst v') w') :
    ChainLM P ops S mains T ((i, o) :: r) a w := by
  obtain ⟨v', w', hr, h2, h3, _, h5⟩ := run_append_own_at (P := P) w base t o.type e ti z size bytes ht hi hz hsize hby hzs hsz v n xs hown ad m c news hl hnews h1 h63 hbytes hbase
  refine M_do hn hw ⟨v', w', ?_, h v' w' h2 h3 h5⟩
  unfold execOp
  simp only [ho, resolve, invoke, builtin, Sem.run_bind, Sem.run_pure, Result.andThen_ok, List.map_toArray, List.map_cons, List.map_nil, hs, hx, hr]
end

end Go.Proofs.Ytmkbojhnbkdalaa
