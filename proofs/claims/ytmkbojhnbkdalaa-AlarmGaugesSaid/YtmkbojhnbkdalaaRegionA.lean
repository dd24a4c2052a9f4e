/- As XRegion, for a region with operations (numbers ts, each waiting for the one before) that turn the world, an alloc and a store for instance, while all others only read or call: S n holds when n of them have come up. A region that draws its order, walked once, in the order of the text: each operation of its head either yields its value in every world that meets S, or is a call that returns that value and keeps S; what is behind the head is forced. -/
import Derived.Test.YtmkbojhnbkdalaaRegion
import Derived.Orders
import Derived.RegionTactic
import Derived.Deep.RegionHeld
set_option linter.unusedSimpArgs false
set_option linter.unusedVariables false
namespace Go.Proofs.Ytmkbojhnbkdalaa
open Go.RowKit

section
variable {P : Program} {ops : Array Oper} {Q : Exit → Act → World → Prop} {S : Nat → World → Prop} {ts : List Nat}

/-- What operation o comes to: v, in every world that meets S, whether the operation p has come up or not. -/
def DoesB (P : Program) (ops : Array Oper) (S : Nat → World → Prop) (o : Oper) (v : Value) (a : Act) : Prop :=
  (Region.wanted o (yielded ops a.tmps) = true ∧ ∀ β w, S β w → (execOp a.eval o).run P w = .ok (.value v) w ∨
    ∃ f args, (execOp a.eval o).run P w = .ok (.enter f args) w ∧ Calls P f args w (fun e w' => e = .returned v ∧ S β w')) ∨
  (Region.wanted o (yielded ops a.tmps) = false ∧ v = undef)
/-- How many of ts come before number i. -/
def phase (ts : List Nat) (i : Nat) : Nat := (ts.filter fun t => decide (t < i)).length
def DoesP (P : Program) (ops : Array Oper) (S : Nat → World → Prop) (n : Nat) (o : Oper) (v : Value) (a : Act) : Prop :=
  Region.wanted o (yielded ops a.tmps) = true ∧ ∀ w, S n w → ∃ w', ((execOp a.eval o).run P w = .ok (.value v) w' ∨ (execOp a.eval o).run P w = .ok .skip w' ∧ v = undef) ∧ S (n + 1) w'
def DoesI (P : Program) (ops : Array Oper) (S : Nat → World → Prop) (ts : List Nat) (i : Nat) (o : Oper) (v : Value) (a : Act) : Prop :=
  (i ∈ ts → DoesP P ops S (phase ts i) o v a) ∧ (i ∉ ts → DoesB P ops S o v a)

theorem DoesI.of_same {i : Nat} {o : Oper} {v : Value} {a a' : Act} (h : DoesI P ops S ts i o v a) (he : execOp a'.eval o = execOp a.eval o)
    (hw : Region.wanted o (yielded ops a'.tmps) = Region.wanted o (yielded ops a.tmps)) : DoesI P ops S ts i o v a' := by
  unfold DoesI DoesP DoesB at *
  rw [he, hw]
  exact h

theorem DoesI.wpOp {i : Nat} {o : Oper} {v : Value} {a : Act} (hi : ops[i]? = some o) (hy : DoesI P ops S ts i o v a) {K : Act → World → Prop} {w : World} {β : Nat} (hβ : i ∈ ts → β = phase ts i) (hS : S β w)
    (h : ∀ w', S (if i ∈ ts then β + 1 else β) w' → K (a.put o.dst v) w') : wpOp P ops Q i K a w := by
  unfold Go.wpOp
  simp only [hi]
  by_cases hip : i ∈ ts
  · obtain ⟨hw, hv⟩ := hy.1 hip
    rw [if_pos hip] at h
    obtain ⟨w', h1, h2⟩ := hv w (by rw [← hβ hip]; exact hS)
    simp only [hw, if_true]
    refine .inl ?_
    unfold Oper.wp
    rcases h1 with h1 | ⟨h1, rfl⟩
    · rw [h1]
      exact h w' (by rw [hβ hip]; exact h2)
    · rw [h1]
      exact h w' (by rw [hβ hip]; exact h2)
  · rw [if_neg hip] at h
    rcases hy.2 hip with ⟨hw, hv⟩ | ⟨hw, rfl⟩
    · simp only [hw, if_true]
      refine .inl ?_
      unfold Oper.wp
      rcases hv β w hS with h1 | ⟨f, args, h1, h2⟩
      · rw [h1]; exact h w hS
      · rw [h1]
        refine Calls.mono h2 fun e w' ⟨he, hs⟩ => ?_
        subst he
        exact h w' hs
    · simp only [hw, Bool.false_eq_true, if_false]; exact h w hS

/-- The operations r, in this order, from the frame a; then T. -/
def ChainA (P : Program) (ops : Array Oper) (S : Nat → World → Prop) (ts : List Nat) (T : Act → Prop) : List Nat → Act → Prop
  | [], a => T a
  | i :: r, a => ∃ o v, ops[i]? = some o ∧ DoesI P ops S ts i o v a ∧ ChainA P ops S ts T r (a.put o.dst v)

theorem chain_moveA {T : Act → Prop} (hsel : ∀ (j : Nat) (o : Oper) cs b, ops[j]? = some o → o.op ≠ .select cs b) {j : Nat} {oj : Oper} (hj : ops[j]? = some oj) :
    ∀ (r1 r2 : List Nat) (a : Act), (∀ i ∈ r1, ∀ oi, ops[i]? = some oi → oi.apart ops oj = true) → ChainA P ops S ts T (r1 ++ j :: r2) a →
      ∃ v, DoesI P ops S ts j oj v a ∧ ChainA P ops S ts T (r1 ++ r2) (a.put oj.dst v)
  | [], r2, a, _, h => by
    obtain ⟨o, v, ho, hd, hc⟩ := h
    rw [hj] at ho
    injection ho with ho
    subst ho
    exact ⟨v, hd, hc⟩
  | i :: r1, r2, a, hap, h => by
    obtain ⟨oi, vi, hi, hdi, hc⟩ := h
    obtain ⟨v, hdj, hc'⟩ := chain_moveA hsel hj r1 r2 (a.put oi.dst vi) (fun k hk => hap k (List.mem_cons.2 (Or.inr hk))) hc
    obtain ⟨h1, h2, h3⟩ := Oper.apart_spec (hap i (List.mem_cons.2 (Or.inl rfl)) oi hi)
    refine ⟨v, hdj.of_same (execOp_put oj (fun cs b => hsel j oj cs b hj) a oi.dst vi h1).symm (wanted_put oj a oi.dst vi h1).symm, oi, vi, hi,
      hdi.of_same (execOp_put oi (fun cs b => hsel i oi cs b hi) a oj.dst v h3) (wanted_put oi a oj.dst v h3), ?_⟩
    rw [← Act.put_comm a vi v h2]
    exact hc'

/-- The closed check: the first m operations are the head; each edge leads back; two of the head that no edge binds are apart; each behind the head waits for all before it that are behind the head, too; each of the head has one that waits for it, behind it or the first behind the head. -/
def headedA (ops : Array Oper) (m : Nat) : Bool :=
  Region.noSelect ops && decide (m ≤ ops.size) && ((List.range ops.size).all fun j => match ops[j]? with
    | some oj => (oj.after.all fun e => !Region.binds .any e || decide (e.on < j)) &&
        if j < m then (List.range j).all fun i => oj.after.any (fun e => Region.binds .any e && e.on == i) || match ops[i]? with | some oi => oi.apart ops oj | none => true
        else (List.range j).all fun i => decide (i < m) || oj.after.any fun e => Region.binds .any e && e.on == i
    | none => true) && (decide (m = ops.size) || (List.range m).all fun i => (List.range (m + 1)).any fun k => decide (i < k) && match ops[k]? with
      | some ok => ok.after.any fun e => Region.binds .any e && e.on == i
      | none => false)

theorem headedA_at {m j : Nat} {oj : Oper} (h : headedA ops m = true) (hj : ops[j]? = some oj) : (∀ e ∈ oj.after, Region.binds .any e = true → e.on < j) ∧
    (j < m → ∀ i oi, i < j → ops[i]? = some oi → (∀ e ∈ oj.after, Region.binds .any e = true → e.on ≠ i) → oi.apart ops oj = true) ∧
    (m ≤ j → ∀ i, i < j → m ≤ i → ∃ e ∈ oj.after, Region.binds .any e = true ∧ e.on = i) := by
  have hlt : j < ops.size := (Array.getElem?_eq_some_iff.1 hj).1
  simp only [headedA, Bool.and_eq_true] at h
  have hb := List.all_eq_true.1 h.1.2 j (List.mem_range.2 hlt)
  rw [hj] at hb
  simp only [Bool.and_eq_true] at hb
  refine ⟨fun e he hbd => ?_, fun hjm i oi hi hoi hno => ?_, fun hmj i hi hmi => ?_⟩
  · have := (Array.all_eq_true_iff_forall_mem.1 hb.1) e he
    simpa [hbd] using this
  · have h2 := hb.2
    rw [if_pos hjm] at h2
    have := List.all_eq_true.1 h2 i (List.mem_range.2 hi)
    rw [hoi] at this
    simp only [Bool.or_eq_true] at this
    rcases this with h3 | h3
    · obtain ⟨e, he, hb'⟩ := Array.any_eq_true'.1 h3
      simp only [Bool.and_eq_true, beq_iff_eq] at hb'
      exact absurd hb'.2 (hno e he hb'.1)
    · exact h3
  · have h2 := hb.2
    rw [if_neg (by omega)] at h2
    have := List.all_eq_true.1 h2 i (List.mem_range.2 hi)
    simp only [Bool.or_eq_true, decide_eq_true_eq] at this
    rcases this with h3 | h3
    · omega
    · obtain ⟨e, he, hb'⟩ := Array.any_eq_true'.1 h3
      simp only [Bool.and_eq_true, beq_iff_eq] at hb'
      exact ⟨e, he, hb'.1, hb'.2⟩
theorem headedA_size {m : Nat} (h : headedA ops m = true) : m ≤ ops.size := by
  simp only [headedA, Bool.and_eq_true, decide_eq_true_eq] at h
  exact h.1.1.2
theorem headedA_sel {m : Nat} (h : headedA ops m = true) : Region.noSelect ops = true := by
  simp only [headedA, Bool.and_eq_true] at h
  exact h.1.1.1
theorem headedA_waiter {m i : Nat} (h : headedA ops m = true) (hm : m ≠ ops.size) (hi : i < m) : ∃ k ok, i < k ∧ k ≤ m ∧ ops[k]? = some ok ∧ ∃ e ∈ ok.after, Region.binds .any e = true ∧ e.on = i := by
  simp only [headedA, Bool.and_eq_true, Bool.or_eq_true, decide_eq_true_eq] at h
  rcases h.2 with h2 | h2
  · exact absurd h2 hm
  · have h3 := List.all_eq_true.1 h2 i (List.mem_range.2 hi)
    obtain ⟨k, hk, h4⟩ := List.any_eq_true.1 h3
    simp only [Bool.and_eq_true, decide_eq_true_eq] at h4
    cases hok : ops[k]? with
    | none => rw [hok] at h4; exact absurd h4.2 (by simp)
    | some ok =>
      rw [hok] at h4
      obtain ⟨e, he, hb'⟩ := Array.any_eq_true'.1 h4.2
      simp only [Bool.and_eq_true, beq_iff_eq] at hb'
      exact ⟨k, ok, h4.1, by have := List.mem_range.1 hk; omega, hok, e, he, hb'.1, hb'.2⟩

/-- Behind the head: one after the other. -/
theorem wpAny_tailA {m : Nat} (h : headedA ops m = true) : ∀ (fuel : Nat) (k : Nat) (listed : Array Bool) (a : Act) (w : World), upTo ops.size k listed → m ≤ k → k + fuel = ops.size →
    wpList P ops Q (ops.toList.drop k) a w → wpAny P .any ops Q fuel listed a w
  | 0, k, listed, a, w, hl, hm, hk, hw => by
    have hd : ops.toList.drop k = [] := List.drop_eq_nil_of_le (by simp; omega)
    rw [hd] at hw
    refine ⟨List.eq_nil_iff_forall_not_mem.2 fun j hj => ?_, hw⟩
    obtain ⟨h1, o, ho, _⟩ := mem_ready.1 hj
    have hlt : j < ops.size := (Array.getElem?_eq_some_iff.1 ho).1
    have := hl.2 j hlt
    rw [Array.getD_eq_getD_getElem?, this] at h1
    simp at h1; omega
  | fuel + 1, k, listed, a, w, hl, hm, hk, hw => by
    have hkl : k < ops.size := by omega
    have hok : ops[k]? = some ops[k] := Array.getElem?_eq_getElem hkl
    have hkr : k ∈ Region.ready .any ops listed := by
      refine mem_ready.2 ⟨?_, ops[k], hok, fun e he hbd => ?_⟩
      · rw [Array.getD_eq_getD_getElem?, hl.2 k hkl]; simp
      · have := (headedA_at h hok).1 e he hbd
        rw [Array.getD_eq_getD_getElem?, hl.2 e.on (by omega)]; simp; omega
    have honly : ∀ j ∈ Region.ready .any ops listed, j = k := by
      intro j hj
      obtain ⟨h1, o, ho, h2⟩ := mem_ready.1 hj
      have hlt : j < ops.size := (Array.getElem?_eq_some_iff.1 ho).1
      rw [Array.getD_eq_getD_getElem?, hl.2 j hlt] at h1
      simp at h1
      rcases Nat.lt_or_ge k j with h3 | h3
      · obtain ⟨e, he, hb, heq⟩ := (headedA_at h ho).2.2 (by omega) k h3 hm
        have := h2 e he hb
        rw [heq, Array.getD_eq_getD_getElem?, hl.2 k hkl] at this
        simp at this
      · omega
    refine ⟨(fun h0 => by rw [h0] at hkr; cases hkr), fun j hj => ?_⟩
    obtain rfl := honly j hj
    have hd : ops.toList.drop j = ops[j] :: ops.toList.drop (j + 1) := by
      rw [List.drop_eq_getElem_cons (by simpa using hkl)]; simp
    rw [hd] at hw
    have hl' : upTo ops.size (j + 1) (listed.setIfInBounds j true) := by
      refine ⟨by simpa using hl.1, fun i hi => ?_⟩
      rw [Array.getElem?_setIfInBounds]
      split
      · rename_i he
        subst he
        rw [if_pos (by rw [hl.1]; exact hi)]; simp
      · rename_i hne
        rw [hl.2 i hi]
        congr 1
        simp only [decide_eq_decide]
        omega
    have ih := fun a' w' hw' => wpAny_tailA h fuel (j + 1) (listed.setIfInBounds j true) a' w' hl' (by omega) (by omega) hw'
    unfold wpOp
    simp only [hok]
    unfold wpList at hw
    split
    · rename_i hwn
      rw [if_pos hwn] at hw
      rcases hw with hw | hw
      · exact .inl (Oper.wp_mono ih hw)
      · exact .inr hw
    · rename_i hwn
      rw [if_neg hwn] at hw
      exact ih _ _ hw

/-- The closed check: ts are among the first m, rising, and each waits for all of ts before it. -/
def inLine (ops : Array Oper) (m : Nat) (ts : List Nat) : Bool :=
  (ts.all fun t => decide (t < m) && match ops[t]? with | some o => ts.all fun t' => !decide (t' < t) || o.after.any (fun e => Region.binds .any e && e.on == t') | none => false) && decide ts.Nodup
theorem inLine_lt {m t : Nat} (h : inLine ops m ts = true) (ht : t ∈ ts) : t < m := by
  simp only [inLine, Bool.and_eq_true] at h
  have := List.all_eq_true.1 h.1 t ht
  simp only [Bool.and_eq_true, decide_eq_true_eq] at this
  exact this.1
theorem inLine_waits {m t t' : Nat} {o : Oper} (h : inLine ops m ts = true) (ht : t ∈ ts) (ht' : t' ∈ ts) (hlt : t' < t) (ho : ops[t]? = some o) : ∃ e ∈ o.after, Region.binds .any e = true ∧ e.on = t' := by
  simp only [inLine, Bool.and_eq_true] at h
  have := List.all_eq_true.1 h.1 t ht
  rw [ho] at this
  simp only [Bool.and_eq_true] at this
  have h2 := List.all_eq_true.1 this.2 t' ht'
  simp only [Bool.or_eq_true, Bool.not_eq_true', decide_eq_false_iff_not] at h2
  rcases h2 with h2 | h2
  · exact absurd hlt h2
  · obtain ⟨e, he, hb'⟩ := Array.any_eq_true'.1 h2
    simp only [Bool.and_eq_true, beq_iff_eq] at hb'
    exact ⟨e, he, hb'.1, hb'.2⟩
theorem inLine_nodup {m : Nat} (h : inLine ops m ts = true) : ts.Nodup := by
  simp only [inLine, Bool.and_eq_true, decide_eq_true_eq] at h
  exact h.2

theorem filter_len_congr {α : Type} (p q : α → Bool) : ∀ (l : List α), (∀ x ∈ l, p x = q x) → (l.filter p).length = (l.filter q).length := fun l h => by rw [List.filter_congr h]
theorem filter_len_one {j : Nat} (p q : Nat → Bool) : ∀ (l : List Nat), l.Nodup → j ∈ l → p j = false → q j = true → (∀ x, x ≠ j → p x = q x) → (l.filter q).length = (l.filter p).length + 1
  | [], _, hj, _, _, _ => by cases hj
  | x :: r, hn, hj, hp, hq, h => by
    obtain ⟨h1, h2⟩ := List.nodup_cons.1 hn
    by_cases hx : x = j
    · subst hx
      rw [List.filter_cons_of_pos hq, List.filter_cons_of_neg (by simp [hp]), List.length_cons, filter_len_congr q p r (fun y hy => (h y (fun e => h1 (e ▸ hy))).symm)]
    · have hj' : j ∈ r := (List.mem_cons.1 hj).resolve_left (fun e => hx e.symm)
      have ih := filter_len_one p q r h2 hj' hp hq h
      by_cases hqx : q x = true
      · rw [List.filter_cons_of_pos hqx, List.filter_cons_of_pos (by rw [h x hx]; exact hqx), List.length_cons, List.length_cons, ih]
      · rw [List.filter_cons_of_neg hqx, List.filter_cons_of_neg (by rw [h x hx]; exact hqx), ih]

theorem pairwise_le_last : ∀ {l : List Nat}, l.Pairwise (· < ·) → (hne : l ≠ []) → ∀ x ∈ l, x ≤ l.getLast hne
  | [a], _, _, x, hx => by simp at hx; subst hx; simp
  | a :: b :: r, hp, _, x, hx => by
    obtain ⟨h1, h2⟩ := List.pairwise_cons.1 hp
    rw [List.getLast_cons (by simp)]
    rcases List.mem_cons.1 hx with rfl | hx
    · exact Nat.le_of_lt (h1 _ (List.getLast_mem (by simp)))
    · exact pairwise_le_last h2 (by simp) x hx

theorem wpAny_chainA {m : Nat} (h : headedA ops m = true) (hts : inLine ops m ts = true) : ∀ (n : Nat) (r : List Nat) (listed : Array Bool) (a : Act) (w : World), r.length = n → r.Pairwise (· < ·) → listed.size = ops.size →
    (∀ i, i < ops.size → listed[i]? = some (decide (i < m ∧ i ∉ r))) → (∀ i ∈ r, i < m) → (∀ t ot, t < m → t ∉ r → ops[t]? = some ot → ∀ e ∈ ot.after, Region.binds .any e = true → e.on ∉ r) → S (ts.filter fun t => decide (t ∉ r)).length w →
    ChainA P ops S ts (fun a => ∀ w, S ts.length w → wpList P ops Q (ops.toList.drop m) a w) r a → wpAny P .any ops Q (n + (ops.size - m)) listed a w
  | 0, r, listed, a, w, hn, _, hs, hl, _, _, hS, hc => by
    obtain rfl := List.length_eq_zero_iff.1 hn
    have hm : m ≤ ops.size := headedA_size h
    rw [Nat.zero_add]
    refine wpAny_tailA h (ops.size - m) m listed a w ⟨hs, fun i hi => ?_⟩ (Nat.le_refl _) (by omega) (hc w (by rw [show (ts.filter fun t => decide (t ∉ ([] : List Nat))) = ts by rw [List.filter_eq_self]; intro t _; simp] at hS; exact hS))
    rw [hl i hi]; simp
  | n + 1, r, listed, a, w, hn, hp, hs, hl, hr, hcl, hS, hc => by
    have hsel := Region.noSelect_spec (headedA_sel h)
    have hm : m ≤ ops.size := headedA_size h
    match r, hn, hp, hl, hr, hcl, hS, hc with
    | i0 :: r', hn, hp, hl, hr, hcl, hS, hc =>
      have hi0 : i0 < m := hr i0 (List.mem_cons.2 (Or.inl rfl))
      have hmin : ∀ x ∈ r', i0 < x := (List.pairwise_cons.1 hp).1
      have hok0 : ops[i0]? = some (ops[i0]'(by omega)) := Array.getElem?_eq_getElem (by omega)
      have hr0 : i0 ∈ Region.ready .any ops listed := by
        refine mem_ready.2 ⟨?_, _, hok0, fun e he hbd => ?_⟩
        · rw [Array.getD_eq_getD_getElem?, hl i0 (by omega)]; simp
        · have hlt := (headedA_at h hok0).1 e he hbd
          rw [Array.getD_eq_getD_getElem?, hl e.on (by omega)]
          have hne : e.on ∉ i0 :: r' := fun hmem => by
            rcases List.mem_cons.1 hmem with h1 | h1
            · omega
            · have := hmin _ h1; omega
          simp only [Option.getD_some, decide_eq_true_eq]
          exact ⟨by omega, hne⟩
      rw [show n + 1 + (ops.size - m) = (n + (ops.size - m)) + 1 by omega]
      refine ⟨(fun h0 => by rw [h0] at hr0; cases hr0), fun j hj => ?_⟩
      obtain ⟨h1, oj, hoj, h2⟩ := mem_ready.1 hj
      have hlt : j < ops.size := (Array.getElem?_eq_some_iff.1 hoj).1
      rw [Array.getD_eq_getD_getElem?, hl j hlt] at h1
      simp only [Option.getD_some, decide_eq_false_iff_not, not_and, Classical.not_not] at h1
      have hjm : j < m := by
        rcases Nat.lt_or_ge j m with h3 | h3
        · exact h3
        · exfalso
          have hcontra : ∀ i, i ∈ i0 :: r' → (∀ x ∈ i0 :: r', x ≤ i) → False := by
            intro i hi hmax
            have him := hr i hi
            obtain ⟨k, ok, hik, hkm, hok, e, he, hb, heq⟩ := headedA_waiter h (by omega) him
            rcases Nat.lt_or_ge k m with hk | hk
            · exact hcl k ok hk (fun hx => by have := hmax k hx; omega) hok e he hb (heq ▸ hi)
            · have hkm' : k = m := by omega
              subst hkm'
              rcases Nat.lt_or_ge k j with hkj | hkj
              · obtain ⟨e', he', hb', heq'⟩ := (headedA_at h hoj).2.2 h3 k hkj (Nat.le_refl _)
                have := h2 e' he' hb'
                rw [heq', Array.getD_eq_getD_getElem?, hl k (by omega)] at this
                simp at this
              · have hjk : j = k := by omega
                subst hjk
                rw [hoj] at hok
                injection hok with hok
                subst hok
                have := h2 e he hb
                rw [heq, Array.getD_eq_getD_getElem?, hl i (by omega)] at this
                simp only [Option.getD_some, decide_eq_true_eq] at this
                exact this.2 hi
          have hlast := List.getLast_mem (l := i0 :: r') (by simp)
          refine hcontra _ hlast fun x hx => ?_
          exact pairwise_le_last hp (by simp) x hx
      obtain ⟨r1, r2, hsplit⟩ := List.append_of_mem (h1 hjm)
      have hp' : (r1 ++ j :: r2).Pairwise (· < ·) := hsplit ▸ hp
      obtain ⟨hp1, hp2, hp3⟩ := List.pairwise_append.1 hp'
      have hap : ∀ i ∈ r1, ∀ oi, ops[i]? = some oi → oi.apart ops oj = true := by
        intro i hi oi hoi
        refine (headedA_at h hoj).2.1 hjm i oi (hp3 i hi j (List.mem_cons.2 (Or.inl rfl))) hoi fun e he hb heq => ?_
        have := h2 e he hb
        have hil : i < ops.size := (Array.getElem?_eq_some_iff.1 hoi).1
        rw [heq, Array.getD_eq_getD_getElem?, hl i hil] at this
        have hmem : i ∈ i0 :: r' := by rw [hsplit]; exact List.mem_append_left _ hi
        simp only [Option.getD_some, decide_eq_true_eq] at this
        exact this.2 hmem
      rw [hsplit] at hc
      obtain ⟨v, hd, hc'⟩ := chain_moveA hsel hoj r1 r2 a hap hc
      have hnd1 : j ∉ r1 := fun hm' => by have := hp3 j hm' j (List.mem_cons.2 (Or.inl rfl)); omega
      have hnd2 : j ∉ r2 := fun hm' => by have := (List.pairwise_cons.1 hp2).1 j hm'; omega
      have hsub : ∀ x, x ∈ r1 ++ r2 ↔ x ∈ i0 :: r' ∧ x ≠ j := by
        intro x
        rw [hsplit, List.mem_append, List.mem_append, List.mem_cons]
        constructor
        · rintro (h2 | h2)
          · exact ⟨Or.inl h2, fun e => hnd1 (e ▸ h2)⟩
          · exact ⟨Or.inr (Or.inr h2), fun e => hnd2 (e ▸ h2)⟩
        · rintro ⟨h2 | h2 | h2, h3⟩
          · exact Or.inl h2
          · exact absurd h2 h3
          · exact Or.inr h2
      have hnotr : ∀ e ∈ oj.after, Region.binds .any e = true → e.on ∉ i0 :: r' := fun e he hb hmem => by
        have := h2 e he hb
        rw [Array.getD_eq_getD_getElem?, hl e.on (by have := hr _ hmem; omega)] at this
        simp only [Option.getD_some, decide_eq_true_eq] at this
        exact this.2 hmem
      have hph : j ∈ ts → (ts.filter fun t => decide (t ∉ i0 :: r')).length = phase ts j := fun hjt => by
        refine filter_len_congr _ _ ts fun t ht => ?_
        rw [decide_eq_decide]
        constructor
        · intro htr
          rcases Nat.lt_trichotomy t j with h3 | h3 | h3
          · exact h3
          · exact absurd (h3 ▸ h1 hjm) htr
          · have htm := inLine_lt hts ht
            have hot : ops[t]? = some (ops[t]'(by omega)) := Array.getElem?_eq_getElem (by omega)
            obtain ⟨e, he, hb, heq⟩ := inLine_waits hts ht hjt h3 hot
            exact absurd (heq ▸ h1 hjm) (hcl t _ htm htr hot e he hb)
        · intro htj
          obtain ⟨e, he, hb, heq⟩ := inLine_waits hts hjt ht htj hoj
          exact heq ▸ hnotr e he hb
      refine hd.wpOp hoj hph hS fun w' hS' => ?_
      have hS2 : S (ts.filter fun t => decide (t ∉ r1 ++ r2)).length w' := by
        by_cases hjp : j ∈ ts
        · rw [if_pos hjp] at hS'
          rw [filter_len_one (j := j) (fun t => decide (t ∉ i0 :: r')) (fun t => decide (t ∉ r1 ++ r2)) ts (inLine_nodup hts) hjp (by rw [decide_eq_false_iff_not, Classical.not_not]; exact h1 hjm) (by rw [decide_eq_true_eq, hsub]; exact fun hx => hx.2 rfl)
            (fun x hx => by rw [decide_eq_decide, hsub]; exact ⟨fun h2 h3 => h2 h3.1, fun h2 h3 => h2 ⟨h3, hx⟩⟩)]
          exact hS'
        · rw [if_neg hjp] at hS'
          rw [filter_len_congr (fun t => decide (t ∉ r1 ++ r2)) (fun t => decide (t ∉ i0 :: r')) ts (fun x hx => by rw [decide_eq_decide, hsub]; exact ⟨fun h2 h3 => h2 ⟨h3, fun e => hjp (e ▸ hx)⟩, fun h2 h3 => h2 h3.1⟩)]
          exact hS'
      refine wpAny_chainA h hts n (r1 ++ r2) (listed.setIfInBounds j true) _ w' ?_ ?_ (by simpa using hs) ?_ ?_ ?_ hS2 hc'
      · have : (i0 :: r').length = (r1 ++ j :: r2).length := by rw [hsplit]
        simp only [List.length_append, List.length_cons] at this hn ⊢
        omega
      · exact List.pairwise_append.2 ⟨hp1, (List.pairwise_cons.1 hp2).2, fun x hx y hy => hp3 x hx y (List.mem_cons.2 (Or.inr hy))⟩
      · intro i hi
        rw [Array.getElem?_setIfInBounds]
        split
        · rename_i he
          subst he
          rw [if_pos (by rw [hs]; exact hi)]
          simp [hjm, hnd1, hnd2]
        · rename_i hne
          rw [hl i hi, hsplit]
          congr 1
          simp only [decide_eq_decide, List.mem_append, List.mem_cons]
          constructor
          · rintro ⟨a1, a2⟩
            exact ⟨a1, fun hx => a2 (hx.elim Or.inl (fun hx => Or.inr (Or.inr hx)))⟩
          · rintro ⟨a1, a2⟩
            refine ⟨a1, fun hx => ?_⟩
            rcases hx with hx | hx | hx
            · exact a2 (Or.inl hx)
            · exact hne hx.symm
            · exact a2 (Or.inr hx)
      · intro i hi
        refine hr i ?_
        rw [hsplit]
        rcases List.mem_append.1 hi with hx | hx
        · exact List.mem_append_left _ hx
        · exact List.mem_append_right _ (List.mem_cons.2 (Or.inr hx))
      · intro t ot htm htr hot e he hb hmem
        rw [hsub] at hmem
        by_cases htj : t = j
        · subst htj
          rw [hoj] at hot
          injection hot with hot
          subst hot
          exact hnotr e he hb hmem.1
        · exact hcl t ot htm (fun hx => htr ((hsub t).2 ⟨hx, htj⟩)) hot e he hb hmem.1

/-- THE REGION: S holds behind the draw; the head in the order of the text; then, in whatever world that meets S, the rest. -/
theorem wp_region_chainA (m : Nat) (ts : List Nat) (S : Nat → World → Prop) {id : Nat} {a : Act} {w : World} (hm : P.follows .mixedOrders = true) (h : headedA ops m = true) (hts : inLine ops m ts = true) (hS : S 0 w.drew)
    (hc : ChainA P ops S ts (fun a => ∀ w, S ts.length w → wpList P ops Q (ops.toList.drop m) a w) (List.range m) a) : (Code.region id ops true).wp P Q a w := by
  have hms : m ≤ ops.size := headedA_size h
  refine wp_region_any hm ?_
  have := wpAny_chainA (S := S) (ts := ts) (w := w.drew) h hts m (List.range m) (Array.replicate ops.size false) a (by simp) List.pairwise_lt_range (by simp) (fun i hi => ?_) (fun i hi => List.mem_range.1 hi) (fun t ot htm htr _ _ _ _ => absurd (List.mem_range.2 htm) htr) (by rw [show (ts.filter fun t => decide (t ∉ List.range m)) = [] by rw [List.filter_eq_nil_iff]; intro t ht; simpa using inLine_lt hts ht]; exact hS) hc
  · rw [show m + (ops.size - m) = ops.size by omega] at this
    exact this
  · rw [Array.getElem?_replicate, if_pos hi]
    congr 1
    symm
    simp

/-- The same, over the operations themselves. -/
def ChainLA (P : Program) (ops : Array Oper) (S : Nat → World → Prop) (ts : List Nat) (T : Act → Prop) : List Oper → Nat → Act → Prop
  | [], _, a => T a
  | o :: r, i, a => ∃ v, DoesI P ops S ts i o v a ∧ ChainLA P ops S ts T r (i + 1) (a.put o.dst v)
theorem chain_of_LA {T : Act → Prop} : ∀ (n i : Nat) (a : Act), i + n ≤ ops.size → ChainLA P ops S ts T ((ops.toList.drop i).take n) i a → ChainA P ops S ts T (List.range' i n) a
  | 0, _, _, _, h => h
  | n + 1, i, a, hn, h => by
    have hi : i < ops.toList.length := by simpa using (by omega : i < ops.size)
    rw [List.drop_eq_getElem_cons hi, List.take_succ_cons] at h
    obtain ⟨v, h2, h3⟩ := h
    refine ⟨ops.toList[i], v, ?_, h2, chain_of_LA n (i + 1) _ (by omega) h3⟩
    rw [← Array.getElem?_toList]
    exact List.getElem?_eq_getElem hi

/-- What is behind the head: in whatever world that meets S. -/
def BehindA (P : Program) (ops : Array Oper) (Q : Exit → Act → World → Prop) (S : Nat → World → Prop) (ts : List Nat) (m : Nat) (a : Act) : Prop := ∀ w, S ts.length w → wpList P ops Q (ops.toList.drop m) a w

theorem wp_region_headA (m : Nat) (ts : List Nat) (S : Nat → World → Prop) {id : Nat} {a : Act} {w : World} (hm : P.follows .mixedOrders = true) (h : headedA ops m = true) (hts : inLine ops m ts = true) (hS : S 0 w.drew)
    (hc : ChainLA P ops S ts (BehindA P ops Q S ts m) (ops.toList.take m) 0 a) : (Code.region id ops true).wp P Q a w := by
  have hms : m ≤ ops.size := headedA_size h
  exact wp_region_chainA m ts S hm h hts hS (by rw [List.range_eq_range']; exact chain_of_LA m 0 a (by omega) hc)

theorem chain_pureA {T : Act → Prop} {r : List Oper} {i : Nat} {a : Act} {o : Oper} (hne : i ∉ ts) (hw : Region.wanted o (yielded ops a.tmps) = true)
    (h : ∃ v, (∀ β w, S β w → (execOp a.eval o).run P w = .ok (.value v) w) ∧ ChainLA P ops S ts T r (i + 1) (a.put o.dst v)) : ChainLA P ops S ts T (o :: r) i a :=
  let ⟨v, h1, h2⟩ := h
  ⟨v, ⟨fun e => absurd e hne, fun _ => .inl ⟨hw, fun β w hS => .inl (h1 β w hS)⟩⟩, h2⟩
theorem chain_turnA {T : Act → Prop} {r : List Oper} {i : Nat} {a : Act} {o : Oper} (he : i ∈ ts) (hw : Region.wanted o (yielded ops a.tmps) = true)
    (h : ∃ v, (∀ w, S (phase ts i) w → ∃ w', (execOp a.eval o).run P w = .ok (.value v) w' ∧ S (phase ts i + 1) w') ∧ ChainLA P ops S ts T r (i + 1) (a.put o.dst v)) : ChainLA P ops S ts T (o :: r) i a :=
  let ⟨v, h1, h2⟩ := h
  ⟨v, ⟨fun _ => ⟨hw, fun w hS => let ⟨w', h3, h4⟩ := h1 w hS; ⟨w', .inl h3, h4⟩⟩, fun hne => absurd he hne⟩, h2⟩
theorem chain_storeA {T : Act → Prop} {r : List Oper} {i : Nat} {a : Act} {o : Oper} (he : i ∈ ts) (hw : Region.wanted o (yielded ops a.tmps) = true)
    (h1 : ∀ w, S (phase ts i) w → ∃ w', (execOp a.eval o).run P w = .ok .skip w' ∧ S (phase ts i + 1) w') (h2 : ChainLA P ops S ts T r (i + 1) (a.put o.dst undef)) : ChainLA P ops S ts T (o :: r) i a :=
  ⟨undef, ⟨fun _ => ⟨hw, fun w hS => let ⟨w', h3, h4⟩ := h1 w hS; ⟨w', .inr ⟨h3, rfl⟩, h4⟩⟩, fun hne => absurd he hne⟩, h2⟩
theorem chain_offA {T : Act → Prop} {r : List Oper} {i : Nat} {a : Act} {o : Oper} (hne : i ∉ ts) (hw : Region.wanted o (yielded ops a.tmps) = false)
    (hc : ChainLA P ops S ts T r (i + 1) (a.put o.dst undef)) : ChainLA P ops S ts T (o :: r) i a := ⟨undef, ⟨fun e => absurd e hne, fun _ => .inr ⟨hw, rfl⟩⟩, hc⟩
end

end Go.Proofs.Ytmkbojhnbkdalaa
