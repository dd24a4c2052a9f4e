/- A region that draws its order, walked once, in the order of the text: each operation of its head either yields its value in every world that meets S, or is a call that returns that value and keeps S; what is behind the head is forced. -/
import Derived.Test.YtmkbojhnbkdalaaLib
import Derived.Orders
import Derived.RegionTactic
import Derived.Deep.RegionHeld
set_option linter.unusedSimpArgs false
set_option linter.unusedVariables false
namespace Go.Proofs.Ytmkbojhnbkdalaa
open Go.RowKit

section
variable {P : Program} {ops : Array Oper} {Q : Exit → Act → World → Prop} {S : World → Prop}

/-- What operation o comes to: v, in every world that meets S. -/
def Does (P : Program) (ops : Array Oper) (S : World → Prop) (o : Oper) (v : Value) (a : Act) : Prop :=
  (Region.wanted o (yielded ops a.tmps) = true ∧ ∀ w, S w → (execOp a.eval o).run P w = .ok (.value v) w ∨
    ∃ f args, (execOp a.eval o).run P w = .ok (.enter f args) w ∧ Calls P f args w (fun e w' => e = .returned v ∧ S w')) ∨
  (Region.wanted o (yielded ops a.tmps) = false ∧ v = undef)

theorem Does.of_same {o : Oper} {v : Value} {a a' : Act} (h : Does P ops S o v a) (he : execOp a'.eval o = execOp a.eval o)
    (hw : Region.wanted o (yielded ops a'.tmps) = Region.wanted o (yielded ops a.tmps)) : Does P ops S o v a' := by
  unfold Does at *
  rw [he, hw]
  exact h

theorem Does.wpOp {i : Nat} {o : Oper} {v : Value} {a : Act} (hi : ops[i]? = some o) (hy : Does P ops S o v a) {K : Act → World → Prop} {w : World} (hS : S w) (h : ∀ w', S w' → K (a.put o.dst v) w') : wpOp P ops Q i K a w := by
  unfold Go.wpOp
  simp only [hi]
  rcases hy with ⟨hw, hv⟩ | ⟨hw, rfl⟩
  · simp only [hw, if_true]
    refine .inl ?_
    unfold Oper.wp
    rcases hv w hS with h1 | ⟨f, args, h1, h2⟩
    · rw [h1]; exact h w hS
    · rw [h1]
      refine Calls.mono h2 fun e w' ⟨he, hs⟩ => ?_
      subst he
      exact h w' hs
  · simp only [hw, Bool.false_eq_true, if_false]; exact h w hS

/-- The operations r, in this order, from the frame a; then T. -/
def Chain (P : Program) (ops : Array Oper) (S : World → Prop) (T : Act → Prop) : List Nat → Act → Prop
  | [], a => T a
  | i :: r, a => ∃ o v, ops[i]? = some o ∧ Does P ops S o v a ∧ Chain P ops S T r (a.put o.dst v)

theorem chain_move {T : Act → Prop} (hsel : ∀ (j : Nat) (o : Oper) cs b, ops[j]? = some o → o.op ≠ .select cs b) {j : Nat} {oj : Oper} (hj : ops[j]? = some oj) :
    ∀ (r1 r2 : List Nat) (a : Act), (∀ i ∈ r1, ∀ oi, ops[i]? = some oi → oi.apart ops oj = true) → Chain P ops S T (r1 ++ j :: r2) a →
      ∃ v, Does P ops S oj v a ∧ Chain P ops S T (r1 ++ r2) (a.put oj.dst v)
  | [], r2, a, _, h => by
    obtain ⟨o, v, ho, hd, hc⟩ := h
    rw [hj] at ho
    injection ho with ho
    subst ho
    exact ⟨v, hd, hc⟩
  | i :: r1, r2, a, hap, h => by
    obtain ⟨oi, vi, hi, hdi, hc⟩ := h
    obtain ⟨v, hdj, hc'⟩ := chain_move hsel hj r1 r2 (a.put oi.dst vi) (fun k hk => hap k (List.mem_cons.2 (Or.inr hk))) hc
    obtain ⟨h1, h2, h3⟩ := Oper.apart_spec (hap i (List.mem_cons.2 (Or.inl rfl)) oi hi)
    refine ⟨v, hdj.of_same (execOp_put oj (fun cs b => hsel j oj cs b hj) a oi.dst vi h1).symm (wanted_put oj a oi.dst vi h1).symm, oi, vi, hi,
      hdi.of_same (execOp_put oi (fun cs b => hsel i oi cs b hi) a oj.dst v h3) (wanted_put oi a oj.dst v h3), ?_⟩
    rw [← Act.put_comm a vi v h2]
    exact hc'

/-- The closed check: the first m operations are the head; each edge leads back; two of the head that no edge binds are apart; each behind the head waits for all before it. -/
def headed (ops : Array Oper) (m : Nat) : Bool :=
  Region.noSelect ops && decide (m ≤ ops.size) && (List.range ops.size).all fun j => match ops[j]? with
    | some oj => (oj.after.all fun e => !Region.binds .any e || decide (e.on < j)) &&
        if j < m then (List.range j).all fun i => oj.after.any (fun e => Region.binds .any e && e.on == i) || match ops[i]? with | some oi => oi.apart ops oj | none => true
        else (List.range j).all fun i => oj.after.any fun e => Region.binds .any e && e.on == i
    | none => true

theorem headed_at {m j : Nat} {oj : Oper} (h : headed ops m = true) (hj : ops[j]? = some oj) : (∀ e ∈ oj.after, Region.binds .any e = true → e.on < j) ∧
    (j < m → ∀ i oi, i < j → ops[i]? = some oi → (∀ e ∈ oj.after, Region.binds .any e = true → e.on ≠ i) → oi.apart ops oj = true) ∧
    (m ≤ j → ∀ i, i < j → ∃ e ∈ oj.after, Region.binds .any e = true ∧ e.on = i) := by
  have hlt : j < ops.size := (Array.getElem?_eq_some_iff.1 hj).1
  simp only [headed, Bool.and_eq_true] at h
  have hb := List.all_eq_true.1 h.2 j (List.mem_range.2 hlt)
  rw [hj] at hb
  simp only [Bool.and_eq_true] at hb
  refine ⟨fun e he hbd => ?_, fun hjm i oi hi hoi hno => ?_, fun hmj i hi => ?_⟩
  · have := (Array.all_eq_true_iff_forall_mem.1 hb.1) e he
    simpa [hbd] using this
  · have h2 := hb.2
    rw [if_pos hjm] at h2
    have := List.all_eq_true.1 h2 i (List.mem_range.2 hi)
    rw [hoi] at this
    simp only [Bool.or_eq_true] at this
    rcases this with h3 | h3
    · obtain ⟨e, he, hb'⟩ := Array.any_eq_true'.1 h3
      simp only [Bool.and_eq_true, beq_iff_eq] at hb'
      exact absurd hb'.2 (hno e he hb'.1)
    · exact h3
  · have h2 := hb.2
    rw [if_neg (by omega)] at h2
    have := List.all_eq_true.1 h2 i (List.mem_range.2 hi)
    obtain ⟨e, he, hb'⟩ := Array.any_eq_true'.1 this
    simp only [Bool.and_eq_true, beq_iff_eq] at hb'
    exact ⟨e, he, hb'.1, hb'.2⟩

/-- All listed up to k. -/
def upTo (n k : Nat) (listed : Array Bool) : Prop := listed.size = n ∧ ∀ i, i < n → listed[i]? = some (decide (i < k))

/-- Behind the head: one after the other. -/
theorem wpAny_tail {m : Nat} (h : headed ops m = true) : ∀ (fuel : Nat) (k : Nat) (listed : Array Bool) (a : Act) (w : World), upTo ops.size k listed → m ≤ k → k + fuel = ops.size →
    wpList P ops Q (ops.toList.drop k) a w → wpAny P .any ops Q fuel listed a w
  | 0, k, listed, a, w, hl, hm, hk, hw => by
    have hd : ops.toList.drop k = [] := List.drop_eq_nil_of_le (by simp; omega)
    rw [hd] at hw
    refine ⟨List.eq_nil_iff_forall_not_mem.2 fun j hj => ?_, hw⟩
    obtain ⟨h1, o, ho, _⟩ := mem_ready.1 hj
    have hlt : j < ops.size := (Array.getElem?_eq_some_iff.1 ho).1
    have := hl.2 j hlt
    rw [Array.getD_eq_getD_getElem?, this] at h1
    simp at h1; omega
  | fuel + 1, k, listed, a, w, hl, hm, hk, hw => by
    have hkl : k < ops.size := by omega
    have hok : ops[k]? = some ops[k] := Array.getElem?_eq_getElem hkl
    have hkr : k ∈ Region.ready .any ops listed := by
      refine mem_ready.2 ⟨?_, ops[k], hok, fun e he hbd => ?_⟩
      · rw [Array.getD_eq_getD_getElem?, hl.2 k hkl]; simp
      · have := (headed_at h hok).1 e he hbd
        rw [Array.getD_eq_getD_getElem?, hl.2 e.on (by omega)]; simp; omega
    have honly : ∀ j ∈ Region.ready .any ops listed, j = k := by
      intro j hj
      obtain ⟨h1, o, ho, h2⟩ := mem_ready.1 hj
      have hlt : j < ops.size := (Array.getElem?_eq_some_iff.1 ho).1
      rw [Array.getD_eq_getD_getElem?, hl.2 j hlt] at h1
      simp at h1
      rcases Nat.lt_or_ge k j with h3 | h3
      · obtain ⟨e, he, hb, heq⟩ := (headed_at h ho).2.2 (by omega) k h3
        have := h2 e he hb
        rw [heq, Array.getD_eq_getD_getElem?, hl.2 k hkl] at this
        simp at this
      · omega
    refine ⟨(fun h0 => by rw [h0] at hkr; cases hkr), fun j hj => ?_⟩
    obtain rfl := honly j hj
    have hd : ops.toList.drop j = ops[j] :: ops.toList.drop (j + 1) := by
      rw [List.drop_eq_getElem_cons (by simpa using hkl)]; simp
    rw [hd] at hw
    have hl' : upTo ops.size (j + 1) (listed.setIfInBounds j true) := by
      refine ⟨by simpa using hl.1, fun i hi => ?_⟩
      rw [Array.getElem?_setIfInBounds]
      split
      · rename_i he
        subst he
        rw [if_pos (by rw [hl.1]; exact hi)]; simp
      · rename_i hne
        rw [hl.2 i hi]
        congr 1
        simp only [decide_eq_decide]
        omega
    have ih := fun a' w' hw' => wpAny_tail h fuel (j + 1) (listed.setIfInBounds j true) a' w' hl' (by omega) (by omega) hw'
    unfold wpOp
    simp only [hok]
    unfold wpList at hw
    split
    · rename_i hwn
      rw [if_pos hwn] at hw
      rcases hw with hw | hw
      · exact .inl (Oper.wp_mono ih hw)
      · exact .inr hw
    · rename_i hwn
      rw [if_neg hwn] at hw
      exact ih _ _ hw

theorem wpAny_chain {m : Nat} (h : headed ops m = true) : ∀ (n : Nat) (r : List Nat) (listed : Array Bool) (a : Act) (w : World), r.length = n → r.Pairwise (· < ·) → listed.size = ops.size →
    (∀ i, i < ops.size → listed[i]? = some (decide (i < m ∧ i ∉ r))) → (∀ i ∈ r, i < m) → S w →
    Chain P ops S (fun a => ∀ w, S w → wpList P ops Q (ops.toList.drop m) a w) r a → wpAny P .any ops Q (n + (ops.size - m)) listed a w
  | 0, r, listed, a, w, hn, _, hs, hl, _, hS, hc => by
    obtain rfl := List.length_eq_zero_iff.1 hn
    have hm : m ≤ ops.size := by
      simp only [headed, Bool.and_eq_true, decide_eq_true_eq] at h
      exact h.1.2
    rw [Nat.zero_add]
    refine wpAny_tail h (ops.size - m) m listed a w ⟨hs, fun i hi => ?_⟩ (Nat.le_refl _) (by omega) (hc w hS)
    rw [hl i hi]; simp
  | n + 1, r, listed, a, w, hn, hp, hs, hl, hr, hS, hc => by
    have hsel := Region.noSelect_spec (by simp only [headed, Bool.and_eq_true] at h; exact h.1.1 : Region.noSelect ops = true)
    have hm : m ≤ ops.size := by
      simp only [headed, Bool.and_eq_true, decide_eq_true_eq] at h
      exact h.1.2
    match r, hn, hp, hl, hr, hc with
    | i0 :: r', hn, hp, hl, hr, hc =>
      have hi0 : i0 < m := hr i0 (List.mem_cons.2 (Or.inl rfl))
      have hmin : ∀ x ∈ r', i0 < x := (List.pairwise_cons.1 hp).1
      have hok0 : ops[i0]? = some (ops[i0]'(by omega)) := Array.getElem?_eq_getElem (by omega)
      have hr0 : i0 ∈ Region.ready .any ops listed := by
        refine mem_ready.2 ⟨?_, _, hok0, fun e he hbd => ?_⟩
        · rw [Array.getD_eq_getD_getElem?, hl i0 (by omega)]; simp
        · have hlt := (headed_at h hok0).1 e he hbd
          rw [Array.getD_eq_getD_getElem?, hl e.on (by omega)]
          have hne : e.on ∉ i0 :: r' := fun hmem => by
            rcases List.mem_cons.1 hmem with h1 | h1
            · omega
            · have := hmin _ h1; omega
          simp only [Option.getD_some, decide_eq_true_eq]
          exact ⟨by omega, hne⟩
      rw [show n + 1 + (ops.size - m) = (n + (ops.size - m)) + 1 by omega]
      refine ⟨(fun h0 => by rw [h0] at hr0; cases hr0), fun j hj => ?_⟩
      obtain ⟨h1, oj, hoj, h2⟩ := mem_ready.1 hj
      have hlt : j < ops.size := (Array.getElem?_eq_some_iff.1 hoj).1
      rw [Array.getD_eq_getD_getElem?, hl j hlt] at h1
      simp only [Option.getD_some, decide_eq_false_iff_not, not_and, Classical.not_not] at h1
      have hjm : j < m := by
        rcases Nat.lt_or_ge j m with h3 | h3
        · exact h3
        · obtain ⟨e, he, hb, heq⟩ := (headed_at h hoj).2.2 h3 i0 (by omega)
          have := h2 e he hb
          rw [heq, Array.getD_eq_getD_getElem?, hl i0 (by omega)] at this
          simp at this
      obtain ⟨r1, r2, hsplit⟩ := List.append_of_mem (h1 hjm)
      have hp' : (r1 ++ j :: r2).Pairwise (· < ·) := hsplit ▸ hp
      obtain ⟨hp1, hp2, hp3⟩ := List.pairwise_append.1 hp'
      have hap : ∀ i ∈ r1, ∀ oi, ops[i]? = some oi → oi.apart ops oj = true := by
        intro i hi oi hoi
        refine (headed_at h hoj).2.1 hjm i oi (hp3 i hi j (List.mem_cons.2 (Or.inl rfl))) hoi fun e he hb heq => ?_
        have := h2 e he hb
        have hil : i < ops.size := (Array.getElem?_eq_some_iff.1 hoi).1
        rw [heq, Array.getD_eq_getD_getElem?, hl i hil] at this
        have hmem : i ∈ i0 :: r' := by rw [hsplit]; exact List.mem_append_left _ hi
        simp only [Option.getD_some, decide_eq_true_eq] at this
        exact this.2 hmem
      rw [hsplit] at hc
      obtain ⟨v, hd, hc'⟩ := chain_move hsel hoj r1 r2 a hap hc
      refine hd.wpOp hoj hS fun w' hS' => ?_
      refine wpAny_chain h n (r1 ++ r2) (listed.setIfInBounds j true) _ w' ?_ ?_ (by simpa using hs) ?_ ?_ hS' hc'
      · have : (i0 :: r').length = (r1 ++ j :: r2).length := by rw [hsplit]
        simp only [List.length_append, List.length_cons] at this hn ⊢
        omega
      · exact List.pairwise_append.2 ⟨hp1, (List.pairwise_cons.1 hp2).2, fun x hx y hy => hp3 x hx y (List.mem_cons.2 (Or.inr hy))⟩
      · intro i hi
        rw [Array.getElem?_setIfInBounds]
        have hnd1 : j ∉ r1 := fun hm' => by have := hp3 j hm' j (List.mem_cons.2 (Or.inl rfl)); omega
        have hnd2 : j ∉ r2 := fun hm' => by have := (List.pairwise_cons.1 hp2).1 j hm'; omega
        split
        · rename_i he
          subst he
          rw [if_pos (by rw [hs]; exact hi)]
          simp [hjm, hnd1, hnd2]
        · rename_i hne
          rw [hl i hi, hsplit]
          congr 1
          simp only [decide_eq_decide, List.mem_append, List.mem_cons]
          constructor
          · rintro ⟨a1, a2⟩
            exact ⟨a1, fun hx => a2 (hx.elim Or.inl (fun hx => Or.inr (Or.inr hx)))⟩
          · rintro ⟨a1, a2⟩
            refine ⟨a1, fun hx => ?_⟩
            rcases hx with hx | hx | hx
            · exact a2 (Or.inl hx)
            · exact hne hx.symm
            · exact a2 (Or.inr hx)
      · intro i hi
        refine hr i ?_
        rw [hsplit]
        rcases List.mem_append.1 hi with hx | hx
        · exact List.mem_append_left _ hx
        · exact List.mem_append_right _ (List.mem_cons.2 (Or.inr hx))

/-- THE REGION: S holds behind the draw; the head in the order of the text; then, in whatever world that meets S, the rest. -/
theorem wp_region_chain (m : Nat) (S : World → Prop) {id : Nat} {a : Act} {w : World} (hm : P.follows .mixedOrders = true) (h : headed ops m = true) (hS : S w.drew)
    (hc : Chain P ops S (fun a => ∀ w, S w → wpList P ops Q (ops.toList.drop m) a w) (List.range m) a) : (Code.region id ops true).wp P Q a w := by
  have hms : m ≤ ops.size := by
    simp only [headed, Bool.and_eq_true, decide_eq_true_eq] at h
    exact h.1.2
  refine wp_region_any hm ?_
  have := wpAny_chain (S := S) (w := w.drew) h m (List.range m) (Array.replicate ops.size false) a (by simp) List.pairwise_lt_range (by simp) (fun i hi => ?_) (fun i hi => List.mem_range.1 hi) hS hc
  · rw [show m + (ops.size - m) = ops.size by omega] at this
    exact this
  · rw [Array.getElem?_replicate, if_pos hi]
    congr 1
    symm
    simp

/-- The same, over the operations themselves. -/
def ChainL (P : Program) (ops : Array Oper) (S : World → Prop) (T : Act → Prop) : List Oper → Act → Prop
  | [], a => T a
  | o :: r, a => ∃ v, Does P ops S o v a ∧ ChainL P ops S T r (a.put o.dst v)
theorem chain_of_L {T : Act → Prop} : ∀ (n i : Nat) (a : Act), i + n ≤ ops.size → ChainL P ops S T ((ops.toList.drop i).take n) a → Chain P ops S T (List.range' i n) a
  | 0, _, _, _, h => h
  | n + 1, i, a, hn, h => by
    have hi : i < ops.toList.length := by simpa using (by omega : i < ops.size)
    rw [List.drop_eq_getElem_cons hi, List.take_succ_cons] at h
    obtain ⟨v, h2, h3⟩ := h
    refine ⟨ops.toList[i], v, ?_, h2, chain_of_L n (i + 1) _ (by omega) h3⟩
    rw [← Array.getElem?_toList]
    exact List.getElem?_eq_getElem hi

/-- What is behind the head: in whatever world that meets S. -/
def Behind (P : Program) (ops : Array Oper) (Q : Exit → Act → World → Prop) (S : World → Prop) (m : Nat) (a : Act) : Prop := ∀ w, S w → wpList P ops Q (ops.toList.drop m) a w

theorem wp_region_head (m : Nat) (S : World → Prop) {id : Nat} {a : Act} {w : World} (hm : P.follows .mixedOrders = true) (h : headed ops m = true) (hS : S w.drew)
    (hc : ChainL P ops S (Behind P ops Q S m) (ops.toList.take m) a) : (Code.region id ops true).wp P Q a w := by
  have hms : m ≤ ops.size := by
    simp only [headed, Bool.and_eq_true, decide_eq_true_eq] at h
    exact h.1.2
  exact wp_region_chain m S hm h hS (by rw [List.range_eq_range']; exact chain_of_L m 0 a (by omega) hc)

theorem chain_pure {T : Act → Prop} {r : List Oper} {a : Act} {o : Oper} (hw : Region.wanted o (yielded ops a.tmps) = true)
    (h : ∃ v, (∀ w, S w → (execOp a.eval o).run P w = .ok (.value v) w) ∧ ChainL P ops S T r (a.put o.dst v)) : ChainL P ops S T (o :: r) a :=
  let ⟨v, h1, h2⟩ := h
  ⟨v, .inl ⟨hw, fun w hS => .inl (h1 w hS)⟩, h2⟩
theorem chain_call {T : Act → Prop} {r : List Oper} {a : Act} {o : Oper} (hw : Region.wanted o (yielded ops a.tmps) = true)
    (h : ∃ f args, (∀ w, (execOp a.eval o).run P w = .ok (.enter f args) w) ∧ ∃ v, (∀ w, S w → Calls P f args w (fun e w' => e = .returned v ∧ S w')) ∧ ChainL P ops S T r (a.put o.dst v)) : ChainL P ops S T (o :: r) a :=
  let ⟨f, args, h1, v, h2, h3⟩ := h
  ⟨v, .inl ⟨hw, fun w hS => .inr ⟨f, args, h1 w, h2 w hS⟩⟩, h3⟩
theorem chain_off {T : Act → Prop} {r : List Oper} {a : Act} {o : Oper} (hw : Region.wanted o (yielded ops a.tmps) = false)
    (hc : ChainL P ops S T r (a.put o.dst undef)) : ChainL P ops S T (o :: r) a := ⟨undef, .inr ⟨hw, rfl⟩, hc⟩
end

end Go.Proofs.Ytmkbojhnbkdalaa
