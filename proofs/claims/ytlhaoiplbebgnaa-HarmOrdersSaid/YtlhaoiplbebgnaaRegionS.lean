/- A region that draws its order, as in XRegionM, where the other operations may also be calls, each of which returns one value in every world that meets S and keeps S: these need no line; so each main operation is walked from whatever world that meets S. -/
import Derived.Test.YtlhaoiplbebgnaaRegionM
set_option linter.unusedSimpArgs false
set_option linter.unusedVariables false
namespace Go.Proofs.Ytlhaoiplbebgnaa
open Go.RowKit

section
variable {P : Program} {ops : Array Oper} {Q : Exit → Act → World → Prop} {S : List Value → World → Prop} {mains : List Nat} {T : List Value → Act → Prop}

/-- What operation o comes to: v, in every world that meets S, whatever the main operations before it have returned. -/
def DoesH (P : Program) (ops : Array Oper) (S : List Value → World → Prop) (o : Oper) (v : Value) (a : Act) : Prop :=
  (Region.wanted o (yielded ops a.tmps) = true ∧ ∀ h w, S h w → (execOp a.eval o).run P w = .ok (.value v) w ∨
    ∃ f args, (execOp a.eval o).run P w = .ok (.enter f args) w ∧ Calls P f args w (fun e w' => e = .returned v ∧ S h w')) ∨
  (Region.wanted o (yielded ops a.tmps) = false ∧ v = undef)
theorem DoesH.of_same {o : Oper} {v : Value} {a a' : Act} (h : DoesH P ops S o v a) (he : execOp a'.eval o = execOp a.eval o)
    (hw : Region.wanted o (yielded ops a'.tmps) = Region.wanted o (yielded ops a.tmps)) : DoesH P ops S o v a' := by
  unfold DoesH at *
  rw [he, hw]
  exact h
theorem DoesH.wpOp {i : Nat} {o : Oper} {v : Value} {a : Act} (hi : ops[i]? = some o) (hy : DoesH P ops S o v a) {K : Act → World → Prop} {h : List Value} {w : World} (hS : S h w) (hk : ∀ w', S h w' → K (a.put o.dst v) w') : wpOp P ops Q i K a w := by
  unfold Go.wpOp
  simp only [hi]
  rcases hy with ⟨hw, hv⟩ | ⟨hw, rfl⟩
  · simp only [hw, if_true]
    refine .inl ?_
    unfold Oper.wp
    rcases hv h w hS with h1 | ⟨f, args, h1, h2⟩
    · rw [h1]; exact hk w hS
    · rw [h1]
      refine Calls.mono h2 fun e w' ⟨he, hs⟩ => ?_
      subst he
      exact hk w' hs
  · simp only [hw, Bool.false_eq_true, if_false]; exact hk w hS

def ChainS (P : Program) (ops : Array Oper) (S : List Value → World → Prop) (mains : List Nat) (T : List Value → Act → Prop) : List Value → List Nat → Act → Prop
  | h, [], a => T h a
  | h, i :: r, a => ∃ o, ops[i]? = some o ∧ ((mains.contains i = false ∧ ∃ v, DoesH P ops S o v a ∧ ChainS P ops S mains T h r (a.put o.dst v)) ∨
      (mains.contains i = true ∧ ∀ w, S h w → MainM P ops o a w (fun v w' => S (v :: h) w' ∧ ChainS P ops S mains T (v :: h) r (a.put o.dst v))))

theorem chain_moveSL (hsel : ∀ (j : Nat) (o : Oper) cs b, ops[j]? = some o → o.op ≠ .select cs b) {j : Nat} {oj : Oper} (hj : ops[j]? = some oj) (hjm : mains.contains j = false) {h0 : List Value} :
    ∀ (r1 r2 : List Nat) (a : Act), (∀ i ∈ r1, mains.contains i = false ∧ ∀ oi, ops[i]? = some oi → oi.apart ops oj = true) → ChainS P ops S mains T h0 (r1 ++ j :: r2) a →
      ∃ v, DoesH P ops S oj v a ∧ ChainS P ops S mains T h0 (r1 ++ r2) (a.put oj.dst v)
  | [], r2, a, _, h => by
    obtain ⟨o, ho, h⟩ := h
    rw [hj] at ho
    injection ho with ho
    subst ho
    rcases h with ⟨_, v, hd, hc⟩ | ⟨h1, _⟩
    · exact ⟨v, hd, hc⟩
    · rw [hjm] at h1; cases h1
  | i :: r1, r2, a, hap, h => by
    obtain ⟨oi, hi, h⟩ := h
    obtain ⟨him, hai⟩ := hap i (List.mem_cons.2 (Or.inl rfl))
    rcases h with ⟨_, vi, hdi, hc⟩ | ⟨h1, _⟩
    · obtain ⟨v, hdj, hc'⟩ := chain_moveSL hsel hj hjm r1 r2 (a.put oi.dst vi) (fun k hk => hap k (List.mem_cons.2 (Or.inr hk))) hc
      obtain ⟨h1, h2, h3⟩ := Oper.apart_spec (hai oi hi)
      refine ⟨v, hdj.of_same (execOp_put oj (fun cs b => hsel j oj cs b hj) a oi.dst vi h1).symm (wanted_put oj a oi.dst vi h1).symm, oi, hi, .inl ⟨him, vi,
        hdi.of_same (execOp_put oi (fun cs b => hsel i oi cs b hi) a oj.dst v h3) (wanted_put oi a oj.dst v h3), ?_⟩⟩
      rw [← Act.put_comm a vi v h2]
      exact hc'
    · rw [him] at h1; cases h1

theorem chain_moveSM (hsel : ∀ (j : Nat) (o : Oper) cs b, ops[j]? = some o → o.op ≠ .select cs b) {j : Nat} {oj : Oper} (hj : ops[j]? = some oj) (hjm : mains.contains j = true) {h0 : List Value} :
    ∀ (r1 r2 : List Nat) (a : Act), (∀ i ∈ r1, mains.contains i = false ∧ ∀ oi, ops[i]? = some oi → oi.apart ops oj = true) → ChainS P ops S mains T h0 (r1 ++ j :: r2) a →
      ∀ w, S h0 w → MainM P ops oj a w (fun v w' => S (v :: h0) w' ∧ ChainS P ops S mains T (v :: h0) (r1 ++ r2) (a.put oj.dst v))
  | [], r2, a, _, h => by
    obtain ⟨o, ho, h⟩ := h
    rw [hj] at ho
    injection ho with ho
    subst ho
    rcases h with ⟨h1, _⟩ | ⟨_, h2⟩
    · rw [hjm] at h1; cases h1
    · exact h2
  | i :: r1, r2, a, hap, h => by
    obtain ⟨oi, hi, h⟩ := h
    obtain ⟨him, hai⟩ := hap i (List.mem_cons.2 (Or.inl rfl))
    rcases h with ⟨_, vi, hdi, hc⟩ | ⟨h1, _⟩
    · have hm := chain_moveSM hsel hj hjm r1 r2 (a.put oi.dst vi) (fun k hk => hap k (List.mem_cons.2 (Or.inr hk))) hc
      obtain ⟨h1, h2, h3⟩ := Oper.apart_spec (hai oi hi)
      intro w hS
      refine ((hm w hS).of_same (execOp_put oj (fun cs b => hsel j oj cs b hj) a oi.dst vi h1).symm (wanted_put oj a oi.dst vi h1).symm).imp fun v w' ⟨hs, hc'⟩ => ⟨hs, oi, hi, .inl ⟨him, vi,
        hdi.of_same (execOp_put oi (fun cs b => hsel i oi cs b hi) a oj.dst v h3) (wanted_put oi a oj.dst v h3), ?_⟩⟩
      rw [← Act.put_comm a vi v h2]
      exact hc'
    · rw [him] at h1; cases h1

theorem wpAny_chainS {ord : List Nat} (h : ordM ops ord mains = true) (hn : ord.Nodup) (hall : ∀ i, i < ops.size → i ∈ ord) : ∀ (n : Nat) (r : List Nat) (listed : Array Bool) (a : Act) (w : World) (hh : List Value), r.length = n → r.Sublist ord → listed.size = ops.size →
    (∀ i, i < ops.size → listed[i]? = some (decide (i ∉ r))) → (∀ t ot, t ∉ r → ops[t]? = some ot → ∀ e ∈ ot.after, Region.binds .any e = true → e.on ∉ r) → S hh w →
    ChainS P ops S mains (fun h a => ∀ w, S h w → Q .normal a w) hh r a → wpAny P .any ops Q n listed a w
  | 0, r, listed, a, w, hh, hr, _, hs, hl, _, hS, hc => by
    obtain rfl := List.length_eq_zero_iff.1 hr
    refine ⟨List.eq_nil_iff_forall_not_mem.2 fun j hj => ?_, hc w hS⟩
    obtain ⟨h1, o, ho, _⟩ := mem_ready.1 hj
    have hlt : j < ops.size := (Array.getElem?_eq_some_iff.1 ho).1
    rw [Array.getD_eq_getD_getElem?, hl j hlt] at h1
    simp at h1
  | n + 1, r, listed, a, w, hh, hr, hsub, hs, hl, hcl, hS, hc => by
    have hsel : ∀ (j : Nat) (o : Oper) cs b, ops[j]? = some o → o.op ≠ .select cs b := by
      simp only [ordM, Bool.and_eq_true] at h
      exact Region.noSelect_spec h.1.1
    have hrn : r.Nodup := hsub.nodup hn
    -- the place of an operation in the order, and what is before it
    have place : ∀ {j : Nat} {r1 r2 : List Nat}, r = r1 ++ j :: r2 → ∃ l1 l2, ord = l1 ++ j :: l2 ∧ (∀ i ∈ r1, i ∈ l1) ∧ (∀ i ∈ r2, i ∉ l1) := by
      intro j r1 r2 he
      have hsub' : (r1 ++ j :: r2).Sublist ord := he ▸ hsub
      obtain ⟨s1, s2, hes, hs1, hs2⟩ := List.append_sublist_iff.1 hsub'
      obtain ⟨t1, t2, het, hjt, hs3⟩ := List.cons_sublist_iff.1 hs2
      obtain ⟨u1, u2, hu⟩ := List.append_of_mem hjt
      refine ⟨s1 ++ u1, u2 ++ t2, by rw [hes, het, hu]; simp, fun i hi => List.mem_append_left _ (hs1.subset hi), fun i hi hmem => ?_⟩
      have hn' := hn
      rw [hes, het, hu] at hn'
      have hi2 := hs3.subset hi
      rcases List.mem_append.1 hmem with h1 | h1
      · exact (List.nodup_append.1 hn').2.2 i h1 i (List.mem_append_right _ hi2) rfl
      · have := (List.nodup_append.1 (List.nodup_append.1 hn').2.1).2.2 i (List.mem_append_left _ h1) i hi2
        exact this rfl
    match r, hr, hc with
    | i0 :: r', hr, hc =>
      have hi0 : i0 ∈ Region.ready .any ops listed := by
        obtain ⟨l1, l2, ho, h1, h2⟩ := place (j := i0) (r1 := []) (r2 := r') rfl
        obtain ⟨o0, hok, hnl, hed, _⟩ := ordM_at h ho
        have hlt : i0 < ops.size := (Array.getElem?_eq_some_iff.1 hok).1
        refine mem_ready.2 ⟨?_, o0, hok, fun e he hb => ?_⟩
        · rw [Array.getD_eq_getD_getElem?, hl i0 hlt]; simp
        · have hin := hed e he hb
          have hne : e.on ∉ i0 :: r' := fun hm => by
            rcases List.mem_cons.1 hm with h3 | h3
            · exact hnl (h3 ▸ hin)
            · exact h2 _ h3 hin
          have hel : e.on < ops.size := by
            have : e.on ∈ ord := by rw [ho]; exact List.mem_append_left _ hin
            obtain ⟨k1, k2, hk⟩ := List.append_of_mem this
            obtain ⟨oe, hoe, _⟩ := ordM_at h hk
            exact (Array.getElem?_eq_some_iff.1 hoe).1
          rw [Array.getD_eq_getD_getElem?, hl e.on hel]
          simpa using hne
      refine ⟨(fun h0 => by rw [h0] at hi0; cases hi0), fun j hj => ?_⟩
      obtain ⟨h1, oj, hoj, h2⟩ := mem_ready.1 hj
      have hlt : j < ops.size := (Array.getElem?_eq_some_iff.1 hoj).1
      rw [Array.getD_eq_getD_getElem?, hl j hlt] at h1
      simp only [Option.getD_some, decide_eq_false_iff_not, Classical.not_not] at h1
      obtain ⟨r1, r2, hsplit⟩ := List.append_of_mem h1
      obtain ⟨l1, l2, ho, hin1, hin2⟩ := place hsplit
      obtain ⟨oj', hoj', hjl, hed, hbf⟩ := ordM_at h ho
      rw [hoj] at hoj'
      injection hoj' with hoj'
      subst hoj'
      have hnotr : ∀ e ∈ oj.after, Region.binds .any e = true → e.on ∉ i0 :: r' := fun e he hb hmem => by
        have := h2 e he hb
        have hel : e.on < ops.size := by
          have : e.on ∈ ord := hsub.subset hmem
          obtain ⟨k1, k2, hk⟩ := List.append_of_mem this
          obtain ⟨oe, hoe, _⟩ := ordM_at h hk
          exact (Array.getElem?_eq_some_iff.1 hoe).1
        rw [Array.getD_eq_getD_getElem?, hl e.on hel] at this
        simp only [Option.getD_some, decide_eq_true_eq] at this
        exact this hmem
      have hap : ∀ i ∈ r1, mains.contains i = false ∧ ∀ oi, ops[i]? = some oi → oi.apart ops oj = true := by
        intro i hi
        rcases hbf i (hin1 i hi) with hw | hw
        · exfalso
          refine hw.out (D := fun t => t ∈ i0 :: r') (fun t ot ht hot e he hb => hcl t ot ht hot e he hb) (fun oj' hoj' e he hb => ?_) (by rw [hsplit]; exact List.mem_append_left _ hi)
          rw [hoj] at hoj'
          injection hoj' with hoj'
          subst hoj'
          exact hnotr e he hb
        · exact hw
      have hnd1 : j ∉ r1 := fun hm' => hjl (hin1 j hm')
      have hnd2 : j ∉ r2 := fun hm' => by
        have := hrn
        rw [hsplit] at this
        exact (List.nodup_cons.1 (List.nodup_append.1 this).2.1).1 hm'
      have hsubm : ∀ x, x ∈ r1 ++ r2 ↔ x ∈ i0 :: r' ∧ x ≠ j := by
        intro x
        rw [hsplit, List.mem_append, List.mem_append, List.mem_cons]
        constructor
        · rintro (h2 | h2)
          · exact ⟨Or.inl h2, fun e => hnd1 (e ▸ h2)⟩
          · exact ⟨Or.inr (Or.inr h2), fun e => hnd2 (e ▸ h2)⟩
        · rintro ⟨h2 | h2 | h2, h3⟩
          · exact Or.inl h2
          · exact absurd h2 h3
          · exact Or.inr h2
      have next : ∀ (a' : Act) (w' : World) (h' : List Value), S h' w' → ChainS P ops S mains (fun h a => ∀ w, S h w → Q .normal a w) h' (r1 ++ r2) a' → wpAny P .any ops Q n (listed.setIfInBounds j true) a' w' := by
        intro a' w' h' hS' hc'
        refine wpAny_chainS h hn hall n (r1 ++ r2) (listed.setIfInBounds j true) a' w' h' ?_ ?_ (by simpa using hs) ?_ ?_ hS' hc'
        · have : (i0 :: r').length = (r1 ++ j :: r2).length := by rw [hsplit]
          simp only [List.length_append, List.length_cons] at this hr ⊢
          omega
        · refine List.Sublist.trans ?_ hsub
          rw [hsplit]
          exact List.Sublist.append (List.Sublist.refl _) (List.sublist_cons_self j r2)
        · intro i hi
          rw [Array.getElem?_setIfInBounds]
          split
          · rename_i he
            subst he
            rw [if_pos (by rw [hs]; exact hi)]
            simp [hnd1, hnd2]
          · rename_i hne
            rw [hl i hi]
            congr 1
            simp only [decide_eq_decide]
            rw [hsubm]
            constructor
            · intro a1 a2; exact a1 a2.1
            · intro a1 a2; exact a1 ⟨a2, fun e => hne e.symm⟩
        · intro t ot htr hot e he hb hmem
          rw [hsubm] at hmem
          by_cases htj : t = j
          · subst htj
            rw [hoj] at hot
            injection hot with hot
            subst hot
            exact hnotr e he hb hmem.1
          · exact hcl t ot (fun hx => htr ((hsubm t).2 ⟨hx, htj⟩)) hot e he hb hmem.1
      rw [hsplit] at hc
      cases hjm : mains.contains j with
      | false =>
        obtain ⟨v, hd, hc'⟩ := chain_moveSL hsel hoj hjm r1 r2 a hap hc
        exact hd.wpOp hoj hS (fun w' hS' => next _ w' hh hS' hc')
      | true =>
        exact (chain_moveSM hsel hoj hjm r1 r2 a hap hc w hS).wpOp hoj (fun v w' ⟨hs', hc'⟩ => next _ _ _ hs' hc')

def ChainLS (P : Program) (ops : Array Oper) (S : List Value → World → Prop) (mains : List Nat) (T : List Value → Act → Prop) : List Value → List (Nat × Oper) → Act → Prop
  | h, [], a => T h a
  | h, x :: r, a => (mains.contains x.1 = false ∧ ∃ v, DoesH P ops S x.2 v a ∧ ChainLS P ops S mains T h r (a.put x.2.dst v)) ∨
      (mains.contains x.1 = true ∧ ∀ w, S h w → MainM P ops x.2 a w (fun v w' => S (v :: h) w' ∧ ChainLS P ops S mains T (v :: h) r (a.put x.2.dst v)))
theorem chain_of_LS : ∀ (hh : List Value) (ord : List Nat) (a : Act), (∀ i ∈ ord, i < ops.size) → ChainLS P ops S mains T hh (pickM ops.toList ord) a → ChainS P ops S mains T hh ord a
  | _, [], a, _, h => h
  | hh, i :: r, a, hi, h => by
    have hlt := hi i List.mem_cons_self
    have ho : ops[i]? = some ops[i] := Array.getElem?_eq_getElem hlt
    have hn : nthM ops.toList i = some ops[i] := by rw [nthM_eq, Array.getElem?_toList]; exact ho
    unfold pickM at h
    rw [hn] at h
    have hr : ∀ k ∈ r, k < ops.size := fun k hk => hi k (List.mem_cons_of_mem _ hk)
    refine ⟨ops[i], ho, ?_⟩
    rcases h with ⟨h1, v, h2, h3⟩ | ⟨h1, h2⟩
    · exact .inl ⟨h1, v, h2, chain_of_LS _ r _ hr h3⟩
    · exact .inr ⟨h1, fun w hS => (h2 w hS).imp fun v w' ⟨hs, hc⟩ => ⟨hs, chain_of_LS _ r _ hr hc⟩⟩

/-- THE REGION: S holds behind the draw; the operations in the order ord; then, in whatever world that meets S, what is behind it. -/
theorem wp_region_S (ord mains : List Nat) (S : List Value → World → Prop) {id : Nat} {a : Act} {w : World} (hm : P.follows .mixedOrders = true) (h : (ordM ops ord mains && permB ops.size ord && decide ord.Nodup) = true) (hS : S [] w.drew)
    (hc : ChainLS P ops S mains (fun h a => ∀ w, S h w → Q .normal a w) [] (pickM ops.toList ord) a) : (Code.region id ops true).wp P Q a w := by
  simp only [Bool.and_eq_true, decide_eq_true_eq] at h
  obtain ⟨⟨h1, h2⟩, h3⟩ := h
  have hall : ∀ i, i < ops.size → i ∈ ord := fun i hi => by
    have := List.all_eq_true.1 h2 i (List.mem_range.2 hi)
    simpa [List.contains_eq_mem] using this
  have hlen : ord.length = ops.size := by
    simp only [ordM, Bool.and_eq_true, decide_eq_true_eq] at h1
    exact h1.2
  have hin : ∀ i ∈ ord, i < ops.size := fun i hi => by
    obtain ⟨k1, k2, hk⟩ := List.append_of_mem hi
    obtain ⟨oe, hoe, _⟩ := ordM_at h1 hk
    exact (Array.getElem?_eq_some_iff.1 hoe).1
  refine wp_region_any hm ?_
  have := wpAny_chainS (P := P) (Q := Q) (S := S) h1 h3 hall ops.size ord (Array.replicate ops.size false) a w.drew [] hlen (List.Sublist.refl _) (by simp) (fun i hi => ?_) (fun t ot ht hot e he hb hmem => ?_) hS (chain_of_LS [] ord a hin hc)
  · exact this
  · rw [Array.getElem?_replicate, if_pos hi]
    congr 1
    symm
    simpa using hall i hi
  · exact ht (hall t (Array.getElem?_eq_some_iff.1 hot).1)

theorem S_nil {a : Act} {hh : List Value} (h : T hh a) : ChainLS P ops S mains T hh [] a := h
theorem S_pure {hh : List Value} {r : List (Nat × Oper)} {i : Nat} {a : Act} {o : Oper} (hn : mains.contains i = false) (hw : Region.wanted o (yielded ops a.tmps) = true)
    (h : ∃ v, (∀ hh w, S hh w → (execOp a.eval o).run P w = .ok (.value v) w) ∧ ChainLS P ops S mains T hh r (a.put o.dst v)) : ChainLS P ops S mains T hh ((i, o) :: r) a :=
  let ⟨v, h1, h2⟩ := h
  .inl ⟨hn, v, .inl ⟨hw, fun hh w hS => .inl (h1 hh w hS)⟩, h2⟩
theorem S_off {hh : List Value} {r : List (Nat × Oper)} {i : Nat} {a : Act} {o : Oper} (hn : mains.contains i = false) (hw : Region.wanted o (yielded ops a.tmps) = false)
    (h : ChainLS P ops S mains T hh r (a.put o.dst undef)) : ChainLS P ops S mains T hh ((i, o) :: r) a :=
  .inl ⟨hn, undef, .inr ⟨hw, rfl⟩, h⟩
theorem S_call {hh : List Value} {r : List (Nat × Oper)} {i : Nat} {a : Act} {o : Oper} (hn : mains.contains i = false) (hw : Region.wanted o (yielded ops a.tmps) = true)
    (h : ∃ f args, (∀ hh w, S hh w → (execOp a.eval o).run P w = .ok (.enter f args) w) ∧ ∃ v, (∀ hh w, S hh w → Calls P f args w (fun e w' => e = .returned v ∧ S hh w')) ∧ ChainLS P ops S mains T hh r (a.put o.dst v)) : ChainLS P ops S mains T hh ((i, o) :: r) a :=
  let ⟨f, args, h1, v, h2, h3⟩ := h
  .inl ⟨hn, v, .inl ⟨hw, fun hh w hS => .inr ⟨f, args, h1 hh w hS, h2 hh w hS⟩⟩, h3⟩
theorem S_do {hh : List Value} {r : List (Nat × Oper)} {i : Nat} {a : Act} {o : Oper} (hn : mains.contains i = true) (hw : Region.wanted o (yielded ops a.tmps) = true)
    (h : ∀ w, S hh w → ∃ v w', (execOp a.eval o).run P w = .ok (.value v) w' ∧ S (v :: hh) w' ∧ ChainLS P ops S mains T (v :: hh) r (a.put o.dst v)) : ChainLS P ops S mains T hh ((i, o) :: r) a :=
  .inr ⟨hn, fun w hS => let ⟨v, w', h1, h2⟩ := h w hS; ⟨hw, .inl ⟨v, w', h1, h2⟩⟩⟩
theorem S_store {hh : List Value} {r : List (Nat × Oper)} {i : Nat} {a : Act} {o : Oper} (hn : mains.contains i = true) (hw : Region.wanted o (yielded ops a.tmps) = true)
    (h : ∀ w, S hh w → ∃ w', (execOp a.eval o).run P w = .ok .skip w' ∧ S (undef :: hh) w' ∧ ChainLS P ops S mains T (undef :: hh) r (a.put o.dst undef)) : ChainLS P ops S mains T hh ((i, o) :: r) a :=
  .inr ⟨hn, fun w hS => let ⟨w', h1, h2⟩ := h w hS; ⟨hw, .inr (.inl ⟨w', h1, h2⟩)⟩⟩
end

end Go.Proofs.Ytlhaoiplbebgnaa
