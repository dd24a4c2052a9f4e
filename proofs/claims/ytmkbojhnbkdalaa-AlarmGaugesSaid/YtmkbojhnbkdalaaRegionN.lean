/- A region that draws its order, with two operations between which no order is given: it is walked once for each of the two orders. -/
import Derived.Test.YtmkbojhnbkdalaaRegionM
set_option linter.unusedSimpArgs false
set_option linter.unusedVariables false
namespace Go.Proofs.Ytmkbojhnbkdalaa
open Go.RowKit

section
variable {P : Program} {ops : Array Oper} {Q : Exit → Act → World → Prop}

/-- A list of operations, each of which waits for no one when its turn comes. -/
def ValidN (ops : Array Oper) : Array Bool → List Nat → Prop
  | _, [] => True
  | listed, i :: r => i ∈ Region.ready .any ops listed ∧ ValidN ops (listed.setIfInBounds i true) r
def markN (listed : Array Bool) (L : List Nat) : Array Bool := L.foldl (fun m i => m.setIfInBounds i true) listed
def EndN (ops : Array Oper) (fuel : Nat) (listed : Array Bool) (L : List Nat) : Prop := L.length = fuel ∨ (L.length < fuel ∧ Region.ready .any ops (markN listed L) = [])

theorem valid_lin (ops : Array Oper) : ∀ (fuel t : Nat) (listed : Array Bool), ValidN ops listed (Region.linearise.go .any ops fuel t listed []) ∧ EndN ops fuel listed (Region.linearise.go .any ops fuel t listed [])
  | 0, t, listed => ⟨trivial, .inl rfl⟩
  | fuel + 1, t, listed => by
    have hu : Region.linearise.go .any ops (fuel + 1) t listed [] = (match (Region.ready .any ops listed)[t % (Region.ready .any ops listed).length]? with
      | some i => Region.linearise.go .any ops fuel (t / (Region.ready .any ops listed).length) (listed.setIfInBounds i true) [i]
      | none => [].reverse) := rfl
    rw [hu]
    cases hi : (Region.ready .any ops listed)[t % (Region.ready .any ops listed).length]? with
    | none =>
      have hnil : Region.ready .any ops listed = [] := by
        cases hr : Region.ready .any ops listed with
        | nil => rfl
        | cons x xs =>
          rw [hr] at hi
          have hlt : t % (x :: xs).length < (x :: xs).length := Nat.mod_lt _ (by simp)
          simp at hi
          simp at hlt
          omega
      exact ⟨trivial, .inr ⟨by simp, hnil⟩⟩
    | some i =>
      simp only []
      rw [linearise_go_acc, List.reverse_singleton, List.singleton_append]
      obtain ⟨h1, h2⟩ := valid_lin ops fuel (t / (Region.ready .any ops listed).length) (listed.setIfInBounds i true)
      refine ⟨⟨List.mem_of_getElem? hi, h1⟩, ?_⟩
      rcases h2 with h2 | ⟨h2, h3⟩
      · exact .inl (by rw [List.length_cons, h2])
      · exact .inr ⟨by rw [List.length_cons]; omega, h3⟩

theorem wpAny_list : ∀ (L : List Nat) (fuel : Nat) (listed : Array Bool) (a : Act) (w : World), wpAny P .any ops Q fuel listed a w → ValidN ops listed L → EndN ops fuel listed L → wpOps P ops Q L a w
  | [], fuel, listed, a, w, h, _, he => by
    match fuel, h, he with
    | 0, h, _ => exact h.2
    | n + 1, h, he =>
      rcases he with he | ⟨_, he⟩
      · cases he
      · exact h.1 he
  | i :: r, fuel, listed, a, w, h, hv, he => by
    match fuel, h, he with
    | 0, h, he => rcases he with he | ⟨he, _⟩ <;> simp at he
    | n + 1, h, he =>
      rw [wpOps_cons]
      refine wpOp_mono (fun a w hh => ?_) (h.2 i hv.1)
      refine wpAny_list r n _ a w hh hv.2 ?_
      rcases he with he | ⟨he, h3⟩
      · exact .inl (by simpa using he)
      · exact .inr ⟨by simpa using he, h3⟩

/-- One edge more: j waits for i. -/
def withEdge (i j : Nat) (k : Nat) (o : Oper) : Oper := if k = j then { o with after := o.after.push ⟨i, .phase⟩ } else o
def edgeL (i j : Nat) : List Oper → Nat → List Oper
  | [], _ => []
  | o :: r, k => withEdge i j k o :: edgeL i j r (k + 1)
def edge1 (i j : Nat) (ops : Array Oper) : Array Oper := ⟨edgeL i j ops.toList 0⟩
def edgesN : List (Nat × Nat) → Array Oper → Array Oper
  | [], ops => ops
  | e :: E, ops => edge1 e.1 e.2 (edgesN E ops)
theorem edgeL_get (i j : Nat) : ∀ (l : List Oper) (k n : Nat), (edgeL i j l k)[n]? = (l[n]?).map (withEdge i j (k + n))
  | [], _, _ => by simp [edgeL]
  | o :: r, k, 0 => by simp [edgeL]
  | o :: r, k, n + 1 => by
    simp only [edgeL, List.getElem?_cons_succ]
    rw [edgeL_get i j r (k + 1) n, show k + 1 + n = k + (n + 1) by omega]
theorem edge1_get (i j n : Nat) : (edge1 i j ops)[n]? = (ops[n]?).map (withEdge i j n) := by
  unfold edge1
  rw [← Array.getElem?_toList, edgeL_get, Nat.zero_add, Array.getElem?_toList]
theorem edgeL_length (i j : Nat) : ∀ (l : List Oper) (k : Nat), (edgeL i j l k).length = l.length
  | [], _ => rfl
  | o :: r, k => by simp [edgeL, edgeL_length i j r (k + 1)]
theorem edge1_size (i j : Nat) : (edge1 i j ops).size = ops.size := by
  unfold edge1
  rw [← Array.length_toList, edgeL_length, Array.length_toList]

def bareX (o : Oper) : Oper := { o with after := #[] }
/-- The same operations but for what they wait for. -/
def SameX (ops ops0 : Array Oper) : Prop := ops.size = ops0.size ∧ ∀ k : Nat, (ops[k]?).map bareX = (ops0[k]?).map bareX
theorem SameX.edges (ops0 : Array Oper) : ∀ E : List (Nat × Nat), SameX (edgesN E ops0) ops0
  | [] => ⟨rfl, fun _ => rfl⟩
  | e :: E => by
    obtain ⟨h1, h2⟩ := SameX.edges ops0 E
    refine ⟨by rw [edgesN, edge1_size, h1], fun k => ?_⟩
    rw [← h2 k, edgesN, edge1_get, Option.map_map]
    congr 1
    funext o
    simp only [Function.comp, withEdge]
    split <;> rfl
theorem SameX.at {ops ops0 : Array Oper} (h : SameX ops ops0) {k : Nat} {o : Oper} (ho : ops[k]? = some o) : ∃ o0, ops0[k]? = some o0 ∧ bareX o = bareX o0 := by
  have := h.2 k
  rw [ho] at this
  cases h0 : ops0[k]? with
  | none => rw [h0] at this; cases this
  | some o0 => rw [h0] at this; injection this with this; exact ⟨o0, rfl, this⟩
theorem SameX.symm {ops ops0 : Array Oper} (h : SameX ops ops0) : SameX ops0 ops := ⟨h.1.symm, fun k => (h.2 k).symm⟩
theorem SameX.yielded {ops ops0 : Array Oper} (h : SameX ops ops0) (t : Array Value) : Go.yielded ops t = Go.yielded ops0 t := by
  funext g
  have hb : (ops[g]?).bind (·.dst) = (ops0[g]?).bind (·.dst) := by
    have h2 := h.2 g
    cases h1 : ops[g]? with
    | none =>
      rw [h1] at h2
      cases h0 : ops0[g]? with
      | none => rfl
      | some o0 => rw [h0] at h2; cases h2
    | some o =>
      rw [h1] at h2
      cases h0 : ops0[g]? with
      | none => rw [h0] at h2; cases h2
      | some o0 =>
        rw [h0] at h2
        injection h2 with h2
        have := congrArg Oper.dst h2
        exact this
  unfold Go.yielded
  rw [hb]
theorem same_exec {o o0 : Oper} (h : bareX o = bareX o0) (ρ : Operand → Value) : execOp ρ o = execOp ρ o0 ∧ o.dst = o0.dst ∧ o.guard = o0.guard := by
  cases o
  cases o0
  simp only [bareX, Oper.mk.injEq] at h
  obtain ⟨rfl, rfl, rfl, rfl, _, rfl⟩ := h
  exact ⟨rfl, rfl, rfl⟩
theorem SameX.wanted {ops ops0 : Array Oper} (h : SameX ops ops0) {o o0 : Oper} (ho : bareX o = bareX o0) (t : Array Value) : Region.wanted o (Go.yielded ops t) = Region.wanted o0 (Go.yielded ops0 t) := by
  rw [h.yielded t]
  unfold Region.wanted
  rw [(same_exec ho (fun _ => undef)).2.2]

theorem same_wp {o o0 : Oper} (h : bareX o = bareX o0) (a : Act) (w : World) (K : Act → World → Prop) : (o.wp P a w K Q ∨ (o.asks P a w ∧ LetsOut Q)) = (o0.wp P a w K Q ∨ (o0.asks P a w ∧ LetsOut Q)) := by
  cases o
  cases o0
  simp only [bareX, Oper.mk.injEq] at h
  obtain ⟨rfl, rfl, rfl, rfl, _, rfl⟩ := h
  rfl
theorem SameX.wpOps {ops ops0 : Array Oper} (h : SameX ops ops0) : ∀ (L : List Nat) (a : Act) (w : World), wpOps P ops Q L a w → wpOps P ops0 Q L a w
  | [], a, w, hh => hh
  | i :: r, a, w, hh => by
    have ih := h.wpOps r
    rw [wpOps_cons] at hh ⊢
    have hh := wpOp_mono (K' := Go.wpOps P ops0 Q r) ih hh
    unfold wpOp at *
    cases hi : ops[i]? with
    | none =>
      have h2 := h.2 i
      rw [hi] at h2 hh
      cases h0 : ops0[i]? with
      | none => simpa [h0] using hh
      | some o0 => rw [h0] at h2; cases h2
    | some o =>
      obtain ⟨o0, h0, he⟩ := h.at hi
      simp only [hi] at hh
      simp only [h0]
      rw [h.wanted he] at hh
      rw [same_wp he, (same_exec he a.eval).2.1] at hh
      exact hh

theorem LightM.of_x {S : World → Prop} {ops ops0 : Array Oper} (h : SameX ops ops0) {o o0 : Oper} (ho : bareX o = bareX o0) {v : Value} {a : Act} (hl : LightM P ops0 S o0 v a) : LightM P ops S o v a := by
  unfold LightM at *
  rw [h.wanted ho, (same_exec ho a.eval).1]
  exact hl
theorem MainM.of_x {ops ops0 : Array Oper} (h : SameX ops ops0) {o o0 : Oper} (ho : bareX o = bareX o0) {a : Act} {w : World} {R : Value → World → Prop} (hl : MainM P ops0 o0 a w R) : MainM P ops o a w R := by
  unfold MainM at *
  rw [h.wanted ho, (same_exec ho a.eval).1]
  exact hl
theorem ChainM.of_x {S : World → Prop} {mains : List Nat} {T : Act → World → Prop} {ops ops0 : Array Oper} (h : SameX ops ops0) : ∀ (r : List Nat) (a : Act) (w : World), ChainM P ops0 S mains T r a w → ChainM P ops S mains T r a w
  | [], a, w, hh => hh
  | i :: r, a, w, hh => by
    obtain ⟨o0, h0, hh⟩ := hh
    obtain ⟨o, hi, he⟩ := h.symm.at h0
    have he := he.symm
    refine ⟨o, hi, ?_⟩
    have hd := (same_exec he a.eval).2.1
    rcases hh with ⟨h1, v, h2, h3⟩ | ⟨h1, h2⟩
    · exact .inl ⟨h1, v, h2.of_x h he, by rw [hd]; exact ChainM.of_x h r _ _ h3⟩
    · exact .inr ⟨h1, (h2.of_x h he).imp fun v w' ⟨hs, hc⟩ => ⟨hs, by rw [hd]; exact ChainM.of_x h r _ _ hc⟩⟩

/-- What is to be shown of every order that the edges E allow. -/
def GoodN (P : Program) (Q : Exit → Act → World → Prop) (ops : Array Oper) (E : List (Nat × Nat)) (a : Act) (w : World) : Prop :=
  ∀ L, ValidN (edgesN E ops) (Array.replicate ops.size false) L → EndN (edgesN E ops) ops.size (Array.replicate ops.size false) L → wpOps P ops Q L a w

theorem mem_ready_edge {i j k : Nat} {listed : Array Bool} : k ∈ Region.ready .any (edge1 i j ops) listed ↔ k ∈ Region.ready .any ops listed ∧ (k = j → listed.getD i false = true) := by
  rw [mem_ready, mem_ready]
  constructor
  · rintro ⟨h1, o, ho, h2⟩
    rw [edge1_get] at ho
    cases h0 : ops[k]? with
    | none => rw [h0] at ho; cases ho
    | some o0 =>
      rw [h0] at ho
      injection ho with ho
      subst ho
      refine ⟨⟨h1, o0, rfl, fun e he hb => h2 e ?_ hb⟩, fun hk => ?_⟩
      · unfold withEdge
        split
        · exact Array.mem_push.2 (.inl he)
        · exact he
      · subst hk
        refine h2 ⟨i, .phase⟩ ?_ rfl
        unfold withEdge
        rw [if_pos rfl]
        exact Array.mem_push.2 (.inr rfl)
  · rintro ⟨⟨h1, o, ho, h2⟩, h3⟩
    refine ⟨h1, withEdge i j k o, by rw [edge1_get, ho]; rfl, fun e he hb => ?_⟩
    unfold withEdge at he
    split at he
    · rename_i hk
      rcases Array.mem_push.1 he with h4 | h4
      · exact h2 e h4 hb
      · subst h4; exact h3 hk
    · exact h2 e he hb

theorem valid_edge_of {i j : Nat} : ∀ (L : List Nat) (listed : Array Bool), listed.getD i false = true → ValidN ops listed L → ValidN (edge1 i j ops) listed L
  | [], _, _, _ => trivial
  | k :: r, listed, h, hv => ⟨mem_ready_edge.2 ⟨hv.1, fun _ => h⟩, valid_edge_of r _ (getD_set_true h) hv.2⟩
theorem valid_split {i j : Nat} (hij : i ≠ j) : ∀ (L : List Nat) (listed : Array Bool), ValidN ops listed L → ValidN (edge1 i j ops) listed L ∨ ValidN (edge1 j i ops) listed L
  | [], _, _ => .inl trivial
  | k :: r, listed, hv => by
    obtain ⟨h1, h2⟩ := hv
    have hset : ∀ x, x ∈ Region.ready .any ops listed → (listed.setIfInBounds x true).getD x false = true := fun x hx => by
      obtain ⟨hl, _⟩ := mem_ready.1 hx
      have hlt : x < listed.size := by
        rcases Nat.lt_or_ge x listed.size with h' | h'
        · exact h'
        · simp [Array.getElem?_eq_none h'] at hl
      simp [hlt]
    by_cases hki : k = i
    · subst hki
      exact .inl ⟨mem_ready_edge.2 ⟨h1, fun h => absurd h hij⟩, valid_edge_of r _ (hset _ h1) h2⟩
    · by_cases hkj : k = j
      · subst hkj
        exact .inr ⟨mem_ready_edge.2 ⟨h1, fun h => absurd h hki⟩, valid_edge_of r _ (hset _ h1) h2⟩
      · rcases valid_split hij r _ h2 with h3 | h3
        · exact .inl ⟨mem_ready_edge.2 ⟨h1, fun h => absurd h hkj⟩, h3⟩
        · exact .inr ⟨mem_ready_edge.2 ⟨h1, fun h => absurd h hki⟩, h3⟩
theorem end_edge {i j fuel : Nat} {listed : Array Bool} {L : List Nat} (h : EndN ops fuel listed L) : EndN (edge1 i j ops) fuel listed L := by
  rcases h with h | ⟨h1, h2⟩
  · exact .inl h
  · refine .inr ⟨h1, List.eq_nil_iff_forall_not_mem.2 fun k hk => ?_⟩
    have := (mem_ready_edge.1 hk).1
    rw [h2] at this
    cases this

/-- Both orders of two operations. -/
theorem GoodN.split {E : List (Nat × Nat)} {a : Act} {w : World} (i j : Nat) (hij : i ≠ j) (h1 : GoodN P Q ops ((i, j) :: E) a w) (h2 : GoodN P Q ops ((j, i) :: E) a w) : GoodN P Q ops E a w := by
  intro L hv he
  rcases valid_split hij L _ hv with h | h
  · exact h1 L h (end_edge he)
  · exact h2 L h (end_edge he)

theorem GoodN.region {id : Nat} {a : Act} {w : World} (hm : P.follows .mixedOrders = true) (h : GoodN P Q ops [] a w.drew) : (Code.region id ops true).wp P Q a w :=
  wp_region_draw fun t => by
    simp only [Region.schedule, hm, Bool.true_or, if_true]
    obtain ⟨h1, h2⟩ := valid_lin ops ops.size t (Array.replicate ops.size false)
    exact h _ h1 h2

theorem GoodN.chain {E : List (Nat × Nat)} (ord mains : List Nat) (S : World → Prop) {a : Act} {w : World} (h : (ordM (edgesN E ops) ord mains && permB ops.size ord && decide ord.Nodup) = true) (hS : S w)
    (hc : ChainLM P ops S mains (fun a w => Q .normal a w) (pickM ops.toList ord) a w) : GoodN P Q ops E a w := by
  simp only [Bool.and_eq_true, decide_eq_true_eq] at h
  obtain ⟨⟨h1, h2⟩, h3⟩ := h
  have hx := SameX.edges ops E
  have hsz := hx.1
  have hall : ∀ i, i < ops.size → i ∈ ord := fun i hi => by
    have := List.all_eq_true.1 h2 i (List.mem_range.2 hi)
    simpa [List.contains_eq_mem] using this
  have hlen : ord.length = ops.size := by
    simp only [ordM, Bool.and_eq_true, decide_eq_true_eq] at h1
    rw [h1.2, hsz]
  have hin : ∀ i ∈ ord, i < ops.size := fun i hi => by
    obtain ⟨k1, k2, hk⟩ := List.append_of_mem hi
    obtain ⟨oe, hoe, _⟩ := ordM_at h1 hk
    rw [← hsz]
    exact (Array.getElem?_eq_some_iff.1 hoe).1
  have key := wpAny_chainM (P := P) (Q := Q) (S := S) (w := w) h1 h3 (fun i hi => hall i (hsz ▸ hi)) ops.size ord (Array.replicate ops.size false) a hlen (List.Sublist.refl _) (by simp [hsz]) (fun i hi => ?_) (fun t ot ht hot e he hb hmem => ?_) hS
    (ChainM.of_x hx ord a w (chain_of_LM ord a _ hin hc))
  · intro L hv he
    exact hx.wpOps L a w (wpAny_list L ops.size _ a w key hv he)
  · rw [Array.getElem?_replicate, if_pos (hsz ▸ hi)]
    congr 1
    symm
    simpa using hall i (hsz ▸ hi)
  · exact ht (hall t (hsz ▸ (Array.getElem?_eq_some_iff.1 hot).1))
end

end Go.Proofs.Ytmkbojhnbkdalaa
