/- The walks of the reference of layer 44: New, Last, Raise. -/
import Derived.Test.YtlhaoiplbebgnaaWardenR
set_option linter.unusedSimpArgs false
set_option linter.unusedVariables false
namespace Go.Proofs.Ytlhaoiplbebgnaa
open Go.RowKit

/-- The reference's post: its block g, its list of orders (a slice value v of the call's own). -/
structure RefP (w : World) (B0 g : Nat) (wd : Int) (L : List Ro) (v : Value) : Prop where
  cells : Bk w g 72 #[.int .i64 wd, v]
  own : w.ownsRow B0 76 4 v L.length (L.flatMap roC)
theorem RefP.below {w w' : World} {B0 g : Nat} {wd : Int} {L : List Ro} {v : Value} (h : RefP w B0 g wd L v) (hb : Below w.heap.size w w') : RefP w' B0 g wd L v :=
  ⟨h.cells.below hb h.cells.lt, own_below h.own hb⟩
theorem RefP.of_blocks {w w' : World} {B0 g : Nat} {wd : Int} {L : List Ro} {v : Value} (h : RefP w B0 g wd L v) (hb : ∀ j, j < w.heap.size → (j = g ∨ v.ownBlock = some j) → w'.heap[j]? = w.heap[j]?) : RefP w' B0 g wd L v :=
  ⟨(hb g h.cells.lt (.inl rfl)).trans h.cells, own_of_blocks h.own (fun j hj => hb j (h.own.lt j hj).2 (.inr hj))⟩
/-- What a call leaves that writes to the block g and to v's own alone. -/
structure RCh (w w' : World) (g : Nat) (v : Value) : Prop where
  os : w'.os = w.os
  tape : w'.tape = w.tape
  output : w'.output = w.output
  size : w.heap.size ≤ w'.heap.size
  block : ∀ j, j < w.heap.size → j ≠ g → v.ownBlock ≠ some j → w'.heap[j]? = w.heap[j]?
theorem RCh.refl (w : World) (g : Nat) (v : Value) : RCh w w g v := ⟨rfl, rfl, rfl, Nat.le_refl _, fun _ _ _ _ => rfl⟩
theorem RCh.of_below {w w' : World} {g : Nat} {v : Value} (h : Below w.heap.size w w') : RCh w w' g v := ⟨h.os, h.tape, h.output, h.size, fun j hj _ _ => h.block j hj⟩
theorem RCh.to_below {w w' : World} {B0 g : Nat} {wd : Int} {L : List Ro} {v : Value} (h : RCh w w' g v) (hp : RefP w B0 g wd L v) (hg : B0 ≤ g) (hB : B0 ≤ w.heap.size) : Below B0 w w' :=
  ⟨h.os, h.tape, h.output, h.size, fun j hj => h.block j (by omega) (by omega) (fun e => by have := (hp.own.lt j e).1; omega)⟩

set_option maxHeartbeats 400000 in
theorem refNew_in (n : Int) (w : World) (h1 : 1 ≤ n) (h2 : n ≤ 16) :
    Calls Try.prog 21 #[.int .i64 n] w fun e w' => e = .returned (.pointer (some ⟨w.heap.size, 0, none⟩)) ∧ Below w.heap.size w w' ∧ w'.heap.size = w.heap.size + 1 ∧ ∀ B0, RefP w' B0 w.heap.size n [] (.slice none 0 0) := by
  go_enter Try.func21, Try.ntmps21
  go_wp2
  go_ret
  exact ⟨rfl, (Below.refl _ _).alloc (Nat.le_refl _) _, by simp, fun B0 => ⟨Bk.new w _ _, World.ownsRow_nil _ _ _ _⟩⟩
set_option maxHeartbeats 400000 in
theorem refNew_out (n : Int) (w : World) (h : n < 1 ∨ 16 < n) :
    Calls Try.prog 21 #[.int .i64 n] w fun e w' => e = .returned (.pointer none) ∧ w = w' := by
  rcases h with h | h
  all_goals
    (try have h0 : ¬ n < 1 := by omega)
    go_enter Try.func21, Try.ntmps21
    go_wp2
    go_ret
    exact ⟨rfl, rfl⟩

set_option maxRecDepth 100000 in
set_option maxHeartbeats 400000 in
theorem last_any (B0 g : Nat) (wd t : Int) (L : List Ro) (v : Value) (w : World) (hp : RefP w B0 g wd L v) (hL : L.length ≤ 1000) :
    Calls Try.prog 40 #[.pointer (some ⟨g, 0, none⟩), .int .i64 t] w fun e w' => e = .returned (.int .i64 (lastN (lastI L t))) ∧ w = w' := by
  obtain ⟨A, cap, rfl, hsl⟩ := Sl.of_own (sz := 4) (fun _ => rfl) (by decide) hp.own
  have c := hp.cells.cell
  have hI : lastI L t = lastK L t L.length := rfl
  generalize hN : L.length = N at *
  have HI := Lib.hid hI
  have HN := Lib.hid hN
  clear hp hN hI
  go_enter Try.func40, Try.ntmps40
  go_wp2
  go_loop [5] (fun i => ∃ k : Nat, k ≤ N ∧ i = .int .i64 ((k : Int) - 1) ∧ lastI L t = lastK L t k) (fun i => (intOf i + 1).toNat)
  case atStart => exact ⟨N, Nat.le_refl _, rfl, HI.out⟩
  case round =>
    obtain ⟨k, hk, rfl, hl⟩ := hrel
    have HL := Lib.hid hl
    clear hl
    cases k with
    | zero =>
      rw [show ((0 : Nat) : Int) - 1 = -1 by rfl]
      go_wp2
      go_ret
      exact ⟨by rw [HL.out]; rfl, rfl⟩
    | succ k =>
      rw [show ((k + 1 : Nat) : Int) - 1 = (k : Int) by omega]
      obtain ⟨b, o, x, rfl, hbl, hx, hc⟩ := hsl.at_ (k := k) (by omega)
      have e0 := hc w (Below.refl _ _) 0 _ rfl
      simp only [Nat.add_zero] at e0
      have hkN : (k : Int) < (N : Int) := by omega
      have hk0 : (0 : Int) ≤ (k : Int) := by omega
      have hst : lastK L t (k + 1) = if x.town = t then some k else lastK L t k := by
        show (if L[k]?.map (·.town) = some t then some k else lastK L t k) = _
        rw [hx]; simp
      by_cases hxt : x.town = t
      · have hxb : (x.town == t) = true := by simp [hxt]
        rw [if_pos hxt] at hst
        have HS := Lib.hid hst
        clear hst hc hx hxt
        go_wp2
        go_ret
        exact ⟨by rw [HL.out, HS.out]; rfl, rfl⟩
      · have hxb : (x.town == t) = false := by simp [hxt]
        rw [if_neg hxt] at hst
        have HS := Lib.hid hst
        clear hst hc hx hxt
        go_wp2
        go_round
        case rel => exact ⟨k, by omega, rfl, by rw [HL.out, HS.out]⟩
        case measure => simp [intOf]

theorem info_ro : (Try.prog.info? 76).map (fun i => (i.zero, i.size, i.bytes)) = some (some (.agg #[.int .i64 0, .int .i64 0, .int .i64 0, .bool false]), 4, 32) := by kernel_rfl

set_option maxRecDepth 100000 in
set_option maxHeartbeats 400000 in
theorem refRaise_in (B0 g : Nat) (wd town level hour : Int) (L : List Ro) (v : Value) (w : World) (h : raiseOk town level hour) (hL : L.length ≤ 1000) (hB : B0 ≤ w.heap.size) (hp : RefP w B0 g wd L v) :
    Calls Try.prog 23 #[.pointer (some ⟨g, 0, none⟩), .int .i64 town, .int .i64 level, .int .i64 hour] w fun e w' =>
      e = .returned (.int .i64 ((L.length : Int) + 1)) ∧ RCh w w' g v ∧ ∃ v', RefP w' B0 g wd (L ++ [⟨town, level, hour, false⟩]) v' := by
  obtain ⟨i0, ti0, ti1, ti2, ti3⟩ := info_parts info_ro
  obtain ⟨t0, t1, l0, l1, u0, u1⟩ := h
  have c := hp.cells.cell
  have HP := Lib.hid hp
  clear hp
  go_enter Try.func23, Try.ntmps23
  go_wp2_with (at_builtin; go_must (refine wpList_append_own_at _ rfl (.tmp 35) (.tmp 40) _ rfl B0 76 i0 (.agg #[.int .i64 0, .int .i64 0, .int .i64 0, .bool false]) 4 32 Try.underlying70 ti0 ti1 ti2 ti3 rfl (by decide) v L.length (L.flatMap roC) rfl (HP.out.own.alloc _) ⟨_, 0, none⟩ 1 1 (roC ⟨town, level, hour, false⟩) rfl rfl (new_cells _ rfl _ _) (by intro u hu; simp [roC] at hu; rcases hu with rfl | rfl | rfl | rfl <;> rfl) (by unfold maxLen; omega) (by omega) ?c5 ?_))
  case c5 => simp; omega
  intro v2 w2 hown2 hg2 _ hat
  have hne := own_bk_ne HP.out.own HP.out.cells (by decide)
  have hlt := HP.out.cells.lt
  have hk2 : Bk w2 g 72 _ := (HP.out.cells.alloc _).grown hg2 (fun e => hne e.symm)
  have hn2 : v2.ownBlock ≠ some g := own_bk_ne hown2 hk2 (by decide)
  have c2 := hk2.cell
  have f2 := hk2.frozen
  have h3 : Hid (∀ w', w' = w2.setCell ⟨g, 1, none⟩ v2 → RCh w w' g v ∧ RefP w' B0 g wd (L ++ [⟨town, level, hour, false⟩]) v2) := by
    intro w' hw'
    subst hw'
    have hz2 := hg2.size
    simp only [World.size_alloc] at hz2
    refine ⟨⟨hg2.os, hg2.tape, hg2.output, by simp [World.setCell]; omega, fun j hj h1 h2 => ?_⟩, ?_, ?_⟩
    · exact (Below.heap_setCell _ _ _ _ h1).trans ((hg2.block j (by simp; omega) (fun e => h2 e.symm)).trans (Below.heap_alloc w _ j hj))
    · exact hk2.set_ 1 v2
    · refine own_of_blocks (w := w2) ?_ (fun j hj => Below.heap_setCell _ _ _ _ (fun e => hn2 (by rw [hj]; exact congrArg some e)))
      rw [List.length_append, List.flatMap_append]
      simpa using hown2
  have h4 : ∀ i, (w2.setCell ⟨g, 1, none⟩ v2).cell? ⟨g, i, none⟩ = #[.int .i64 wd, v2][i]? := (hk2.set_ 1 v2).cell
  obtain ⟨A', cap', rfl⟩ : ∃ A' cap', v2 = .slice A' (L.length + 1) cap' := by
    rcases hown2.2 with ⟨_, h0⟩ | ⟨_, cap, _, hv, _⟩
    · omega
    · exact ⟨_, _, hv⟩
  clear c hown2 hg2 hat hk2 hn2 hne
  go_wp2_with fail
  generalize hw3 : w2.setCell ⟨g, 1, none⟩ _ = w3 at *
  have HW := Lib.hid hw3
  clear hw3
  go_wp2
  go_ret
  obtain ⟨q1, q2⟩ := h3.out w3 rfl
  exact ⟨ret_int (by simp), q1, _, q2⟩

set_option maxHeartbeats 400000 in
theorem refRaise_out (g : Nat) (town level hour : Int) (w : World) (h : ¬ raiseOk town level hour) :
    Calls Try.prog 23 #[.pointer (some ⟨g, 0, none⟩), .int .i64 town, .int .i64 level, .int .i64 hour] w fun e w' => e = .returned (.int .i64 0) ∧ w = w' := by
  have h' : town < 0 ∨ (0 ≤ town ∧ 40 ≤ town) ∨ (0 ≤ town ∧ town < 40 ∧ level < 0) ∨ (0 ≤ town ∧ town < 40 ∧ 0 ≤ level ∧ 3 < level) ∨ (0 ≤ town ∧ town < 40 ∧ 0 ≤ level ∧ level ≤ 3 ∧ hour < 0) ∨ (0 ≤ town ∧ town < 40 ∧ 0 ≤ level ∧ level ≤ 3 ∧ 0 ≤ hour ∧ 16777216 < hour) := by
    unfold raiseOk at h
    omega
  clear h
  rcases h' with h | ⟨h1, h⟩ | ⟨h1, h2, h⟩ | ⟨h1, h2, h3, h⟩ | ⟨h1, h2, h3, h4, h⟩ | ⟨h1, h2, h3, h4, h5, h⟩
  all_goals
    go_enter Try.func23, Try.ntmps23
    go_wp2
    go_ret
    exact ⟨rfl, rfl⟩

end Go.Proofs.Ytlhaoiplbebgnaa
