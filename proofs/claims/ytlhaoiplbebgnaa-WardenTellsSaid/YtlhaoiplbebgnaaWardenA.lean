/- The walks of package warden. -/
import Derived.Test.YtlhaoiplbebgnaaMap
import Derived.Test.YtlhaoiplbebgnaaRegionA
set_option linter.unusedSimpArgs false
set_option linter.unusedVariables false
namespace Go.Proofs.Ytlhaoiplbebgnaa
open Go.RowKit

structure Od where
  level : Int
  number : Int
  hour : Int
  fin : Bool
def odV (o : Od) : Value := .agg #[.int .i64 o.level, .int .i64 o.number, .int .i64 o.hour, .bool o.fin]

/-- A post: its block g, its map's block b. -/
structure PostR (w : World) (g b : Nat) (wd many : Int) (F : Int → Option Od) : Prop where
  cells : Bk w g 69 #[.int .i64 wd, .int .i64 many, .map (some b)]
  map : Mp w b (fun k => (F k).map odV)
  ne_ : g ≠ b

/-- What a call that writes to the blocks g and b alone leaves. -/
structure Only2 (w w' : World) (g b : Nat) : Prop where
  os : w'.os = w.os
  tape : w'.tape = w.tape
  output : w'.output = w.output
  size : w.heap.size ≤ w'.heap.size
  block : ∀ j, j < w.heap.size → j ≠ g → j ≠ b → w'.heap[j]? = w.heap[j]?

theorem PostR.below {w w' : World} {g b B : Nat} {wd many : Int} {F : Int → Option Od} (h : PostR w g b wd many F) (hb : Below B w w') (hg : g < B) (hb' : b < B) : PostR w' g b wd many F :=
  ⟨h.cells.below hb hg, h.map.below hb hb', h.ne_⟩

theorem zero_od (w : World) : (zeroValue 74).run Try.prog w = .ok (.agg #[.int .i64 0, .int .i64 0, .int .i64 0, .bool false]) w := by kernel_rfl

set_option maxHeartbeats 400000 in
theorem new_in (n : Int) (w : World) (h1 : 1 ≤ n) (h2 : n ≤ 16) :
    Calls Try.prog 20 #[.int .i64 n] w fun e w' => e = .returned (.pointer (some ⟨w.heap.size + 1, 0, none⟩)) ∧ Below w.heap.size w w' ∧ w'.heap.size = w.heap.size + 2 ∧ PostR w' (w.heap.size + 1) w.heap.size n 0 (fun _ => none) := by
  have hmm := @run_makeMap Try.prog
  go_enter Try.func20, Try.ntmps20
  go_wp2
  go_ret
  refine ⟨rfl, ((Below.refl _ _).alloc (Nat.le_refl _) _).alloc (by simp) _, by simp, Bk.newAt _ (by simp) _ _, (Mp.new w).of_block ?_, by omega⟩
  exact Below.heap_alloc _ _ _ (by simp)

set_option maxHeartbeats 400000 in
theorem new_out (n : Int) (w : World) (h : n < 1 ∨ 16 < n) :
    Calls Try.prog 20 #[.int .i64 n] w fun e w' => e = .returned (.pointer none) ∧ w = w' := by
  rcases h with h | h
  · go_enter Try.func20, Try.ntmps20
    go_wp2
    go_ret
    exact ⟨rfl, rfl⟩
  · have h' : ¬ n < 1 := by omega
    go_enter Try.func20, Try.ntmps20
    go_wp2
    go_ret
    exact ⟨rfl, rfl⟩

def raiseOk (town level hour : Int) : Prop := 0 ≤ town ∧ town < 40 ∧ 0 ≤ level ∧ level ≤ 3 ∧ 0 ≤ hour ∧ hour ≤ 16777216
instance (town level hour : Int) : Decidable (raiseOk town level hour) := by unfold raiseOk; infer_instance

set_option maxRecDepth 100000 in
set_option maxHeartbeats 400000 in
theorem raise_in (g b : Nat) (wd many town level hour : Int) (F : Int → Option Od) (w : World) (h : raiseOk town level hour) (hm0 : 0 ≤ many) (hm1 : many ≤ 1000000) (hp : PostR w g b wd many F) :
    Calls Try.prog 22 #[.pointer (some ⟨g, 0, none⟩), .int .i64 town, .int .i64 level, .int .i64 hour] w fun e w' =>
      e = .returned (.int .i64 (many + 1)) ∧ Only2 w w' g b ∧ PostR w' g b wd (many + 1) (fun k => if k = town then some ⟨level, many + 1, hour, false⟩ else F k) := by
  obtain ⟨t0, t1, l0, l1, u0, u1⟩ := h
  obtain ⟨hcell, hmap, hne⟩ := hp
  have c := hcell.cell
  have cf := hcell.frozen
  have hlt := hcell.lt
  have HM := Lib.hid hmap
  clear hmap
  go_enter Try.func22, Try.ntmps22
  go_wp2_with fail
  have hB1 := hcell.set_ 1 (.int .i64 (many + 1))
  have hM1 : Mp (w.setCell ⟨g, 1, none⟩ (.int .i64 (many + 1))) b (fun k => (F k).map odV) := HM.out.of_block (Below.heap_setCell _ _ _ _ (fun e => hne e.symm))
  have hO1 : Only2 w (w.setCell ⟨g, 1, none⟩ (.int .i64 (many + 1))) g b := ⟨rfl, rfl, rfl, by simp [World.setCell], fun j _ hj _ => Below.heap_setCell _ _ _ _ hj⟩
  generalize w.setCell ⟨g, 1, none⟩ (.int .i64 (many + 1)) = W1 at *
  obtain ⟨w2, hup, hput⟩ := (show Mp W1.drew b _ from hM1).run_update (P := Try.prog) (t := 67) Try.underlying67 Try.underlying3 town (odV ⟨level, many + 1, hour, false⟩)
  unfold odV at hup
  dsimp only at hup
  clear c cf
  have c : ∀ i, W1.cell? ⟨g, i, none⟩ = #[.int .i64 wd, .int .i64 (many + 1), .map (some b)][i]? := hB1.cell
  have HU := Lib.hid hup
  clear hup
  refine wp_region_head 12 (fun w' => w' = W1.drew) (by kernel_rfl) (by kernel_rfl) rfl ?_
  iterate 12 (refine chain_pure (by rfl) ?_; apply Exists.intro; apply And.intro; (case left => (intro w hSw; (try dsimp only at hSw); go_simp; try with_reducible rfl)); (try simp only [Act.put, List.setIfInBounds_toArray, List.set_cons_zero, List.set_cons_succ]))
  intro W hSW
  subst hSW
  have hup := HU.out
  have hB2 : Bk w2 g 69 #[.int .i64 wd, .int .i64 (many + 1), .map (some b)] := (hput.block g hne).trans hB1
  have c2 : ∀ i, w2.cell? ⟨g, i, none⟩ = #[.int .i64 wd, .int .i64 (many + 1), .map (some b)][i]? := hB2.cell
  go_wp2
  go_ret
  refine ⟨rfl, ⟨hput.os.trans hO1.os, hput.tape.trans hO1.tape, hput.output.trans hO1.output, Nat.le_trans hO1.size (Nat.le_of_eq hput.size.symm), fun j hj h1 h2 => (hput.block j h2).trans (hO1.block j hj h1 h2)⟩, hB2, ?_, hne⟩
  have hfun : (putF (fun k => (F k).map odV) town (odV ⟨level, many + 1, hour, false⟩)) = fun k => ((if k = town then some (⟨level, many + 1, hour, false⟩ : Od) else F k)).map odV := by
    funext k
    unfold putF
    split <;> simp
  rw [← hfun]
  exact hput.map

set_option maxHeartbeats 400000 in
theorem raise_out (g : Nat) (town level hour : Int) (w : World) (h : ¬ raiseOk town level hour) :
    Calls Try.prog 22 #[.pointer (some ⟨g, 0, none⟩), .int .i64 town, .int .i64 level, .int .i64 hour] w fun e w' => e = .returned (.int .i64 0) ∧ w = w' := by
  have h' : town < 0 ∨ (0 ≤ town ∧ 40 ≤ town) ∨ (0 ≤ town ∧ town < 40 ∧ level < 0) ∨ (0 ≤ town ∧ town < 40 ∧ 0 ≤ level ∧ 3 < level) ∨ (0 ≤ town ∧ town < 40 ∧ 0 ≤ level ∧ level ≤ 3 ∧ hour < 0) ∨ (0 ≤ town ∧ town < 40 ∧ 0 ≤ level ∧ level ≤ 3 ∧ 0 ≤ hour ∧ 16777216 < hour) := by
    unfold raiseOk at h
    omega
  clear h
  rcases h' with h | ⟨h1, h⟩ | ⟨h1, h2, h⟩ | ⟨h1, h2, h3, h⟩ | ⟨h1, h2, h3, h4, h⟩ | ⟨h1, h2, h3, h4, h5, h⟩
  all_goals
    go_enter Try.func22, Try.ntmps22
    go_wp2
    go_ret
    exact ⟨rfl, rfl⟩

def awaitsB (F : Int → Option Od) (wd town number warden : Int) : Bool := match F town with
  | some o => !o.fin && (o.number == number) && decide (0 ≤ warden) && decide (warden < wd)
  | none => false

set_option maxRecDepth 100000 in
set_option maxHeartbeats 400000 in
theorem awaits_none (g b : Nat) (wd many town level number warden : Int) (F : Int → Option Od) (w : World) (hp : PostR w g b wd many F) (hF : F town = none) :
    Calls Try.prog 26 #[.pointer (some ⟨g, 0, none⟩), .agg #[.int .i64 town, .int .i64 level, .int .i64 number, .int .i64 warden]] w fun e w' =>
      e = .returned (.bool false) ∧ Below w.heap.size w w' := by
  obtain ⟨hcell, hmap, hne⟩ := hp
  have c := hcell.cell
  have hlt := hcell.lt
  have HM := Lib.hid hmap
  have HF := Lib.hid hF
  clear hmap hF
  go_enter Try.func26, Try.ntmps26
  go_wp2_with fail
  have hb0 : Below w.heap.size w (w.alloc (.cells #[.int .i64 town, .int .i64 level, .int .i64 number, .int .i64 warden] 42)) := (Below.refl _ _).alloc (Nat.le_refl _) _
  have hB1 := hcell.alloc (.cells #[.int .i64 town, .int .i64 level, .int .i64 number, .int .i64 warden] 42)
  have hC1 := Bk.new w 42 #[.int .i64 town, .int .i64 level, .int .i64 number, .int .i64 warden]
  have hM1 : Mp (w.alloc (.cells #[.int .i64 town, .int .i64 level, .int .i64 number, .int .i64 warden] 42)) b (fun k => (F k).map odV) := HM.out.of_block (Below.heap_alloc _ _ _ HM.out.lt)
  have hsz : (w.alloc (.cells #[.int .i64 town, .int .i64 level, .int .i64 number, .int .i64 warden] 42)).heap.size = w.heap.size + 1 := by simp
  generalize w.alloc (.cells #[.int .i64 town, .int .i64 level, .int .i64 number, .int .i64 warden] 42) = W1 at *
  clear c
  obtain ⟨Wn, hw0, hw1, hw2⟩ : ∃ Wn : Nat → World, Wn 0 = W1.drew ∧ Wn 1 = W1.drew.alloc (.cells #[.int .i64 0, .int .i64 0, .int .i64 0, .bool false] 74) ∧ ∀ n, Wn (n + 2) = W1.drew.alloc (.cells #[.int .i64 0, .int .i64 0, .int .i64 0, .bool false] 74) :=
    ⟨fun n => match n with
      | 0 => W1.drew
      | 1 => W1.drew.alloc (.cells #[.int .i64 0, .int .i64 0, .int .i64 0, .bool false] 74)
      | _ => W1.drew.alloc (.cells #[.int .i64 0, .int .i64 0, .int .i64 0, .bool false] 74), rfl, rfl, fun _ => rfl⟩
  have hbn : ∀ n, Below W1.heap.size W1 (Wn n) := fun n => match n with
    | 0 => by rw [hw0]; exact (Below.refl _ _).drew
    | 1 => by rw [hw1]; exact ((Below.refl _ _).drew).alloc (Nat.le_refl _) _
    | n + 2 => by rw [hw2]; exact ((Below.refl _ _).drew).alloc (Nat.le_refl _) _
  have hlk : ∀ n, (Instr.lookup 67 (.map (some b)) (.int .i64 town) true).run Try.prog (Wn n) = .ok (.tuple #[.agg #[.int .i64 0, .int .i64 0, .int .i64 0, .bool false], .bool false]) (Wn n) := fun n => by
    have := (hM1.below (hbn n) hM1.lt).run_lookup (P := Try.prog) (t := 67) Try.underlying67 Try.underlying3 (zero_od _) town true
    simp only [if_true, HF.out] at this
    exact this
  have c : ∀ n i, (Wn n).cell? ⟨g, i, none⟩ = #[.int .i64 wd, .int .i64 many, .map (some b)][i]? := fun n => (hB1.below (hbn n) hB1.lt).cell
  have d : ∀ n i, (Wn n).cell? ⟨w.heap.size, i, none⟩ = #[.int .i64 town, .int .i64 level, .int .i64 number, .int .i64 warden][i]? := fun n => (hC1.below (hbn n) hC1.lt).cell
  have H0 := Lib.hid hw0
  have H1 := Lib.hid hw1
  have H2 := Lib.hid hw2
  clear hw0 hw1 hw2
  refine wp_region_headA 13 [10, 11] (fun n w' => w' = Wn n) (by kernel_rfl) (by kernel_rfl) (by kernel_rfl) H0.out.symm ?_
  iterate 10 (refine chain_pureA (by decide) (by rfl) ?_; apply Exists.intro; apply And.intro; (case left => (intro β w hSw; (try dsimp only at hSw); go_simp; try with_reducible rfl)); (try simp only [Act.put, List.setIfInBounds_toArray, List.set_cons_zero, List.set_cons_succ]))
  refine chain_turnA (by decide) (by rfl) ⟨.pointer (some ⟨W1.heap.size, 0, none⟩), (fun w hSw => ?_), ?_⟩
  · change w = Wn 0 at hSw
    subst hSw
    refine ⟨Wn 1, ?_, rfl⟩
    rw [H0.out, H1.out]
    go_simp
  (try simp only [Act.put, List.setIfInBounds_toArray, List.set_cons_zero, List.set_cons_succ])
  refine chain_storeA (by decide) (by rfl) (fun w hSw => ?_) ?_
  · change w = Wn 1 at hSw
    subst hSw
    refine ⟨Wn 2, ?_, rfl⟩
    rw [H1.out, H2.out 0]
    go_simp
  (try simp only [Act.put, List.setIfInBounds_toArray, List.set_cons_zero, List.set_cons_succ])
  iterate 1 (refine chain_pureA (by decide) (by rfl) ?_; apply Exists.intro; apply And.intro; (case left => (intro β w hSw; (try dsimp only at hSw); go_simp; try with_reducible rfl)); (try simp only [Act.put, List.setIfInBounds_toArray, List.set_cons_zero, List.set_cons_succ]))
  intro W hSW
  change W = Wn 2 at hSW
  subst hSW
  have hO2 : Bk (Wn 2) (w.heap.size + 1) 74 #[.int .i64 0, .int .i64 0, .int .i64 0, .bool false] := by rw [H2.out 0, ← hsz]; exact Bk.new W1.drew _ _
  have o : ∀ i, (Wn 2).cell? ⟨w.heap.size + 1, i, none⟩ = #[.int .i64 0, .int .i64 0, .int .i64 0, .bool false][i]? := hO2.cell
  go_wp2_with fail
  refine wp_region_head 28 (fun w' => w' = (Wn 2).drew) (by kernel_rfl) (by kernel_rfl) rfl ?_
  iterate 2 (refine chain_pure (by rfl) ?_; apply Exists.intro; apply And.intro; (case left => (intro w hSw; (try dsimp only at hSw); go_simp; try with_reducible rfl)); (try simp only [Act.put, List.setIfInBounds_toArray, List.set_cons_zero, List.set_cons_succ]))
  iterate 3 (refine chain_off (by rfl) ?_; (try simp only [Act.put, List.setIfInBounds_toArray, List.set_cons_zero, List.set_cons_succ]))
  iterate 2 (refine chain_pure (by rfl) ?_; apply Exists.intro; apply And.intro; (case left => (intro w hSw; (try dsimp only at hSw); go_simp; try with_reducible rfl)); (try simp only [Act.put, List.setIfInBounds_toArray, List.set_cons_zero, List.set_cons_succ]))
  iterate 5 (refine chain_off (by rfl) ?_; (try simp only [Act.put, List.setIfInBounds_toArray, List.set_cons_zero, List.set_cons_succ]))
  iterate 2 (refine chain_pure (by rfl) ?_; apply Exists.intro; apply And.intro; (case left => (intro w hSw; (try dsimp only at hSw); go_simp; try with_reducible rfl)); (try simp only [Act.put, List.setIfInBounds_toArray, List.set_cons_zero, List.set_cons_succ]))
  iterate 3 (refine chain_off (by rfl) ?_; (try simp only [Act.put, List.setIfInBounds_toArray, List.set_cons_zero, List.set_cons_succ]))
  iterate 2 (refine chain_pure (by rfl) ?_; apply Exists.intro; apply And.intro; (case left => (intro w hSw; (try dsimp only at hSw); go_simp; try with_reducible rfl)); (try simp only [Act.put, List.setIfInBounds_toArray, List.set_cons_zero, List.set_cons_succ]))
  iterate 7 (refine chain_off (by rfl) ?_; (try simp only [Act.put, List.setIfInBounds_toArray, List.set_cons_zero, List.set_cons_succ]))
  iterate 2 (refine chain_pure (by rfl) ?_; apply Exists.intro; apply And.intro; (case left => (intro w hSw; (try dsimp only at hSw); go_simp; try with_reducible rfl)); (try simp only [Act.put, List.setIfInBounds_toArray, List.set_cons_zero, List.set_cons_succ]))
  intro W hSW
  subst hSW
  go_wp2
  go_ret
  exact ⟨rfl, hb0.trans (((hbn 2).drew).mono (by omega))⟩

set_option maxRecDepth 100000 in
set_option maxHeartbeats 400000 in
theorem awaits_fin (g b : Nat) (wd many town level number warden : Int) (F : Int → Option Od) (w : World) (hp : PostR w g b wd many F) (ol on oh : Int) (hF : F town = some ⟨ol, on, oh, true⟩) :
    Calls Try.prog 26 #[.pointer (some ⟨g, 0, none⟩), .agg #[.int .i64 town, .int .i64 level, .int .i64 number, .int .i64 warden]] w fun e w' =>
      e = .returned (.bool false) ∧ Below w.heap.size w w' := by
  obtain ⟨hcell, hmap, hne⟩ := hp
  have c := hcell.cell
  have hlt := hcell.lt
  have HM := Lib.hid hmap
  have HF := Lib.hid hF
  clear hmap hF
  go_enter Try.func26, Try.ntmps26
  go_wp2_with fail
  have hb0 : Below w.heap.size w (w.alloc (.cells #[.int .i64 town, .int .i64 level, .int .i64 number, .int .i64 warden] 42)) := (Below.refl _ _).alloc (Nat.le_refl _) _
  have hB1 := hcell.alloc (.cells #[.int .i64 town, .int .i64 level, .int .i64 number, .int .i64 warden] 42)
  have hC1 := Bk.new w 42 #[.int .i64 town, .int .i64 level, .int .i64 number, .int .i64 warden]
  have hM1 : Mp (w.alloc (.cells #[.int .i64 town, .int .i64 level, .int .i64 number, .int .i64 warden] 42)) b (fun k => (F k).map odV) := HM.out.of_block (Below.heap_alloc _ _ _ HM.out.lt)
  have hsz : (w.alloc (.cells #[.int .i64 town, .int .i64 level, .int .i64 number, .int .i64 warden] 42)).heap.size = w.heap.size + 1 := by simp
  generalize w.alloc (.cells #[.int .i64 town, .int .i64 level, .int .i64 number, .int .i64 warden] 42) = W1 at *
  clear c
  obtain ⟨Wn, hw0, hw1, hw2⟩ : ∃ Wn : Nat → World, Wn 0 = W1.drew ∧ Wn 1 = W1.drew.alloc (.cells #[.int .i64 0, .int .i64 0, .int .i64 0, .bool false] 74) ∧ ∀ n, Wn (n + 2) = W1.drew.alloc (.cells #[.int .i64 ol, .int .i64 on, .int .i64 oh, .bool true] 74) :=
    ⟨fun n => match n with
      | 0 => W1.drew
      | 1 => W1.drew.alloc (.cells #[.int .i64 0, .int .i64 0, .int .i64 0, .bool false] 74)
      | _ => W1.drew.alloc (.cells #[.int .i64 ol, .int .i64 on, .int .i64 oh, .bool true] 74), rfl, rfl, fun _ => rfl⟩
  have hbn : ∀ n, Below W1.heap.size W1 (Wn n) := fun n => match n with
    | 0 => by rw [hw0]; exact (Below.refl _ _).drew
    | 1 => by rw [hw1]; exact ((Below.refl _ _).drew).alloc (Nat.le_refl _) _
    | n + 2 => by rw [hw2]; exact ((Below.refl _ _).drew).alloc (Nat.le_refl _) _
  have hlk : ∀ n, (Instr.lookup 67 (.map (some b)) (.int .i64 town) true).run Try.prog (Wn n) = .ok (.tuple #[.agg #[.int .i64 ol, .int .i64 on, .int .i64 oh, .bool true], .bool true]) (Wn n) := fun n => by
    have := (hM1.below (hbn n) hM1.lt).run_lookup (P := Try.prog) (t := 67) Try.underlying67 Try.underlying3 (zero_od _) town true
    simp only [if_true, HF.out] at this
    exact this
  have c : ∀ n i, (Wn n).cell? ⟨g, i, none⟩ = #[.int .i64 wd, .int .i64 many, .map (some b)][i]? := fun n => (hB1.below (hbn n) hB1.lt).cell
  have d : ∀ n i, (Wn n).cell? ⟨w.heap.size, i, none⟩ = #[.int .i64 town, .int .i64 level, .int .i64 number, .int .i64 warden][i]? := fun n => (hC1.below (hbn n) hC1.lt).cell
  have H0 := Lib.hid hw0
  have H1 := Lib.hid hw1
  have H2 := Lib.hid hw2
  clear hw0 hw1 hw2
  refine wp_region_headA 13 [10, 11] (fun n w' => w' = Wn n) (by kernel_rfl) (by kernel_rfl) (by kernel_rfl) H0.out.symm ?_
  iterate 10 (refine chain_pureA (by decide) (by rfl) ?_; apply Exists.intro; apply And.intro; (case left => (intro β w hSw; (try dsimp only at hSw); go_simp; try with_reducible rfl)); (try simp only [Act.put, List.setIfInBounds_toArray, List.set_cons_zero, List.set_cons_succ]))
  refine chain_turnA (by decide) (by rfl) ⟨.pointer (some ⟨W1.heap.size, 0, none⟩), (fun w hSw => ?_), ?_⟩
  · change w = Wn 0 at hSw
    subst hSw
    refine ⟨Wn 1, ?_, rfl⟩
    rw [H0.out, H1.out]
    go_simp
  (try simp only [Act.put, List.setIfInBounds_toArray, List.set_cons_zero, List.set_cons_succ])
  refine chain_storeA (by decide) (by rfl) (fun w hSw => ?_) ?_
  · change w = Wn 1 at hSw
    subst hSw
    refine ⟨Wn 2, ?_, rfl⟩
    rw [H1.out, H2.out 0]
    go_simp
  (try simp only [Act.put, List.setIfInBounds_toArray, List.set_cons_zero, List.set_cons_succ])
  iterate 1 (refine chain_pureA (by decide) (by rfl) ?_; apply Exists.intro; apply And.intro; (case left => (intro β w hSw; (try dsimp only at hSw); go_simp; try with_reducible rfl)); (try simp only [Act.put, List.setIfInBounds_toArray, List.set_cons_zero, List.set_cons_succ]))
  intro W hSW
  change W = Wn 2 at hSW
  subst hSW
  have hO2 : Bk (Wn 2) (w.heap.size + 1) 74 #[.int .i64 ol, .int .i64 on, .int .i64 oh, .bool true] := by rw [H2.out 0, ← hsz]; exact Bk.new W1.drew _ _
  have o : ∀ i, (Wn 2).cell? ⟨w.heap.size + 1, i, none⟩ = #[.int .i64 ol, .int .i64 on, .int .i64 oh, .bool true][i]? := hO2.cell
  go_wp2_with fail
  refine wp_region_head 28 (fun w' => w' = (Wn 2).drew) (by kernel_rfl) (by kernel_rfl) rfl ?_
  iterate 7 (refine chain_pure (by rfl) ?_; apply Exists.intro; apply And.intro; (case left => (intro w hSw; (try dsimp only at hSw); go_simp; try with_reducible rfl)); (try simp only [Act.put, List.setIfInBounds_toArray, List.set_cons_zero, List.set_cons_succ]))
  iterate 5 (refine chain_off (by rfl) ?_; (try simp only [Act.put, List.setIfInBounds_toArray, List.set_cons_zero, List.set_cons_succ]))
  iterate 2 (refine chain_pure (by rfl) ?_; apply Exists.intro; apply And.intro; (case left => (intro w hSw; (try dsimp only at hSw); go_simp; try with_reducible rfl)); (try simp only [Act.put, List.setIfInBounds_toArray, List.set_cons_zero, List.set_cons_succ]))
  iterate 3 (refine chain_off (by rfl) ?_; (try simp only [Act.put, List.setIfInBounds_toArray, List.set_cons_zero, List.set_cons_succ]))
  iterate 2 (refine chain_pure (by rfl) ?_; apply Exists.intro; apply And.intro; (case left => (intro w hSw; (try dsimp only at hSw); go_simp; try with_reducible rfl)); (try simp only [Act.put, List.setIfInBounds_toArray, List.set_cons_zero, List.set_cons_succ]))
  iterate 7 (refine chain_off (by rfl) ?_; (try simp only [Act.put, List.setIfInBounds_toArray, List.set_cons_zero, List.set_cons_succ]))
  iterate 2 (refine chain_pure (by rfl) ?_; apply Exists.intro; apply And.intro; (case left => (intro w hSw; (try dsimp only at hSw); go_simp; try with_reducible rfl)); (try simp only [Act.put, List.setIfInBounds_toArray, List.set_cons_zero, List.set_cons_succ]))
  intro W hSW
  subst hSW
  go_wp2
  go_ret
  exact ⟨rfl, hb0.trans (((hbn 2).drew).mono (by omega))⟩

set_option maxRecDepth 100000 in
set_option maxHeartbeats 400000 in
theorem awaits_num (g b : Nat) (wd many town level number warden : Int) (F : Int → Option Od) (w : World) (hp : PostR w g b wd many F) (ol on oh : Int) (hF : F town = some ⟨ol, on, oh, false⟩) (hn : (on == number) = false) :
    Calls Try.prog 26 #[.pointer (some ⟨g, 0, none⟩), .agg #[.int .i64 town, .int .i64 level, .int .i64 number, .int .i64 warden]] w fun e w' =>
      e = .returned (.bool false) ∧ Below w.heap.size w w' := by
  obtain ⟨hcell, hmap, hne⟩ := hp
  have c := hcell.cell
  have hlt := hcell.lt
  have HM := Lib.hid hmap
  have HF := Lib.hid hF
  clear hmap hF
  go_enter Try.func26, Try.ntmps26
  go_wp2_with fail
  have hb0 : Below w.heap.size w (w.alloc (.cells #[.int .i64 town, .int .i64 level, .int .i64 number, .int .i64 warden] 42)) := (Below.refl _ _).alloc (Nat.le_refl _) _
  have hB1 := hcell.alloc (.cells #[.int .i64 town, .int .i64 level, .int .i64 number, .int .i64 warden] 42)
  have hC1 := Bk.new w 42 #[.int .i64 town, .int .i64 level, .int .i64 number, .int .i64 warden]
  have hM1 : Mp (w.alloc (.cells #[.int .i64 town, .int .i64 level, .int .i64 number, .int .i64 warden] 42)) b (fun k => (F k).map odV) := HM.out.of_block (Below.heap_alloc _ _ _ HM.out.lt)
  have hsz : (w.alloc (.cells #[.int .i64 town, .int .i64 level, .int .i64 number, .int .i64 warden] 42)).heap.size = w.heap.size + 1 := by simp
  generalize w.alloc (.cells #[.int .i64 town, .int .i64 level, .int .i64 number, .int .i64 warden] 42) = W1 at *
  clear c
  obtain ⟨Wn, hw0, hw1, hw2⟩ : ∃ Wn : Nat → World, Wn 0 = W1.drew ∧ Wn 1 = W1.drew.alloc (.cells #[.int .i64 0, .int .i64 0, .int .i64 0, .bool false] 74) ∧ ∀ n, Wn (n + 2) = W1.drew.alloc (.cells #[.int .i64 ol, .int .i64 on, .int .i64 oh, .bool false] 74) :=
    ⟨fun n => match n with
      | 0 => W1.drew
      | 1 => W1.drew.alloc (.cells #[.int .i64 0, .int .i64 0, .int .i64 0, .bool false] 74)
      | _ => W1.drew.alloc (.cells #[.int .i64 ol, .int .i64 on, .int .i64 oh, .bool false] 74), rfl, rfl, fun _ => rfl⟩
  have hbn : ∀ n, Below W1.heap.size W1 (Wn n) := fun n => match n with
    | 0 => by rw [hw0]; exact (Below.refl _ _).drew
    | 1 => by rw [hw1]; exact ((Below.refl _ _).drew).alloc (Nat.le_refl _) _
    | n + 2 => by rw [hw2]; exact ((Below.refl _ _).drew).alloc (Nat.le_refl _) _
  have hlk : ∀ n, (Instr.lookup 67 (.map (some b)) (.int .i64 town) true).run Try.prog (Wn n) = .ok (.tuple #[.agg #[.int .i64 ol, .int .i64 on, .int .i64 oh, .bool false], .bool true]) (Wn n) := fun n => by
    have := (hM1.below (hbn n) hM1.lt).run_lookup (P := Try.prog) (t := 67) Try.underlying67 Try.underlying3 (zero_od _) town true
    simp only [if_true, HF.out] at this
    exact this
  have c : ∀ n i, (Wn n).cell? ⟨g, i, none⟩ = #[.int .i64 wd, .int .i64 many, .map (some b)][i]? := fun n => (hB1.below (hbn n) hB1.lt).cell
  have d : ∀ n i, (Wn n).cell? ⟨w.heap.size, i, none⟩ = #[.int .i64 town, .int .i64 level, .int .i64 number, .int .i64 warden][i]? := fun n => (hC1.below (hbn n) hC1.lt).cell
  have H0 := Lib.hid hw0
  have H1 := Lib.hid hw1
  have H2 := Lib.hid hw2
  clear hw0 hw1 hw2
  refine wp_region_headA 13 [10, 11] (fun n w' => w' = Wn n) (by kernel_rfl) (by kernel_rfl) (by kernel_rfl) H0.out.symm ?_
  iterate 10 (refine chain_pureA (by decide) (by rfl) ?_; apply Exists.intro; apply And.intro; (case left => (intro β w hSw; (try dsimp only at hSw); go_simp; try with_reducible rfl)); (try simp only [Act.put, List.setIfInBounds_toArray, List.set_cons_zero, List.set_cons_succ]))
  refine chain_turnA (by decide) (by rfl) ⟨.pointer (some ⟨W1.heap.size, 0, none⟩), (fun w hSw => ?_), ?_⟩
  · change w = Wn 0 at hSw
    subst hSw
    refine ⟨Wn 1, ?_, rfl⟩
    rw [H0.out, H1.out]
    go_simp
  (try simp only [Act.put, List.setIfInBounds_toArray, List.set_cons_zero, List.set_cons_succ])
  refine chain_storeA (by decide) (by rfl) (fun w hSw => ?_) ?_
  · change w = Wn 1 at hSw
    subst hSw
    refine ⟨Wn 2, ?_, rfl⟩
    rw [H1.out, H2.out 0]
    go_simp
  (try simp only [Act.put, List.setIfInBounds_toArray, List.set_cons_zero, List.set_cons_succ])
  iterate 1 (refine chain_pureA (by decide) (by rfl) ?_; apply Exists.intro; apply And.intro; (case left => (intro β w hSw; (try dsimp only at hSw); go_simp; try with_reducible rfl)); (try simp only [Act.put, List.setIfInBounds_toArray, List.set_cons_zero, List.set_cons_succ]))
  intro W hSW
  change W = Wn 2 at hSW
  subst hSW
  have hO2 : Bk (Wn 2) (w.heap.size + 1) 74 #[.int .i64 ol, .int .i64 on, .int .i64 oh, .bool false] := by rw [H2.out 0, ← hsz]; exact Bk.new W1.drew _ _
  have o : ∀ i, (Wn 2).cell? ⟨w.heap.size + 1, i, none⟩ = #[.int .i64 ol, .int .i64 on, .int .i64 oh, .bool false][i]? := hO2.cell
  go_wp2_with fail
  refine wp_region_head 28 (fun w' => w' = (Wn 2).drew) (by kernel_rfl) (by kernel_rfl) rfl ?_
  iterate 14 (refine chain_pure (by rfl) ?_; apply Exists.intro; apply And.intro; (case left => (intro w hSw; (try dsimp only at hSw); go_simp; try with_reducible rfl)); (try simp only [Act.put, List.setIfInBounds_toArray, List.set_cons_zero, List.set_cons_succ]))
  iterate 3 (refine chain_off (by rfl) ?_; (try simp only [Act.put, List.setIfInBounds_toArray, List.set_cons_zero, List.set_cons_succ]))
  iterate 2 (refine chain_pure (by rfl) ?_; apply Exists.intro; apply And.intro; (case left => (intro w hSw; (try dsimp only at hSw); go_simp; try with_reducible rfl)); (try simp only [Act.put, List.setIfInBounds_toArray, List.set_cons_zero, List.set_cons_succ]))
  iterate 7 (refine chain_off (by rfl) ?_; (try simp only [Act.put, List.setIfInBounds_toArray, List.set_cons_zero, List.set_cons_succ]))
  iterate 2 (refine chain_pure (by rfl) ?_; apply Exists.intro; apply And.intro; (case left => (intro w hSw; (try dsimp only at hSw); go_simp; try with_reducible rfl)); (try simp only [Act.put, List.setIfInBounds_toArray, List.set_cons_zero, List.set_cons_succ]))
  intro W hSW
  subst hSW
  go_wp2
  go_ret
  exact ⟨rfl, hb0.trans (((hbn 2).drew).mono (by omega))⟩

set_option maxRecDepth 100000 in
set_option maxHeartbeats 400000 in
theorem awaits_neg (g b : Nat) (wd many town level number warden : Int) (F : Int → Option Od) (w : World) (hp : PostR w g b wd many F) (ol on oh : Int) (hF : F town = some ⟨ol, on, oh, false⟩) (hn : (on == number) = true) (hw : decide (0 ≤ warden) = false) :
    Calls Try.prog 26 #[.pointer (some ⟨g, 0, none⟩), .agg #[.int .i64 town, .int .i64 level, .int .i64 number, .int .i64 warden]] w fun e w' =>
      e = .returned (.bool false) ∧ Below w.heap.size w w' := by
  obtain ⟨hcell, hmap, hne⟩ := hp
  have c := hcell.cell
  have hlt := hcell.lt
  have HM := Lib.hid hmap
  have HF := Lib.hid hF
  clear hmap hF
  go_enter Try.func26, Try.ntmps26
  go_wp2_with fail
  have hb0 : Below w.heap.size w (w.alloc (.cells #[.int .i64 town, .int .i64 level, .int .i64 number, .int .i64 warden] 42)) := (Below.refl _ _).alloc (Nat.le_refl _) _
  have hB1 := hcell.alloc (.cells #[.int .i64 town, .int .i64 level, .int .i64 number, .int .i64 warden] 42)
  have hC1 := Bk.new w 42 #[.int .i64 town, .int .i64 level, .int .i64 number, .int .i64 warden]
  have hM1 : Mp (w.alloc (.cells #[.int .i64 town, .int .i64 level, .int .i64 number, .int .i64 warden] 42)) b (fun k => (F k).map odV) := HM.out.of_block (Below.heap_alloc _ _ _ HM.out.lt)
  have hsz : (w.alloc (.cells #[.int .i64 town, .int .i64 level, .int .i64 number, .int .i64 warden] 42)).heap.size = w.heap.size + 1 := by simp
  generalize w.alloc (.cells #[.int .i64 town, .int .i64 level, .int .i64 number, .int .i64 warden] 42) = W1 at *
  clear c
  obtain ⟨Wn, hw0, hw1, hw2⟩ : ∃ Wn : Nat → World, Wn 0 = W1.drew ∧ Wn 1 = W1.drew.alloc (.cells #[.int .i64 0, .int .i64 0, .int .i64 0, .bool false] 74) ∧ ∀ n, Wn (n + 2) = W1.drew.alloc (.cells #[.int .i64 ol, .int .i64 on, .int .i64 oh, .bool false] 74) :=
    ⟨fun n => match n with
      | 0 => W1.drew
      | 1 => W1.drew.alloc (.cells #[.int .i64 0, .int .i64 0, .int .i64 0, .bool false] 74)
      | _ => W1.drew.alloc (.cells #[.int .i64 ol, .int .i64 on, .int .i64 oh, .bool false] 74), rfl, rfl, fun _ => rfl⟩
  have hbn : ∀ n, Below W1.heap.size W1 (Wn n) := fun n => match n with
    | 0 => by rw [hw0]; exact (Below.refl _ _).drew
    | 1 => by rw [hw1]; exact ((Below.refl _ _).drew).alloc (Nat.le_refl _) _
    | n + 2 => by rw [hw2]; exact ((Below.refl _ _).drew).alloc (Nat.le_refl _) _
  have hlk : ∀ n, (Instr.lookup 67 (.map (some b)) (.int .i64 town) true).run Try.prog (Wn n) = .ok (.tuple #[.agg #[.int .i64 ol, .int .i64 on, .int .i64 oh, .bool false], .bool true]) (Wn n) := fun n => by
    have := (hM1.below (hbn n) hM1.lt).run_lookup (P := Try.prog) (t := 67) Try.underlying67 Try.underlying3 (zero_od _) town true
    simp only [if_true, HF.out] at this
    exact this
  have c : ∀ n i, (Wn n).cell? ⟨g, i, none⟩ = #[.int .i64 wd, .int .i64 many, .map (some b)][i]? := fun n => (hB1.below (hbn n) hB1.lt).cell
  have d : ∀ n i, (Wn n).cell? ⟨w.heap.size, i, none⟩ = #[.int .i64 town, .int .i64 level, .int .i64 number, .int .i64 warden][i]? := fun n => (hC1.below (hbn n) hC1.lt).cell
  have H0 := Lib.hid hw0
  have H1 := Lib.hid hw1
  have H2 := Lib.hid hw2
  clear hw0 hw1 hw2
  refine wp_region_headA 13 [10, 11] (fun n w' => w' = Wn n) (by kernel_rfl) (by kernel_rfl) (by kernel_rfl) H0.out.symm ?_
  iterate 10 (refine chain_pureA (by decide) (by rfl) ?_; apply Exists.intro; apply And.intro; (case left => (intro β w hSw; (try dsimp only at hSw); go_simp; try with_reducible rfl)); (try simp only [Act.put, List.setIfInBounds_toArray, List.set_cons_zero, List.set_cons_succ]))
  refine chain_turnA (by decide) (by rfl) ⟨.pointer (some ⟨W1.heap.size, 0, none⟩), (fun w hSw => ?_), ?_⟩
  · change w = Wn 0 at hSw
    subst hSw
    refine ⟨Wn 1, ?_, rfl⟩
    rw [H0.out, H1.out]
    go_simp
  (try simp only [Act.put, List.setIfInBounds_toArray, List.set_cons_zero, List.set_cons_succ])
  refine chain_storeA (by decide) (by rfl) (fun w hSw => ?_) ?_
  · change w = Wn 1 at hSw
    subst hSw
    refine ⟨Wn 2, ?_, rfl⟩
    rw [H1.out, H2.out 0]
    go_simp
  (try simp only [Act.put, List.setIfInBounds_toArray, List.set_cons_zero, List.set_cons_succ])
  iterate 1 (refine chain_pureA (by decide) (by rfl) ?_; apply Exists.intro; apply And.intro; (case left => (intro β w hSw; (try dsimp only at hSw); go_simp; try with_reducible rfl)); (try simp only [Act.put, List.setIfInBounds_toArray, List.set_cons_zero, List.set_cons_succ]))
  intro W hSW
  change W = Wn 2 at hSW
  subst hSW
  have hO2 : Bk (Wn 2) (w.heap.size + 1) 74 #[.int .i64 ol, .int .i64 on, .int .i64 oh, .bool false] := by rw [H2.out 0, ← hsz]; exact Bk.new W1.drew _ _
  have o : ∀ i, (Wn 2).cell? ⟨w.heap.size + 1, i, none⟩ = #[.int .i64 ol, .int .i64 on, .int .i64 oh, .bool false][i]? := hO2.cell
  go_wp2_with fail
  refine wp_region_head 28 (fun w' => w' = (Wn 2).drew) (by kernel_rfl) (by kernel_rfl) rfl ?_
  iterate 19 (refine chain_pure (by rfl) ?_; apply Exists.intro; apply And.intro; (case left => (intro w hSw; (try dsimp only at hSw); go_simp; try with_reducible rfl)); (try simp only [Act.put, List.setIfInBounds_toArray, List.set_cons_zero, List.set_cons_succ]))
  iterate 7 (refine chain_off (by rfl) ?_; (try simp only [Act.put, List.setIfInBounds_toArray, List.set_cons_zero, List.set_cons_succ]))
  iterate 2 (refine chain_pure (by rfl) ?_; apply Exists.intro; apply And.intro; (case left => (intro w hSw; (try dsimp only at hSw); go_simp; try with_reducible rfl)); (try simp only [Act.put, List.setIfInBounds_toArray, List.set_cons_zero, List.set_cons_succ]))
  intro W hSW
  subst hSW
  go_wp2
  go_ret
  exact ⟨rfl, hb0.trans (((hbn 2).drew).mono (by omega))⟩

set_option maxRecDepth 100000 in
set_option maxHeartbeats 400000 in
theorem awaits_last (g b : Nat) (wd many town level number warden : Int) (F : Int → Option Od) (w : World) (hp : PostR w g b wd many F) (ol on oh : Int) (hF : F town = some ⟨ol, on, oh, false⟩) (hn : (on == number) = true) (hw : decide (0 ≤ warden) = true) :
    Calls Try.prog 26 #[.pointer (some ⟨g, 0, none⟩), .agg #[.int .i64 town, .int .i64 level, .int .i64 number, .int .i64 warden]] w fun e w' =>
      e = .returned (.bool (decide (warden < wd))) ∧ Below w.heap.size w w' := by
  obtain ⟨hcell, hmap, hne⟩ := hp
  have c := hcell.cell
  have hlt := hcell.lt
  have HM := Lib.hid hmap
  have HF := Lib.hid hF
  clear hmap hF
  go_enter Try.func26, Try.ntmps26
  go_wp2_with fail
  have hb0 : Below w.heap.size w (w.alloc (.cells #[.int .i64 town, .int .i64 level, .int .i64 number, .int .i64 warden] 42)) := (Below.refl _ _).alloc (Nat.le_refl _) _
  have hB1 := hcell.alloc (.cells #[.int .i64 town, .int .i64 level, .int .i64 number, .int .i64 warden] 42)
  have hC1 := Bk.new w 42 #[.int .i64 town, .int .i64 level, .int .i64 number, .int .i64 warden]
  have hM1 : Mp (w.alloc (.cells #[.int .i64 town, .int .i64 level, .int .i64 number, .int .i64 warden] 42)) b (fun k => (F k).map odV) := HM.out.of_block (Below.heap_alloc _ _ _ HM.out.lt)
  have hsz : (w.alloc (.cells #[.int .i64 town, .int .i64 level, .int .i64 number, .int .i64 warden] 42)).heap.size = w.heap.size + 1 := by simp
  generalize w.alloc (.cells #[.int .i64 town, .int .i64 level, .int .i64 number, .int .i64 warden] 42) = W1 at *
  clear c
  obtain ⟨Wn, hw0, hw1, hw2⟩ : ∃ Wn : Nat → World, Wn 0 = W1.drew ∧ Wn 1 = W1.drew.alloc (.cells #[.int .i64 0, .int .i64 0, .int .i64 0, .bool false] 74) ∧ ∀ n, Wn (n + 2) = W1.drew.alloc (.cells #[.int .i64 ol, .int .i64 on, .int .i64 oh, .bool false] 74) :=
    ⟨fun n => match n with
      | 0 => W1.drew
      | 1 => W1.drew.alloc (.cells #[.int .i64 0, .int .i64 0, .int .i64 0, .bool false] 74)
      | _ => W1.drew.alloc (.cells #[.int .i64 ol, .int .i64 on, .int .i64 oh, .bool false] 74), rfl, rfl, fun _ => rfl⟩
  have hbn : ∀ n, Below W1.heap.size W1 (Wn n) := fun n => match n with
    | 0 => by rw [hw0]; exact (Below.refl _ _).drew
    | 1 => by rw [hw1]; exact ((Below.refl _ _).drew).alloc (Nat.le_refl _) _
    | n + 2 => by rw [hw2]; exact ((Below.refl _ _).drew).alloc (Nat.le_refl _) _
  have hlk : ∀ n, (Instr.lookup 67 (.map (some b)) (.int .i64 town) true).run Try.prog (Wn n) = .ok (.tuple #[.agg #[.int .i64 ol, .int .i64 on, .int .i64 oh, .bool false], .bool true]) (Wn n) := fun n => by
    have := (hM1.below (hbn n) hM1.lt).run_lookup (P := Try.prog) (t := 67) Try.underlying67 Try.underlying3 (zero_od _) town true
    simp only [if_true, HF.out] at this
    exact this
  have c : ∀ n i, (Wn n).cell? ⟨g, i, none⟩ = #[.int .i64 wd, .int .i64 many, .map (some b)][i]? := fun n => (hB1.below (hbn n) hB1.lt).cell
  have d : ∀ n i, (Wn n).cell? ⟨w.heap.size, i, none⟩ = #[.int .i64 town, .int .i64 level, .int .i64 number, .int .i64 warden][i]? := fun n => (hC1.below (hbn n) hC1.lt).cell
  have H0 := Lib.hid hw0
  have H1 := Lib.hid hw1
  have H2 := Lib.hid hw2
  clear hw0 hw1 hw2
  refine wp_region_headA 13 [10, 11] (fun n w' => w' = Wn n) (by kernel_rfl) (by kernel_rfl) (by kernel_rfl) H0.out.symm ?_
  iterate 10 (refine chain_pureA (by decide) (by rfl) ?_; apply Exists.intro; apply And.intro; (case left => (intro β w hSw; (try dsimp only at hSw); go_simp; try with_reducible rfl)); (try simp only [Act.put, List.setIfInBounds_toArray, List.set_cons_zero, List.set_cons_succ]))
  refine chain_turnA (by decide) (by rfl) ⟨.pointer (some ⟨W1.heap.size, 0, none⟩), (fun w hSw => ?_), ?_⟩
  · change w = Wn 0 at hSw
    subst hSw
    refine ⟨Wn 1, ?_, rfl⟩
    rw [H0.out, H1.out]
    go_simp
  (try simp only [Act.put, List.setIfInBounds_toArray, List.set_cons_zero, List.set_cons_succ])
  refine chain_storeA (by decide) (by rfl) (fun w hSw => ?_) ?_
  · change w = Wn 1 at hSw
    subst hSw
    refine ⟨Wn 2, ?_, rfl⟩
    rw [H1.out, H2.out 0]
    go_simp
  (try simp only [Act.put, List.setIfInBounds_toArray, List.set_cons_zero, List.set_cons_succ])
  iterate 1 (refine chain_pureA (by decide) (by rfl) ?_; apply Exists.intro; apply And.intro; (case left => (intro β w hSw; (try dsimp only at hSw); go_simp; try with_reducible rfl)); (try simp only [Act.put, List.setIfInBounds_toArray, List.set_cons_zero, List.set_cons_succ]))
  intro W hSW
  change W = Wn 2 at hSW
  subst hSW
  have hO2 : Bk (Wn 2) (w.heap.size + 1) 74 #[.int .i64 ol, .int .i64 on, .int .i64 oh, .bool false] := by rw [H2.out 0, ← hsz]; exact Bk.new W1.drew _ _
  have o : ∀ i, (Wn 2).cell? ⟨w.heap.size + 1, i, none⟩ = #[.int .i64 ol, .int .i64 on, .int .i64 oh, .bool false][i]? := hO2.cell
  go_wp2_with fail
  refine wp_region_head 28 (fun w' => w' = (Wn 2).drew) (by kernel_rfl) (by kernel_rfl) rfl ?_
  iterate 28 (refine chain_pure (by rfl) ?_; apply Exists.intro; apply And.intro; (case left => (intro w hSw; (try dsimp only at hSw); go_simp; try with_reducible rfl)); (try simp only [Act.put, List.setIfInBounds_toArray, List.set_cons_zero, List.set_cons_succ]))
  intro W hSW
  subst hSW
  go_wp2
  go_ret
  exact ⟨rfl, hb0.trans (((hbn 2).drew).mono (by omega))⟩

theorem awaits_any (g b : Nat) (wd many town level number warden : Int) (F : Int → Option Od) (w : World) (hp : PostR w g b wd many F) :
    Calls Try.prog 26 #[.pointer (some ⟨g, 0, none⟩), .agg #[.int .i64 town, .int .i64 level, .int .i64 number, .int .i64 warden]] w fun e w' =>
      e = .returned (.bool (awaitsB F wd town number warden)) ∧ Below w.heap.size w w' := by
  unfold awaitsB
  cases hF : F town with
  | none => exact awaits_none g b wd many town level number warden F w hp hF
  | some o =>
    obtain ⟨ol, on, oh, fin⟩ := o
    cases fin with
    | true => exact awaits_fin g b wd many town level number warden F w hp ol on oh hF
    | false =>
      cases hn : (on == number) with
      | false => simpa [hn] using awaits_num g b wd many town level number warden F w hp ol on oh hF hn
      | true =>
        cases hw : decide (0 ≤ warden) with
        | false => simpa [hn, hw] using awaits_neg g b wd many town level number warden F w hp ol on oh hF hn hw
        | true => simpa [hn, hw] using awaits_last g b wd many town level number warden F w hp ol on oh hF hn hw

end Go.Proofs.Ytlhaoiplbebgnaa
