/- The walks of the reference of layer 44: Awaits, Ack. -/
import Derived.Test.YtlhaoiplbebgnaaWardenS
import Derived.IntWalk
set_option linter.unusedSimpArgs false
set_option linter.unusedVariables false
namespace Go.Proofs.Ytlhaoiplbebgnaa
open Go.RowKit

set_option maxRecDepth 100000 in
set_option maxHeartbeats 1000000 in
theorem refAwaits_none (B0 g : Nat) (wd : Int) (cl : Cl) (L : List Ro) (v : Value) (w : World) (hp : RefP w B0 g wd L v) (hL : L.length ≤ 1000) (hn : lastI L cl.town = none) :
    Calls Try.prog 27 #[.pointer (some ⟨g, 0, none⟩), .agg #[.int .i64 cl.town, .int .i64 cl.level, .int .i64 cl.number, .int .i64 cl.warden]] w fun e w' =>
      e = .returned (.bool false) ∧ Below w.heap.size w w' := by
  have HP := Lib.hid hp
  have HN := Lib.hid hn
  clear hp hn
  go_enter Try.func27, Try.ntmps27
  go_wp2_with fail
  refine (last_any B0 g wd cl.town L v _ (HP.out.below ((Below.refl _ _).alloc (Nat.le_refl _) _)) hL).mono ?_
  rintro e w1 ⟨rfl, rfl⟩
  rw [HN.out]
  unfold lastN
  dsimp only
  have hb : Below w.heap.size w (w.alloc (.cells #[.int .i64 cl.town, .int .i64 cl.level, .int .i64 cl.number, .int .i64 cl.warden] 42)) := (Below.refl _ _).alloc (Nat.le_refl _) _
  have c : ∀ i, (w.alloc (.cells #[.int .i64 cl.town, .int .i64 cl.level, .int .i64 cl.number, .int .i64 cl.warden] 42)).drew.cell? ⟨g, i, none⟩ = #[.int .i64 wd, v][i]? := (HP.out.cells.below hb HP.out.cells.lt).cell
  have d : ∀ i, (w.alloc (.cells #[.int .i64 cl.town, .int .i64 cl.level, .int .i64 cl.number, .int .i64 cl.warden] 42)).drew.cell? ⟨w.heap.size, i, none⟩ = #[.int .i64 cl.town, .int .i64 cl.level, .int .i64 cl.number, .int .i64 cl.warden][i]? := (Bk.new w _ _).cell
  generalize w.alloc (.cells #[.int .i64 cl.town, .int .i64 cl.level, .int .i64 cl.number, .int .i64 cl.warden] 42) = wr at *
  have HB := Lib.hid hb
  clear hb
  go_wp2_with fail
  refine wp_region_head 35 (fun w' => w' = wr.drew) (by kernel_rfl) (by kernel_rfl) rfl ?_
  iterate 3 (refine chain_pure (by rfl) ?_; apply Exists.intro; apply And.intro; (case left => (intro w hSw; (try dsimp only at hSw); go_simp; try with_reducible rfl)); (try simp only [Act.put, List.setIfInBounds_toArray, List.set_cons_zero, List.set_cons_succ]))
  iterate 5 (refine chain_off (by rfl) ?_; (try simp only [Act.put, List.setIfInBounds_toArray, List.set_cons_zero, List.set_cons_succ]))
  iterate 2 (refine chain_pure (by rfl) ?_; apply Exists.intro; apply And.intro; (case left => (intro w hSw; (try dsimp only at hSw); go_simp; try with_reducible rfl)); (try simp only [Act.put, List.setIfInBounds_toArray, List.set_cons_zero, List.set_cons_succ]))
  iterate 9 (refine chain_off (by rfl) ?_; (try simp only [Act.put, List.setIfInBounds_toArray, List.set_cons_zero, List.set_cons_succ]))
  iterate 2 (refine chain_pure (by rfl) ?_; apply Exists.intro; apply And.intro; (case left => (intro w hSw; (try dsimp only at hSw); go_simp; try with_reducible rfl)); (try simp only [Act.put, List.setIfInBounds_toArray, List.set_cons_zero, List.set_cons_succ]))
  iterate 3 (refine chain_off (by rfl) ?_; (try simp only [Act.put, List.setIfInBounds_toArray, List.set_cons_zero, List.set_cons_succ]))
  iterate 2 (refine chain_pure (by rfl) ?_; apply Exists.intro; apply And.intro; (case left => (intro w hSw; (try dsimp only at hSw); go_simp; try with_reducible rfl)); (try simp only [Act.put, List.setIfInBounds_toArray, List.set_cons_zero, List.set_cons_succ]))
  iterate 7 (refine chain_off (by rfl) ?_; (try simp only [Act.put, List.setIfInBounds_toArray, List.set_cons_zero, List.set_cons_succ]))
  iterate 2 (refine chain_pure (by rfl) ?_; apply Exists.intro; apply And.intro; (case left => (intro w hSw; (try dsimp only at hSw); go_simp; try with_reducible rfl)); (try simp only [Act.put, List.setIfInBounds_toArray, List.set_cons_zero, List.set_cons_succ]))
  intro W hSW
  subst hSW
  go_wp2
  go_ret
  exact ⟨rfl, HB.out.drew⟩

set_option maxRecDepth 100000 in
set_option maxHeartbeats 1000000 in
theorem refAwaits_num (B0 g : Nat) (wd : Int) (cl : Cl) (L : List Ro) (v : Value) (w : World) (hp : RefP w B0 g wd L v) (hL : L.length ≤ 1000) (i : Nat) (hi : lastI L cl.town = some i) (lv u : Int) (fin : Bool) (hf : absF L cl.town = some ⟨lv, (i : Int) + 1, u, fin⟩) (hn : ((i : Int) == IntKind.i64.wrap (cl.number - 1)) = false) :
    Calls Try.prog 27 #[.pointer (some ⟨g, 0, none⟩), .agg #[.int .i64 cl.town, .int .i64 cl.level, .int .i64 cl.number, .int .i64 cl.warden]] w fun e w' =>
      e = .returned (.bool false) ∧ Below w.heap.size w w' := by
  obtain ⟨x, hx, hxt, hlt, hF⟩ := lastI_get hi
  have hs0 := Sl.of_own (sz := 4) (fun _ => rfl) (by decide) hp.own
  obtain ⟨A, cap, rfl, hsl⟩ := hs0
  obtain ⟨b, o, x', rfl, hbl, hx', hc⟩ := hsl.at_ hlt
  obtain rfl : x = x' := by rw [hx] at hx'; injection hx'
  have hcel : ∀ W', Below w.heap.size w W' → W'.cell? ⟨b, o + i * 4 + 3, none⟩ = some (.bool x.fin) := fun W' h => hc W' h 3 _ rfl
  have HC := Lib.hid hcel
  have HP := Lib.hid hp
  have HI := Lib.hid hi
  have hiL : (i : Int) < (L.length : Int) := by omega
  have hi0 : (0 : Int) ≤ (i : Int) := by omega
  have hfx : fin = x.fin := by rw [hf] at hF; injection hF with hF; injection hF
  clear hp hi hc hcel hx hx' hxt hF hf hsl
  go_enter Try.func27, Try.ntmps27
  go_wp2_with fail
  refine (last_any B0 g wd cl.town L (.slice (some ⟨b, o, none⟩) L.length cap) _ (HP.out.below ((Below.refl _ _).alloc (Nat.le_refl _) _)) hL).mono ?_
  rintro e w1 ⟨rfl, rfl⟩
  rw [HI.out]
  have e3 : (w.alloc (.cells #[.int .i64 cl.town, .int .i64 cl.level, .int .i64 cl.number, .int .i64 cl.warden] 42)).drew.cell? ⟨b, o + i * 4 + 3, none⟩ = some (.bool x.fin) := HC.out _ ((Below.refl _ _).alloc (Nat.le_refl _) _).drew
  unfold lastN
  dsimp only
  have hb : Below w.heap.size w (w.alloc (.cells #[.int .i64 cl.town, .int .i64 cl.level, .int .i64 cl.number, .int .i64 cl.warden] 42)) := (Below.refl _ _).alloc (Nat.le_refl _) _
  have c : ∀ i, (w.alloc (.cells #[.int .i64 cl.town, .int .i64 cl.level, .int .i64 cl.number, .int .i64 cl.warden] 42)).drew.cell? ⟨g, i, none⟩ = #[.int .i64 wd, .slice (some ⟨b, o, none⟩) L.length cap][i]? := (HP.out.cells.below hb HP.out.cells.lt).cell
  have d : ∀ i, (w.alloc (.cells #[.int .i64 cl.town, .int .i64 cl.level, .int .i64 cl.number, .int .i64 cl.warden] 42)).drew.cell? ⟨w.heap.size, i, none⟩ = #[.int .i64 cl.town, .int .i64 cl.level, .int .i64 cl.number, .int .i64 cl.warden][i]? := (Bk.new w _ _).cell
  generalize w.alloc (.cells #[.int .i64 cl.town, .int .i64 cl.level, .int .i64 cl.number, .int .i64 cl.warden] 42) = wr at *
  have HB := Lib.hid hb
  clear hb
  go_wp2_with fail
  refine wp_region_head 35 (fun w' => w' = wr.drew) (by kernel_rfl) (by kernel_rfl) rfl ?_
  iterate 10 (refine chain_pure (by rfl) ?_; apply Exists.intro; apply And.intro; (case left => (intro w hSw; (try dsimp only at hSw); go_simp; try with_reducible rfl)); (try simp only [Act.put, List.setIfInBounds_toArray, List.set_cons_zero, List.set_cons_succ]))
  iterate 9 (refine chain_off (by rfl) ?_; (try simp only [Act.put, List.setIfInBounds_toArray, List.set_cons_zero, List.set_cons_succ]))
  iterate 2 (refine chain_pure (by rfl) ?_; apply Exists.intro; apply And.intro; (case left => (intro w hSw; (try dsimp only at hSw); go_simp; try with_reducible rfl)); (try simp only [Act.put, List.setIfInBounds_toArray, List.set_cons_zero, List.set_cons_succ]))
  iterate 3 (refine chain_off (by rfl) ?_; (try simp only [Act.put, List.setIfInBounds_toArray, List.set_cons_zero, List.set_cons_succ]))
  iterate 2 (refine chain_pure (by rfl) ?_; apply Exists.intro; apply And.intro; (case left => (intro w hSw; (try dsimp only at hSw); go_simp; try with_reducible rfl)); (try simp only [Act.put, List.setIfInBounds_toArray, List.set_cons_zero, List.set_cons_succ]))
  iterate 7 (refine chain_off (by rfl) ?_; (try simp only [Act.put, List.setIfInBounds_toArray, List.set_cons_zero, List.set_cons_succ]))
  iterate 2 (refine chain_pure (by rfl) ?_; apply Exists.intro; apply And.intro; (case left => (intro w hSw; (try dsimp only at hSw); go_simp; try with_reducible rfl)); (try simp only [Act.put, List.setIfInBounds_toArray, List.set_cons_zero, List.set_cons_succ]))
  intro W hSW
  subst hSW
  go_wp2
  go_ret
  exact ⟨rfl, HB.out.drew⟩

set_option maxRecDepth 100000 in
set_option maxHeartbeats 1000000 in
theorem refAwaits_fin (B0 g : Nat) (wd : Int) (cl : Cl) (L : List Ro) (v : Value) (w : World) (hp : RefP w B0 g wd L v) (hL : L.length ≤ 1000) (i : Nat) (hi : lastI L cl.town = some i) (lv u : Int) (fin : Bool) (hf : absF L cl.town = some ⟨lv, (i : Int) + 1, u, fin⟩) (hn : ((i : Int) == IntKind.i64.wrap (cl.number - 1)) = true) (hfin : fin = true) :
    Calls Try.prog 27 #[.pointer (some ⟨g, 0, none⟩), .agg #[.int .i64 cl.town, .int .i64 cl.level, .int .i64 cl.number, .int .i64 cl.warden]] w fun e w' =>
      e = .returned (.bool false) ∧ Below w.heap.size w w' := by
  obtain ⟨x, hx, hxt, hlt, hF⟩ := lastI_get hi
  have hs0 := Sl.of_own (sz := 4) (fun _ => rfl) (by decide) hp.own
  obtain ⟨A, cap, rfl, hsl⟩ := hs0
  obtain ⟨b, o, x', rfl, hbl, hx', hc⟩ := hsl.at_ hlt
  obtain rfl : x = x' := by rw [hx] at hx'; injection hx'
  have hcel : ∀ W', Below w.heap.size w W' → W'.cell? ⟨b, o + i * 4 + 3, none⟩ = some (.bool x.fin) := fun W' h => hc W' h 3 _ rfl
  have HC := Lib.hid hcel
  have HP := Lib.hid hp
  have HI := Lib.hid hi
  have hiL : (i : Int) < (L.length : Int) := by omega
  have hi0 : (0 : Int) ≤ (i : Int) := by omega
  have hfx : fin = x.fin := by rw [hf] at hF; injection hF with hF; injection hF
  clear hp hi hc hcel hx hx' hxt hF hf hsl
  have hx3 : x.fin = true := by rw [← hfx]; exact hfin
  rw [hx3] at HC
  clear hfx hfin
  go_enter Try.func27, Try.ntmps27
  go_wp2_with fail
  refine (last_any B0 g wd cl.town L (.slice (some ⟨b, o, none⟩) L.length cap) _ (HP.out.below ((Below.refl _ _).alloc (Nat.le_refl _) _)) hL).mono ?_
  rintro e w1 ⟨rfl, rfl⟩
  rw [HI.out]
  have e3 : (w.alloc (.cells #[.int .i64 cl.town, .int .i64 cl.level, .int .i64 cl.number, .int .i64 cl.warden] 42)).drew.cell? ⟨b, o + i * 4 + 3, none⟩ = some (.bool true) := HC.out _ ((Below.refl _ _).alloc (Nat.le_refl _) _).drew
  unfold lastN
  dsimp only
  have hb : Below w.heap.size w (w.alloc (.cells #[.int .i64 cl.town, .int .i64 cl.level, .int .i64 cl.number, .int .i64 cl.warden] 42)) := (Below.refl _ _).alloc (Nat.le_refl _) _
  have c : ∀ i, (w.alloc (.cells #[.int .i64 cl.town, .int .i64 cl.level, .int .i64 cl.number, .int .i64 cl.warden] 42)).drew.cell? ⟨g, i, none⟩ = #[.int .i64 wd, .slice (some ⟨b, o, none⟩) L.length cap][i]? := (HP.out.cells.below hb HP.out.cells.lt).cell
  have d : ∀ i, (w.alloc (.cells #[.int .i64 cl.town, .int .i64 cl.level, .int .i64 cl.number, .int .i64 cl.warden] 42)).drew.cell? ⟨w.heap.size, i, none⟩ = #[.int .i64 cl.town, .int .i64 cl.level, .int .i64 cl.number, .int .i64 cl.warden][i]? := (Bk.new w _ _).cell
  generalize w.alloc (.cells #[.int .i64 cl.town, .int .i64 cl.level, .int .i64 cl.number, .int .i64 cl.warden] 42) = wr at *
  have HB := Lib.hid hb
  clear hb
  go_wp2_with fail
  refine wp_region_head 35 (fun w' => w' = wr.drew) (by kernel_rfl) (by kernel_rfl) rfl ?_
  iterate 21 (refine chain_pure (by rfl) ?_; apply Exists.intro; apply And.intro; (case left => (intro w hSw; (try dsimp only at hSw); go_simp; try with_reducible rfl)); (try simp only [Act.put, List.setIfInBounds_toArray, List.set_cons_zero, List.set_cons_succ]))
  iterate 3 (refine chain_off (by rfl) ?_; (try simp only [Act.put, List.setIfInBounds_toArray, List.set_cons_zero, List.set_cons_succ]))
  iterate 2 (refine chain_pure (by rfl) ?_; apply Exists.intro; apply And.intro; (case left => (intro w hSw; (try dsimp only at hSw); go_simp; try with_reducible rfl)); (try simp only [Act.put, List.setIfInBounds_toArray, List.set_cons_zero, List.set_cons_succ]))
  iterate 7 (refine chain_off (by rfl) ?_; (try simp only [Act.put, List.setIfInBounds_toArray, List.set_cons_zero, List.set_cons_succ]))
  iterate 2 (refine chain_pure (by rfl) ?_; apply Exists.intro; apply And.intro; (case left => (intro w hSw; (try dsimp only at hSw); go_simp; try with_reducible rfl)); (try simp only [Act.put, List.setIfInBounds_toArray, List.set_cons_zero, List.set_cons_succ]))
  intro W hSW
  subst hSW
  go_wp2
  go_ret
  exact ⟨rfl, HB.out.drew⟩

set_option maxRecDepth 100000 in
set_option maxHeartbeats 1000000 in
theorem refAwaits_neg (B0 g : Nat) (wd : Int) (cl : Cl) (L : List Ro) (v : Value) (w : World) (hp : RefP w B0 g wd L v) (hL : L.length ≤ 1000) (i : Nat) (hi : lastI L cl.town = some i) (lv u : Int) (fin : Bool) (hf : absF L cl.town = some ⟨lv, (i : Int) + 1, u, fin⟩) (hn : ((i : Int) == IntKind.i64.wrap (cl.number - 1)) = true) (hfin : fin = false) (hw : decide (0 ≤ cl.warden) = false) :
    Calls Try.prog 27 #[.pointer (some ⟨g, 0, none⟩), .agg #[.int .i64 cl.town, .int .i64 cl.level, .int .i64 cl.number, .int .i64 cl.warden]] w fun e w' =>
      e = .returned (.bool false) ∧ Below w.heap.size w w' := by
  obtain ⟨x, hx, hxt, hlt, hF⟩ := lastI_get hi
  have hs0 := Sl.of_own (sz := 4) (fun _ => rfl) (by decide) hp.own
  obtain ⟨A, cap, rfl, hsl⟩ := hs0
  obtain ⟨b, o, x', rfl, hbl, hx', hc⟩ := hsl.at_ hlt
  obtain rfl : x = x' := by rw [hx] at hx'; injection hx'
  have hcel : ∀ W', Below w.heap.size w W' → W'.cell? ⟨b, o + i * 4 + 3, none⟩ = some (.bool x.fin) := fun W' h => hc W' h 3 _ rfl
  have HC := Lib.hid hcel
  have HP := Lib.hid hp
  have HI := Lib.hid hi
  have hiL : (i : Int) < (L.length : Int) := by omega
  have hi0 : (0 : Int) ≤ (i : Int) := by omega
  have hfx : fin = x.fin := by rw [hf] at hF; injection hF with hF; injection hF
  clear hp hi hc hcel hx hx' hxt hF hf hsl
  have hx3 : x.fin = false := by rw [← hfx]; exact hfin
  rw [hx3] at HC
  clear hfx hfin
  go_enter Try.func27, Try.ntmps27
  go_wp2_with fail
  refine (last_any B0 g wd cl.town L (.slice (some ⟨b, o, none⟩) L.length cap) _ (HP.out.below ((Below.refl _ _).alloc (Nat.le_refl _) _)) hL).mono ?_
  rintro e w1 ⟨rfl, rfl⟩
  rw [HI.out]
  have e3 : (w.alloc (.cells #[.int .i64 cl.town, .int .i64 cl.level, .int .i64 cl.number, .int .i64 cl.warden] 42)).drew.cell? ⟨b, o + i * 4 + 3, none⟩ = some (.bool false) := HC.out _ ((Below.refl _ _).alloc (Nat.le_refl _) _).drew
  unfold lastN
  dsimp only
  have hb : Below w.heap.size w (w.alloc (.cells #[.int .i64 cl.town, .int .i64 cl.level, .int .i64 cl.number, .int .i64 cl.warden] 42)) := (Below.refl _ _).alloc (Nat.le_refl _) _
  have c : ∀ i, (w.alloc (.cells #[.int .i64 cl.town, .int .i64 cl.level, .int .i64 cl.number, .int .i64 cl.warden] 42)).drew.cell? ⟨g, i, none⟩ = #[.int .i64 wd, .slice (some ⟨b, o, none⟩) L.length cap][i]? := (HP.out.cells.below hb HP.out.cells.lt).cell
  have d : ∀ i, (w.alloc (.cells #[.int .i64 cl.town, .int .i64 cl.level, .int .i64 cl.number, .int .i64 cl.warden] 42)).drew.cell? ⟨w.heap.size, i, none⟩ = #[.int .i64 cl.town, .int .i64 cl.level, .int .i64 cl.number, .int .i64 cl.warden][i]? := (Bk.new w _ _).cell
  generalize w.alloc (.cells #[.int .i64 cl.town, .int .i64 cl.level, .int .i64 cl.number, .int .i64 cl.warden] 42) = wr at *
  have HB := Lib.hid hb
  clear hb
  go_wp2_with fail
  refine wp_region_head 35 (fun w' => w' = wr.drew) (by kernel_rfl) (by kernel_rfl) rfl ?_
  iterate 26 (refine chain_pure (by rfl) ?_; apply Exists.intro; apply And.intro; (case left => (intro w hSw; (try dsimp only at hSw); go_simp; try with_reducible rfl)); (try simp only [Act.put, List.setIfInBounds_toArray, List.set_cons_zero, List.set_cons_succ]))
  iterate 7 (refine chain_off (by rfl) ?_; (try simp only [Act.put, List.setIfInBounds_toArray, List.set_cons_zero, List.set_cons_succ]))
  iterate 2 (refine chain_pure (by rfl) ?_; apply Exists.intro; apply And.intro; (case left => (intro w hSw; (try dsimp only at hSw); go_simp; try with_reducible rfl)); (try simp only [Act.put, List.setIfInBounds_toArray, List.set_cons_zero, List.set_cons_succ]))
  intro W hSW
  subst hSW
  go_wp2
  go_ret
  exact ⟨rfl, HB.out.drew⟩

set_option maxRecDepth 100000 in
set_option maxHeartbeats 1000000 in
theorem refAwaits_last (B0 g : Nat) (wd : Int) (cl : Cl) (L : List Ro) (v : Value) (w : World) (hp : RefP w B0 g wd L v) (hL : L.length ≤ 1000) (i : Nat) (hi : lastI L cl.town = some i) (lv u : Int) (fin : Bool) (hf : absF L cl.town = some ⟨lv, (i : Int) + 1, u, fin⟩) (hn : ((i : Int) == IntKind.i64.wrap (cl.number - 1)) = true) (hfin : fin = false) (hw : decide (0 ≤ cl.warden) = true) :
    Calls Try.prog 27 #[.pointer (some ⟨g, 0, none⟩), .agg #[.int .i64 cl.town, .int .i64 cl.level, .int .i64 cl.number, .int .i64 cl.warden]] w fun e w' =>
      e = .returned (.bool (decide (cl.warden < wd))) ∧ Below w.heap.size w w' := by
  obtain ⟨x, hx, hxt, hlt, hF⟩ := lastI_get hi
  have hs0 := Sl.of_own (sz := 4) (fun _ => rfl) (by decide) hp.own
  obtain ⟨A, cap, rfl, hsl⟩ := hs0
  obtain ⟨b, o, x', rfl, hbl, hx', hc⟩ := hsl.at_ hlt
  obtain rfl : x = x' := by rw [hx] at hx'; injection hx'
  have hcel : ∀ W', Below w.heap.size w W' → W'.cell? ⟨b, o + i * 4 + 3, none⟩ = some (.bool x.fin) := fun W' h => hc W' h 3 _ rfl
  have HC := Lib.hid hcel
  have HP := Lib.hid hp
  have HI := Lib.hid hi
  have hiL : (i : Int) < (L.length : Int) := by omega
  have hi0 : (0 : Int) ≤ (i : Int) := by omega
  have hfx : fin = x.fin := by rw [hf] at hF; injection hF with hF; injection hF
  clear hp hi hc hcel hx hx' hxt hF hf hsl
  have hx3 : x.fin = false := by rw [← hfx]; exact hfin
  rw [hx3] at HC
  clear hfx hfin
  go_enter Try.func27, Try.ntmps27
  go_wp2_with fail
  refine (last_any B0 g wd cl.town L (.slice (some ⟨b, o, none⟩) L.length cap) _ (HP.out.below ((Below.refl _ _).alloc (Nat.le_refl _) _)) hL).mono ?_
  rintro e w1 ⟨rfl, rfl⟩
  rw [HI.out]
  have e3 : (w.alloc (.cells #[.int .i64 cl.town, .int .i64 cl.level, .int .i64 cl.number, .int .i64 cl.warden] 42)).drew.cell? ⟨b, o + i * 4 + 3, none⟩ = some (.bool false) := HC.out _ ((Below.refl _ _).alloc (Nat.le_refl _) _).drew
  unfold lastN
  dsimp only
  have hb : Below w.heap.size w (w.alloc (.cells #[.int .i64 cl.town, .int .i64 cl.level, .int .i64 cl.number, .int .i64 cl.warden] 42)) := (Below.refl _ _).alloc (Nat.le_refl _) _
  have c : ∀ i, (w.alloc (.cells #[.int .i64 cl.town, .int .i64 cl.level, .int .i64 cl.number, .int .i64 cl.warden] 42)).drew.cell? ⟨g, i, none⟩ = #[.int .i64 wd, .slice (some ⟨b, o, none⟩) L.length cap][i]? := (HP.out.cells.below hb HP.out.cells.lt).cell
  have d : ∀ i, (w.alloc (.cells #[.int .i64 cl.town, .int .i64 cl.level, .int .i64 cl.number, .int .i64 cl.warden] 42)).drew.cell? ⟨w.heap.size, i, none⟩ = #[.int .i64 cl.town, .int .i64 cl.level, .int .i64 cl.number, .int .i64 cl.warden][i]? := (Bk.new w _ _).cell
  generalize w.alloc (.cells #[.int .i64 cl.town, .int .i64 cl.level, .int .i64 cl.number, .int .i64 cl.warden] 42) = wr at *
  have HB := Lib.hid hb
  clear hb
  go_wp2_with fail
  refine wp_region_head 35 (fun w' => w' = wr.drew) (by kernel_rfl) (by kernel_rfl) rfl ?_
  iterate 35 (refine chain_pure (by rfl) ?_; apply Exists.intro; apply And.intro; (case left => (intro w hSw; (try dsimp only at hSw); go_simp; try with_reducible rfl)); (try simp only [Act.put, List.setIfInBounds_toArray, List.set_cons_zero, List.set_cons_succ]))
  intro W hSW
  subst hSW
  go_wp2
  go_ret
  exact ⟨rfl, HB.out.drew⟩

theorem wrap_num {i : Nat} {number : Int} (hi : i ≤ 1000) (hb : -9223372036854775808 ≤ number ∧ number ≤ 9223372036854775807) : ((i : Int) == IntKind.i64.wrap (number - 1)) = ((i : Int) + 1 == number) := by
  rw [Bool.eq_iff_iff, beq_iff_eq, beq_iff_eq]
  by_cases h : number = -9223372036854775808
  · subst h
    have e : IntKind.i64.wrap (-9223372036854775808 - 1) = 9223372036854775807 := by decide +kernel
    rw [e]
    omega
  · rw [IntWalk.i64_in _ (by omega)]
    omega

theorem refAwaits_any (B0 g : Nat) (wd : Int) (cl : Cl) (L : List Ro) (v : Value) (w : World) (hp : RefP w B0 g wd L v) (hL : L.length ≤ 1000) (hb : -9223372036854775808 ≤ cl.number ∧ cl.number ≤ 9223372036854775807) :
    Calls Try.prog 27 #[.pointer (some ⟨g, 0, none⟩), .agg #[.int .i64 cl.town, .int .i64 cl.level, .int .i64 cl.number, .int .i64 cl.warden]] w fun e w' =>
      e = .returned (.bool (awaitsB (absF L) wd cl.town cl.number cl.warden)) ∧ Below w.heap.size w w' := by
  unfold awaitsB
  cases hi : lastI L cl.town with
  | none =>
    rw [lastI_none hi]
    exact refAwaits_none B0 g wd cl L v w hp hL hi
  | some i =>
    obtain ⟨x, hx, _, hlt, hF⟩ := lastI_get hi
    rw [hF]
    have hw := wrap_num (i := i) (number := cl.number) (by omega) hb
    simp only
    rw [← hw]
    cases hn : ((i : Int) == IntKind.i64.wrap (cl.number - 1)) with
    | false => simpa using refAwaits_num B0 g wd cl L v w hp hL i hi _ _ _ hF hn
    | true =>
      cases hfin : x.fin with
      | true => simpa using refAwaits_fin B0 g wd cl L v w hp hL i hi _ _ _ hF hn hfin
      | false =>
        cases hw0 : decide (0 ≤ cl.warden) with
        | false => simpa using refAwaits_neg B0 g wd cl L v w hp hL i hi _ _ _ hF hn hfin hw0
        | true => simpa using refAwaits_last B0 g wd cl L v w hp hL i hi _ _ _ hF hn hfin hw0

end Go.Proofs.Ytlhaoiplbebgnaa
