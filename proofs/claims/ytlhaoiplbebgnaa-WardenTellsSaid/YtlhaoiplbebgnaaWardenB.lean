/- The walks of package warden: Ack, Open, Due. -/
import Derived.Test.YtlhaoiplbebgnaaWardenA
set_option linter.unusedSimpArgs false
set_option linter.unusedVariables false
namespace Go.Proofs.Ytlhaoiplbebgnaa
open Go.RowKit

set_option maxRecDepth 100000 in
set_option maxHeartbeats 400000 in
theorem ack_no (g b : Nat) (wd many town level number warden : Int) (F : Int → Option Od) (w : World) (hp : PostR w g b wd many F) (hno : awaitsB F wd town number warden = false) :
    Calls Try.prog 24 #[.pointer (some ⟨g, 0, none⟩), .agg #[.int .i64 town, .int .i64 level, .int .i64 number, .int .i64 warden]] w fun e w' =>
      e = .returned (.bool false) ∧ Below w.heap.size w w' := by
  have hA := awaits_any g b wd many town level number warden F
  have HA := Lib.hid hA
  have HP := Lib.hid hp
  have hlt := hp.cells.lt
  have hlm := hp.map.lt
  clear hA hp
  go_enter Try.func24, Try.ntmps24
  go_wp2_with fail
  refine (HA.out _ (HP.out.below ((Below.refl _ _).alloc (Nat.le_refl _) (.cells #[.int .i64 town, .int .i64 level, .int .i64 number, .int .i64 warden] 42)) hlt hlm)).mono ?_
  rintro e W1 ⟨rfl, hb1⟩
  have hbW : Below w.heap.size w W1 := ((Below.refl _ _).alloc (Nat.le_refl _) _).trans (hb1.mono (by simp))
  have hp1 := HP.out.below hbW hlt hlm
  have hC1 := (Bk.new w 42 #[.int .i64 town, .int .i64 level, .int .i64 number, .int .i64 warden]).below hb1 (by simp)
  have hz1 : w.heap.size < W1.heap.size := hC1.lt
  clear hb1
  rw [hno]
  go_wp2
  go_ret
  exact ⟨rfl, hbW⟩

set_option maxRecDepth 100000 in
set_option maxHeartbeats 400000 in
theorem ack_yes (g b : Nat) (wd many town level number warden : Int) (F : Int → Option Od) (w : World) (hp : PostR w g b wd many F) (o : Od) (hF : F town = some o) (hyes : awaitsB F wd town number warden = true) :
    Calls Try.prog 24 #[.pointer (some ⟨g, 0, none⟩), .agg #[.int .i64 town, .int .i64 level, .int .i64 number, .int .i64 warden]] w fun e w' =>
      e = .returned (.bool true) ∧ Only2 w w' g b ∧ PostR w' g b wd many (fun k => if k = town then some ⟨o.level, o.number, o.hour, true⟩ else F k) := by
  have HF := Lib.hid hF
  clear hF
  have hA := awaits_any g b wd many town level number warden F
  have HA := Lib.hid hA
  have HP := Lib.hid hp
  have hlt := hp.cells.lt
  have hlm := hp.map.lt
  clear hA hp
  go_enter Try.func24, Try.ntmps24
  go_wp2_with fail
  refine (HA.out _ (HP.out.below ((Below.refl _ _).alloc (Nat.le_refl _) (.cells #[.int .i64 town, .int .i64 level, .int .i64 number, .int .i64 warden] 42)) hlt hlm)).mono ?_
  rintro e W1 ⟨rfl, hb1⟩
  have hbW : Below w.heap.size w W1 := ((Below.refl _ _).alloc (Nat.le_refl _) _).trans (hb1.mono (by simp))
  have hp1 := HP.out.below hbW hlt hlm
  have hC1 := (Bk.new w 42 #[.int .i64 town, .int .i64 level, .int .i64 number, .int .i64 warden]).below hb1 (by simp)
  have hz1 : w.heap.size < W1.heap.size := hC1.lt
  clear hb1
  rw [hyes]
  obtain ⟨Wn, hw0, hw1, hw2⟩ : ∃ Wn : Nat → World, Wn 0 = W1.drew ∧ Wn 1 = W1.drew.alloc (.cells #[.int .i64 0, .int .i64 0, .int .i64 0, .bool false] 74) ∧ ∀ n, Wn (n + 2) = W1.drew.alloc (.cells #[.int .i64 o.level, .int .i64 o.number, .int .i64 o.hour, .bool o.fin] 74) :=
    ⟨fun n => match n with
      | 0 => W1.drew
      | 1 => W1.drew.alloc (.cells #[.int .i64 0, .int .i64 0, .int .i64 0, .bool false] 74)
      | _ => W1.drew.alloc (.cells #[.int .i64 o.level, .int .i64 o.number, .int .i64 o.hour, .bool o.fin] 74), rfl, rfl, fun _ => rfl⟩
  have hbn : ∀ n, Below W1.heap.size W1 (Wn n) := fun n => match n with
    | 0 => by rw [hw0]; exact (Below.refl _ _).drew
    | 1 => by rw [hw1]; exact ((Below.refl _ _).drew).alloc (Nat.le_refl _) _
    | n + 2 => by rw [hw2]; exact ((Below.refl _ _).drew).alloc (Nat.le_refl _) _
  have hlk : ∀ n, (Instr.lookup 67 (.map (some b)) (.int .i64 town) false).run Try.prog (Wn n) = .ok (.agg #[.int .i64 o.level, .int .i64 o.number, .int .i64 o.hour, .bool o.fin]) (Wn n) := fun n => by
    have := (hp1.map.below (hbn n) hp1.map.lt).run_lookup (P := Try.prog) (t := 67) Try.underlying67 Try.underlying3 (zero_od _) town false
    simp only [HF.out] at this
    exact this
  have c : ∀ n i, (Wn n).cell? ⟨g, i, none⟩ = #[.int .i64 wd, .int .i64 many, .map (some b)][i]? := fun n => (hp1.cells.below (hbn n) hp1.cells.lt).cell
  have d : ∀ n i, (Wn n).cell? ⟨w.heap.size, i, none⟩ = #[.int .i64 town, .int .i64 level, .int .i64 number, .int .i64 warden][i]? := fun n => (hC1.below (hbn n) hC1.lt).cell
  have H0 := Lib.hid hw0
  have H1 := Lib.hid hw1
  have H2 := Lib.hid hw2
  clear hw0 hw1 hw2
  go_wp2_with fail
  refine wp_region_headA 9 [7, 8] (fun n w' => w' = Wn n) (by kernel_rfl) (by kernel_rfl) (by kernel_rfl) H0.out.symm ?_
  iterate 7 (refine chain_pureA (by decide) (by rfl) ?_; apply Exists.intro; apply And.intro; (case left => (intro β w hSw; (try dsimp only at hSw); go_simp; try with_reducible rfl)); (try simp only [Act.put, List.setIfInBounds_toArray, List.set_cons_zero, List.set_cons_succ]))
  refine chain_turnA (by decide) (by rfl) ⟨.pointer (some ⟨W1.heap.size, 0, none⟩), (fun w hSw => ?_), ?_⟩
  · change w = Wn 0 at hSw
    subst hSw
    refine ⟨Wn 1, ?_, rfl⟩
    rw [H0.out, H1.out]
    go_simp
  (try simp only [Act.put, List.setIfInBounds_toArray, List.set_cons_zero, List.set_cons_succ])
  refine chain_storeA (by decide) (by rfl) (fun w hSw => ?_) ?_
  · change w = Wn 1 at hSw
    subst hSw
    refine ⟨Wn 2, ?_, rfl⟩
    rw [H1.out, H2.out 0]
    go_simp
  (try simp only [Act.put, List.setIfInBounds_toArray, List.set_cons_zero, List.set_cons_succ])
  intro W hSW
  change W = Wn 2 at hSW
  subst hSW
  have hO2 : Bk (Wn 2) W1.heap.size 74 #[.int .i64 o.level, .int .i64 o.number, .int .i64 o.hour, .bool o.fin] := by rw [H2.out 0]; exact Bk.new W1.drew _ _
  have o' : ∀ i, (Wn 2).cell? ⟨W1.heap.size, i, none⟩ = #[.int .i64 o.level, .int .i64 o.number, .int .i64 o.hour, .bool o.fin][i]? := hO2.cell
  have of' : ∀ i, (Wn 2).frozen? ⟨W1.heap.size, i, none⟩ = false := hO2.frozen
  go_wp2_with fail
  have hb3 : Below W1.heap.size W1 ((Wn 2).setCell ⟨W1.heap.size, 3, none⟩ (.bool true)) := (hbn 2).setCell (Nat.le_refl _) _
  have hO3 := hO2.set_ 3 (.bool true)
  generalize (Wn 2).setCell ⟨W1.heap.size, 3, none⟩ (.bool true) = W3 at *
  clear c d o' of'
  have hp3 := hp1.below hb3 hp1.cells.lt hp1.map.lt
  have c : ∀ i, W3.cell? ⟨g, i, none⟩ = #[.int .i64 wd, .int .i64 many, .map (some b)][i]? := hp3.cells.cell
  have d : ∀ i, W3.cell? ⟨w.heap.size, i, none⟩ = #[.int .i64 town, .int .i64 level, .int .i64 number, .int .i64 warden][i]? := (hC1.below hb3 hC1.lt).cell
  have o' : ∀ i, W3.cell? ⟨W1.heap.size, i, none⟩ = #[.int .i64 o.level, .int .i64 o.number, .int .i64 o.hour, .bool true][i]? := hO3.cell
  obtain ⟨w2, hup, hput⟩ := (show Mp W3.drew b _ from hp3.map).run_update (P := Try.prog) (t := 67) Try.underlying67 Try.underlying3 town (odV ⟨o.level, o.number, o.hour, true⟩)
  unfold odV at hup
  dsimp only at hup
  have HU := Lib.hid hup
  clear hup hlk
  refine wp_region_head 7 (fun w' => w' = W3.drew) (by kernel_rfl) (by kernel_rfl) rfl ?_
  iterate 7 (refine chain_pure (by rfl) ?_; apply Exists.intro; apply And.intro; (case left => (intro w hSw; (try dsimp only at hSw); go_simp; try with_reducible rfl)); (try simp only [Act.put, List.setIfInBounds_toArray, List.set_cons_zero, List.set_cons_succ]))
  intro W hSW
  subst hSW
  have hup := HU.out
  go_wp2
  go_ret
  have hbW3 : Below w.heap.size w W3 := hbW.trans (hb3.mono (by omega))
  refine ⟨rfl, ⟨hput.os.trans hbW3.os, hput.tape.trans hbW3.tape, hput.output.trans hbW3.output, Nat.le_trans hbW3.size (Nat.le_of_eq hput.size.symm), fun j hj h1 h2 => (hput.block j h2).trans (hbW3.block j hj)⟩, (hput.block g hp3.ne_).trans hp3.cells, ?_, hp3.ne_⟩
  have hfun : (putF (fun k => (F k).map odV) town (odV ⟨o.level, o.number, o.hour, true⟩)) = fun k => ((if k = town then some (⟨o.level, o.number, o.hour, true⟩ : Od) else F k)).map odV := by
    funext k
    unfold putF
    split <;> simp
  rw [← hfun]
  exact hput.map

end Go.Proofs.Ytlhaoiplbebgnaa
