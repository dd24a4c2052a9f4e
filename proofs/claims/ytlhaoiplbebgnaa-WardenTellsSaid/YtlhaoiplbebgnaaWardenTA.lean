/- The walks of the reference of layer 44: Ack. -/
import Derived.Test.YtlhaoiplbebgnaaWardenT
import Derived.Laws.OwnMore
import Derived.Test.YtlhaoiplbebgnaaRegionM
set_option linter.unusedSimpArgs false
set_option linter.unusedVariables false
namespace Go.Proofs.Ytlhaoiplbebgnaa
open Go.RowKit

set_option maxRecDepth 100000 in
set_option maxHeartbeats 1000000 in
theorem refAck_no (B0 g : Nat) (wd : Int) (cl : Cl) (L : List Ro) (v : Value) (w : World) (hp : RefP w B0 g wd L v) (hL : L.length ≤ 1000) (hb : -9223372036854775808 ≤ cl.number ∧ cl.number ≤ 9223372036854775807) (hno : awaitsB (absF L) wd cl.town cl.number cl.warden = false) :
    Calls Try.prog 25 #[.pointer (some ⟨g, 0, none⟩), .agg #[.int .i64 cl.town, .int .i64 cl.level, .int .i64 cl.number, .int .i64 cl.warden]] w fun e w' =>
      e = .returned (.bool false) ∧ Below w.heap.size w w' := by
  have HP := Lib.hid hp
  have HN := Lib.hid hno
  have HB := Lib.hid hb
  clear hp hno hb
  go_enter Try.func25, Try.ntmps25
  go_wp2_with fail
  refine (refAwaits_any B0 g wd cl L v _ (HP.out.below ((Below.refl _ _).alloc (Nat.le_refl _) _)) hL HB.out).mono ?_
  rintro e w1 ⟨rfl, hb1⟩
  rw [HN.out]
  go_wp2
  go_ret
  exact ⟨rfl, ((Below.refl _ _).alloc (Nat.le_refl _) _).trans (hb1.mono (by simp))⟩

set_option maxRecDepth 100000 in
set_option maxHeartbeats 1000000 in
theorem refAck_yes (B0 g : Nat) (wd : Int) (cl : Cl) (L : List Ro) (v : Value) (w : World) (hp : RefP w B0 g wd L v) (hL : L.length ≤ 1000) (hb : -9223372036854775808 ≤ cl.number ∧ cl.number ≤ 9223372036854775807) (i : Nat) (hi : lastI L cl.town = some i) (hyes : awaitsB (absF L) wd cl.town cl.number cl.warden = true) :
    Calls Try.prog 25 #[.pointer (some ⟨g, 0, none⟩), .agg #[.int .i64 cl.town, .int .i64 cl.level, .int .i64 cl.number, .int .i64 cl.warden]] w fun e w' =>
      e = .returned (.bool true) ∧ RCh w w' g v ∧ RefP w' B0 g wd (ackR L i) v := by
  obtain ⟨x, hx, hxt, hlt, hF⟩ := lastI_get hi
  have HP := Lib.hid hp
  have HN := Lib.hid hyes
  have HB := Lib.hid hb
  have HI := Lib.hid hi
  have HX := Lib.hid hx
  clear hp hyes hb hi hx hxt hF
  have hn0 : v ≠ .slice none 0 0 := by
    intro h0
    rcases HP.out.own.2 with ⟨_, h1⟩ | ⟨_, _, _, h1, _⟩
    · omega
    · rw [h0] at h1; cases h1
  obtain ⟨gb, cap, rfl⟩ : ∃ gb cap, v = .slice (some ⟨gb, 0, none⟩) L.length cap := by
    rcases HP.out.own.2 with ⟨h1, _⟩ | ⟨gb, cap, cur, hv, _⟩
    · exact absurd h1 hn0
    · exact ⟨gb, cap, hv⟩
  clear hn0
  have hgl := HP.out.cells.lt
  have hgb := (HP.out.own.lt gb rfl).2
  have hne : gb ≠ g := fun e => own_bk_ne HP.out.own HP.out.cells (by decide) (by rw [e]; rfl)
  go_enter Try.func25, Try.ntmps25
  go_wp2_with fail
  refine (refAwaits_any B0 g wd cl L _ _ (HP.out.below ((Below.refl _ _).alloc (Nat.le_refl _) _)) hL HB.out).mono ?_
  rintro e w1 ⟨rfl, hb1⟩
  rw [HN.out]
  have hbW : Below w.heap.size w w1 := ((Below.refl _ _).alloc (Nat.le_refl _) _).trans (hb1.mono (by simp))
  have hC1 := (Bk.new w 42 #[.int .i64 cl.town, .int .i64 cl.level, .int .i64 cl.number, .int .i64 cl.warden]).below hb1 (by simp)
  have hp1 := HP.out.below hbW
  have HP1 := Lib.hid hp1
  have HBW := Lib.hid hbW
  have c : ∀ i, w1.drew.cell? ⟨g, i, none⟩ = #[.int .i64 wd, .slice (some ⟨gb, 0, none⟩) L.length cap][i]? := hp1.cells.cell
  have d : ∀ i, w1.drew.cell? ⟨w.heap.size, i, none⟩ = #[.int .i64 cl.town, .int .i64 cl.level, .int .i64 cl.number, .int .i64 cl.warden][i]? := hC1.cell
  have hLi : (L.flatMap roC)[i * 4 + 3]? = some (.bool x.fin) := flatMap_get roC 4 (fun _ => rfl) L i x HX.out 3 _ rfl
  have f3 : w1.drew.cell? ⟨gb, i * 4 + 3, none⟩ = some (.bool x.fin) := by
    have := hp1.own.cellAt (i * 4 + 3) (by omega)
    rw [hLi] at this
    exact this
  have z3 : w1.drew.frozen? ⟨gb, i * 4 + 3, none⟩ = false := hp1.own.frozenAt (i * 4 + 3)
  have HLI := Lib.hid hLi
  have hiL : (i : Int) < (L.length : Int) := by omega
  have hi0 : (0 : Int) ≤ (i : Int) := by omega
  have HC := Lib.hid hC1
  clear hp1 hb1 hC1 hLi hbW
  go_wp2_with fail
  refine wp_region_M [0, 1, 2, 3, 4, 5, 6, 7, 8, 9, 10] [7, 10] (fun w' => (∀ i, w'.cell? ⟨g, i, none⟩ = #[.int .i64 wd, .slice (some ⟨gb, 0, none⟩) L.length cap][i]?) ∧ ∀ i, w'.cell? ⟨w.heap.size, i, none⟩ = #[.int .i64 cl.town, .int .i64 cl.level, .int .i64 cl.number, .int .i64 cl.warden][i]?) (by kernel_rfl) (by kernel_rfl) ⟨c, d⟩ ?_
  iterate 7 (refine M_pure (by rfl) (by rfl) ?_; apply Exists.intro; apply And.intro; (case left => (intro w hSw; (try dsimp only at hSw); go_simp; try with_reducible rfl)); (try simp only [Act.put, List.setIfInBounds_toArray, List.set_cons_zero, List.set_cons_succ]))
  (refine M_call (by rfl) (by rfl) ?_; apply Exists.intro; apply Exists.intro; apply And.intro; (case left => (go_simp; exact ⟨rfl, rfl⟩)))
  refine (last_any B0 g wd cl.town L (.slice (some ⟨gb, 0, none⟩) L.length cap) _ (HP1.out.below (Below.refl _ _).drew) hL).mono ?_
  rintro e w' ⟨rfl, rfl⟩
  rw [HI.out]
  refine ⟨_, rfl, ⟨c, d⟩, ?_⟩
  unfold lastN
  dsimp only
  (try simp only [Act.put, List.setIfInBounds_toArray, List.set_cons_zero, List.set_cons_succ])
  iterate 2 (refine M_pure (by rfl) (by rfl) ?_; apply Exists.intro; apply And.intro; (case left => (intro w hSw; (try dsimp only at hSw); go_simp; try with_reducible rfl)); (try simp only [Act.put, List.setIfInBounds_toArray, List.set_cons_zero, List.set_cons_succ]))
  refine M_store (by rfl) (by rfl) ?_
  refine ⟨w1.drew.setCell ⟨gb, i * 4 + 3, none⟩ (.bool true), (by go_simp), ⟨?_, ?_⟩, ?_⟩
  · exact (Bk.far (t := 72) (HP1.out.cells.drew) (Ne.symm hne) _).cell
  · exact (Bk.far (HC.out.drew) (by show w.heap.size ≠ gb; omega) _).cell
  (try simp only [Act.put, List.setIfInBounds_toArray, List.set_cons_zero, List.set_cons_succ])
  refine M_nil ?_
  try dsimp only
  have h3 : Hid (∀ w', w' = w1.drew.setCell ⟨gb, i * 4 + 3, none⟩ (.bool true) → RCh w w' g (.slice (some ⟨gb, 0, none⟩) L.length cap) ∧ RefP w' B0 g wd (ackR L i) (.slice (some ⟨gb, 0, none⟩) L.length cap)) := by
    intro w' hw'
    subst hw'
    have hb := HBW.out
    refine ⟨⟨hb.os, hb.tape, hb.output, by simpa [World.setCell] using hb.size, fun j hj h1 h2 => ?_⟩, ?_, ?_⟩
    · exact (Below.heap_setCell _ _ _ _ (fun e => h2 (by rw [e]; rfl))).trans (hb.block j hj)
    · exact (Below.heap_setCell _ _ _ _ (Ne.symm hne)).trans HP1.out.cells
    · rw [ackR_len, ackR_eq HX.out, own_set4 HX.out]
      exact ((HP1.out.own.drew).stored (i * 4 + 3) (.bool true)).1
  generalize w1.drew.setCell ⟨gb, i * 4 + 3, none⟩ (.bool true) = w3 at *
  clear c d f3 z3
  go_wp2
  go_ret
  exact ⟨rfl, h3.out w3 rfl⟩

theorem refAck_any (B0 g : Nat) (wd : Int) (cl : Cl) (L : List Ro) (v : Value) (w : World) (hp : RefP w B0 g wd L v) (hL : L.length ≤ 1000) (hb : -9223372036854775808 ≤ cl.number ∧ cl.number ≤ 9223372036854775807) :
    Calls Try.prog 25 #[.pointer (some ⟨g, 0, none⟩), .agg #[.int .i64 cl.town, .int .i64 cl.level, .int .i64 cl.number, .int .i64 cl.warden]] w fun e w' =>
      e = .returned (.bool (awaitsB (absF L) wd cl.town cl.number cl.warden)) ∧ RCh w w' g v ∧ ∃ L', RefP w' B0 g wd L' v ∧ absS L' = ackS wd (absS L) cl ∧ L'.length = L.length := by
  cases ha : awaitsB (absF L) wd cl.town cl.number cl.warden with
  | false =>
    have hs : ackS wd (absS L) cl = absS L := by
      unfold ackS
      split
      · rw [if_neg (by show ¬ awaitsB (absF L) _ _ _ _ = true; rw [ha]; simp)]
      · rfl
    exact (refAck_no B0 g wd cl L v w hp hL hb ha).mono fun e w' ⟨he, hb⟩ => ⟨he, RCh.of_below hb, L, hp.below hb, hs.symm, rfl⟩
  | true =>
    cases hi : lastI L cl.town with
    | none =>
      unfold awaitsB at ha
      rw [lastI_none hi] at ha
      cases ha
    | some i =>
      exact (refAck_yes B0 g wd cl L v w hp hL hb i hi ha).mono fun e w' ⟨he, hr, hq⟩ => ⟨he, hr, _, hq, abs_ack hi ha, ackR_len L i⟩

end Go.Proofs.Ytlhaoiplbebgnaa
