/- The walks of the reference of layer 3: right, g. -/
import Derived.Test.YtnfpahanbnidpaaDoorDigE
set_option linter.unusedSimpArgs false
set_option linter.unusedVariables false
namespace Go.Proofs.YtnfpahanbnidpaaDoor
open Go.RowKit

set_option maxHeartbeats 2000000 in
set_option maxRecDepth 100000 in
theorem right16_any (x : Nat) (hx : x < 4294967296) (w : World) :
    Calls Tryd.prog 39 #[.int .u32 (x : Int), .int .u32 16] w fun e w' => e = .returned (.int .u32 (rotN x 16 : Nat)) ∧ w' = w := by
  have h1 : Op.shift BinOp.shr IntKind.u32 (x : Int) IntKind.u32 16 = pure (.int .u32 ((x / 2 ^ 16 : Nat) : Int)) := by
    rw [shift_shr .u32 .u32 _ _ (by decide) (by decide)]
    congr 2
  have h2 : Op.shift BinOp.shl IntKind.u32 (x : Int) IntKind.u32 16 = pure (.int .u32 ((x * 2 ^ 16 % 4294967296 : Nat) : Int)) := by
    rw [shift_shl .u32 .u32 _ _ (by decide) (by decide), IntKind.wrap_u32]
    congr 2
  obtain ⟨p, hp⟩ : ∃ p, p = x / 2 ^ 16 := ⟨_, rfl⟩
  obtain ⟨q, hq⟩ : ∃ q, q = x * 2 ^ 16 % 4294967296 := ⟨_, rfl⟩
  have hpl : p < 4294967296 := by rw [hp]; exact Nat.lt_of_le_of_lt (Nat.div_le_self _ _) hx
  have hql : q < 4294967296 := by rw [hq]; exact Nat.mod_lt _ (by decide)
  have HE := Lib.hid (show rotN x 16 = p ||| q by unfold rotN; rw [hp, hq, Nat.or_comm])
  rw [← hp] at h1
  rw [← hq] at h2
  have h3 := bor32 p q hpl hql
  have HX := Lib.hid hx
  have HP := Lib.hid hp
  have HQ := Lib.hid hq
  have h4 : (x : Int) / 65536 = (p : Int) := by rw [hp]; omega
  have h5 : (x : Int) * 65536 % 4294967296 = (q : Int) := by rw [hq]; omega
  clear hp hq hpl hql hx
  go_enter Tryd.func39, Tryd.ntmps39
  go_wp2
  go_ret
  refine ⟨?_, rfl⟩
  rw [HE.out]
  rfl

set_option maxHeartbeats 2000000 in
set_option maxRecDepth 100000 in
theorem right12_any (x : Nat) (hx : x < 4294967296) (w : World) :
    Calls Tryd.prog 39 #[.int .u32 (x : Int), .int .u32 12] w fun e w' => e = .returned (.int .u32 (rotN x 20 : Nat)) ∧ w' = w := by
  have h1 : Op.shift BinOp.shr IntKind.u32 (x : Int) IntKind.u32 12 = pure (.int .u32 ((x / 2 ^ 12 : Nat) : Int)) := by
    rw [shift_shr .u32 .u32 _ _ (by decide) (by decide)]
    congr 2
  have h2 : Op.shift BinOp.shl IntKind.u32 (x : Int) IntKind.u32 20 = pure (.int .u32 ((x * 2 ^ 20 % 4294967296 : Nat) : Int)) := by
    rw [shift_shl .u32 .u32 _ _ (by decide) (by decide), IntKind.wrap_u32]
    congr 2
  obtain ⟨p, hp⟩ : ∃ p, p = x / 2 ^ 12 := ⟨_, rfl⟩
  obtain ⟨q, hq⟩ : ∃ q, q = x * 2 ^ 20 % 4294967296 := ⟨_, rfl⟩
  have hpl : p < 4294967296 := by rw [hp]; exact Nat.lt_of_le_of_lt (Nat.div_le_self _ _) hx
  have hql : q < 4294967296 := by rw [hq]; exact Nat.mod_lt _ (by decide)
  have HE := Lib.hid (show rotN x 20 = p ||| q by unfold rotN; rw [hp, hq, Nat.or_comm])
  rw [← hp] at h1
  rw [← hq] at h2
  have h3 := bor32 p q hpl hql
  have HX := Lib.hid hx
  have HP := Lib.hid hp
  have HQ := Lib.hid hq
  have h4 : (x : Int) / 4096 = (p : Int) := by rw [hp]; omega
  have h5 : (x : Int) * 1048576 % 4294967296 = (q : Int) := by rw [hq]; omega
  clear hp hq hpl hql hx
  go_enter Tryd.func39, Tryd.ntmps39
  go_wp2
  go_ret
  refine ⟨?_, rfl⟩
  rw [HE.out]
  rfl

set_option maxHeartbeats 2000000 in
set_option maxRecDepth 100000 in
theorem right8_any (x : Nat) (hx : x < 4294967296) (w : World) :
    Calls Tryd.prog 39 #[.int .u32 (x : Int), .int .u32 8] w fun e w' => e = .returned (.int .u32 (rotN x 24 : Nat)) ∧ w' = w := by
  have h1 : Op.shift BinOp.shr IntKind.u32 (x : Int) IntKind.u32 8 = pure (.int .u32 ((x / 2 ^ 8 : Nat) : Int)) := by
    rw [shift_shr .u32 .u32 _ _ (by decide) (by decide)]
    congr 2
  have h2 : Op.shift BinOp.shl IntKind.u32 (x : Int) IntKind.u32 24 = pure (.int .u32 ((x * 2 ^ 24 % 4294967296 : Nat) : Int)) := by
    rw [shift_shl .u32 .u32 _ _ (by decide) (by decide), IntKind.wrap_u32]
    congr 2
  obtain ⟨p, hp⟩ : ∃ p, p = x / 2 ^ 8 := ⟨_, rfl⟩
  obtain ⟨q, hq⟩ : ∃ q, q = x * 2 ^ 24 % 4294967296 := ⟨_, rfl⟩
  have hpl : p < 4294967296 := by rw [hp]; exact Nat.lt_of_le_of_lt (Nat.div_le_self _ _) hx
  have hql : q < 4294967296 := by rw [hq]; exact Nat.mod_lt _ (by decide)
  have HE := Lib.hid (show rotN x 24 = p ||| q by unfold rotN; rw [hp, hq, Nat.or_comm])
  rw [← hp] at h1
  rw [← hq] at h2
  have h3 := bor32 p q hpl hql
  have HX := Lib.hid hx
  have HP := Lib.hid hp
  have HQ := Lib.hid hq
  have h4 : (x : Int) / 256 = (p : Int) := by rw [hp]; omega
  have h5 : (x : Int) * 16777216 % 4294967296 = (q : Int) := by rw [hq]; omega
  clear hp hq hpl hql hx
  go_enter Tryd.func39, Tryd.ntmps39
  go_wp2
  go_ret
  refine ⟨?_, rfl⟩
  rw [HE.out]
  rfl

set_option maxHeartbeats 2000000 in
set_option maxRecDepth 100000 in
theorem right7_any (x : Nat) (hx : x < 4294967296) (w : World) :
    Calls Tryd.prog 39 #[.int .u32 (x : Int), .int .u32 7] w fun e w' => e = .returned (.int .u32 (rotN x 25 : Nat)) ∧ w' = w := by
  have h1 : Op.shift BinOp.shr IntKind.u32 (x : Int) IntKind.u32 7 = pure (.int .u32 ((x / 2 ^ 7 : Nat) : Int)) := by
    rw [shift_shr .u32 .u32 _ _ (by decide) (by decide)]
    congr 2
  have h2 : Op.shift BinOp.shl IntKind.u32 (x : Int) IntKind.u32 25 = pure (.int .u32 ((x * 2 ^ 25 % 4294967296 : Nat) : Int)) := by
    rw [shift_shl .u32 .u32 _ _ (by decide) (by decide), IntKind.wrap_u32]
    congr 2
  obtain ⟨p, hp⟩ : ∃ p, p = x / 2 ^ 7 := ⟨_, rfl⟩
  obtain ⟨q, hq⟩ : ∃ q, q = x * 2 ^ 25 % 4294967296 := ⟨_, rfl⟩
  have hpl : p < 4294967296 := by rw [hp]; exact Nat.lt_of_le_of_lt (Nat.div_le_self _ _) hx
  have hql : q < 4294967296 := by rw [hq]; exact Nat.mod_lt _ (by decide)
  have HE := Lib.hid (show rotN x 25 = p ||| q by unfold rotN; rw [hp, hq, Nat.or_comm])
  rw [← hp] at h1
  rw [← hq] at h2
  have h3 := bor32 p q hpl hql
  have HX := Lib.hid hx
  have HP := Lib.hid hp
  have HQ := Lib.hid hq
  have h4 : (x : Int) / 128 = (p : Int) := by rw [hp]; omega
  have h5 : (x : Int) * 33554432 % 4294967296 = (q : Int) := by rw [hq]; omega
  clear hp hq hpl hql hx
  go_enter Tryd.func39, Tryd.ntmps39
  go_wp2
  go_ret
  refine ⟨?_, rfl⟩
  rw [HE.out]
  rfl

theorem v32_cell {w : World} {B g cap : Nat} {l : List Nat} (h : w.ownsRow B 44 1 (.slice (some ⟨g, 0, none⟩) l.length cap) l.length (v32 l)) {i : Nat} (hi : i < l.length) : w.cell? ⟨g, i, none⟩ = some (.int .u32 (g32 l i : Nat)) := by
  rw [h.cellAt i (by omega)]
  unfold v32 g32
  simp [List.getD_eq_getElem?_getD, List.getElem?_eq_getElem hi]
/-- The state of a walk of the reference's g: the row v, sixteen words. -/
structure GAt (B g cap : Nat) (w : World) (l : List Nat) (w' : World) : Prop where
  own : w'.ownsRow B 44 1 (.slice (some ⟨g, 0, none⟩) 16 cap) 16 (v32 l)
  grown : w.grownBy w' (some g)
theorem GAt.set_ {B g cap : Nat} {w w' : World} {l : List Nat} (h : GAt B g cap w l w') (i n : Nat) (v : Int) (hv : v = (n : Int)) : GAt B g cap w (l.set i n) (w'.setCell ⟨g, i, none⟩ (.int .u32 v)) := by
  subst hv
  obtain ⟨h1, h2⟩ := h.own.stored i (.int .u32 (n : Int))
  refine ⟨?_, ?_⟩
  · rw [show v32 (l.set i n) = (v32 l).set i (.int .u32 (n : Int)) by simp [v32, List.map_set]]
    exact h1
  · exact ⟨h2.os.trans h.grown.os, h2.tape.trans h.grown.tape, h2.output.trans h.grown.output, Nat.le_trans h.grown.size h2.size, fun k hk hne => (h2.block k (Nat.lt_of_lt_of_le hk h.grown.size) hne).trans (h.grown.block k hk hne)⟩
theorem GAt.drew {B g cap : Nat} {w w' : World} {l : List Nat} (h : GAt B g cap w l w') : GAt B g cap w l w'.drew := ⟨h.own.drew, ⟨h.grown.os, h.grown.tape, h.grown.output, h.grown.size, h.grown.block⟩⟩
theorem GAt.cell {B g cap : Nat} {w w' : World} {l : List Nat} (h : GAt B g cap w l w') (hl : l.length = 16) {i : Nat} (hi : i < 16) : w'.cell? ⟨g, i, none⟩ = some (.int .u32 (g32 l i : Nat)) := by
  have h1 := h.own
  rw [← hl] at h1 hi
  exact v32_cell h1 hi
theorem g_first {B g cap : Nat} {w w1 : World} {L : List Nat} {i' j' : Nat} (h : GAt B g cap w L w1) (hl : L.length = 16) (hi : i' < 16) (hj : j' < 16) :
    GAt B g cap w L w1.drew ∧ w1.drew.cell? ⟨g, i', none⟩ = some (.int .u32 (g32 L i' : Nat)) ∧ w1.drew.cell? ⟨g, j', none⟩ = some (.int .u32 (g32 L j' : Nat)) :=
  ⟨h.drew, h.drew.cell hl hi, h.drew.cell hl hj⟩
theorem g_next {B g cap : Nat} {w w1 : World} {L L' : List Nat} {i i' j' n : Nat} {v : Int} (h : GAt B g cap w L w1) (hL : L' = L.set i n) (hv : v = (n : Int)) (hl : L'.length = 16) (hi : i' < 16) (hj : j' < 16) :
    GAt B g cap w L' (w1.setCell ⟨g, i, none⟩ (.int .u32 v)).drew ∧ (w1.setCell ⟨g, i, none⟩ (.int .u32 v)).drew.cell? ⟨g, i', none⟩ = some (.int .u32 (g32 L' i' : Nat)) ∧ (w1.setCell ⟨g, i, none⟩ (.int .u32 v)).drew.cell? ⟨g, j', none⟩ = some (.int .u32 (g32 L' j' : Nat)) := by
  subst hL
  exact g_first (h.set_ i n v hv) hl hi hj

set_option maxHeartbeats 8000000 in
set_option maxRecDepth 100000 in
theorem refg_any (B g cap : Nat) (l : List Nat) (a b c d : Nat) (x y : Nat) (w : World) (hl : l.length = 16) (h32 : All32 l) (ha : a < 16) (hb : b < 16) (hc : c < 16) (hd : d < 16) (hx : x < 4294967296) (hy : y < 4294967296)
    (hB : w.ownsRow B 44 1 (.slice (some ⟨g, 0, none⟩) 16 cap) 16 (v32 l)) :
    Calls Tryd.prog 35 #[.slice (some ⟨g, 0, none⟩) 16 cap, .int .i64 a, .int .i64 b, .int .i64 c, .int .i64 d, .int .u32 x, .int .u32 y] w fun e w' => e = .returned (.tuple #[]) ∧ GAt B g cap w (mixN l a b c d x y) w' := by
  have ha' : (a : Int) < 16 := by omega
  have hb' : (b : Int) < 16 := by omega
  have hc' : (c : Int) < 16 := by omega
  have hd' : (d : Int) < 16 := by omega
  have HM := Lib.hid (show GAt B g cap w l w from ⟨hB, World.grownBy.refl _ _⟩)
  have HL := Lib.hid hl
  have HO := Lib.hid h32
  clear hB hl h32
  go_enter Tryd.func35, Tryd.ntmps35
  go_wp2_with fail
  obtain ⟨L0, hL0⟩ : ∃ L, L = l := ⟨_, rfl⟩
  have ho0 : All32 L0 := by rw [hL0]; exact HO.out
  have hg0i := ho0 a
  have hg0j := ho0 b
  have hle0 : L0.length = 16 := by rw [hL0]; exact HL.out
  have HL0 := Lib.hid hL0
  clear hL0
  refine wp_region_headA 14 [] (fun _ => (fun w' => GAt B g cap w L0 w' ∧ w'.cell? ⟨g, a, none⟩ = some (.int .u32 (g32 L0 a : Nat)) ∧ w'.cell? ⟨g, b, none⟩ = some (.int .u32 (g32 L0 b : Nat)))) (by kernel_rfl) (by kernel_rfl) (by kernel_rfl) (g_first (by rw [HL0.out]; exact HM.out) hle0 (by omega) (by omega)) ?_
  iterate 14 (refine chain_pureA (by decide) (by rfl) ?_; apply Exists.intro; apply And.intro; (case left => (intro β w hSw; (try dsimp only at hSw); go_simp; try with_reducible rfl)); (try simp only [Act.put, List.setIfInBounds_toArray, List.set_cons_zero, List.set_cons_succ]))
  rintro w0 ⟨hM0, hi0, hj0⟩
  have hf0 : w0.frozen? ⟨g, a, none⟩ = false := hM0.own.frozenAt a
  go_wp2_with fail
  obtain ⟨L1, hL1⟩ : ∃ L, L = mAdd3 L0 a b x := ⟨_, rfl⟩
  have ho1 : All32 L1 := by rw [hL1]; exact mAdd3_ok ho0 _ _ _
  have hg1i := ho1 d
  have hg1j := ho1 a
  have hle1 : L1.length = 16 := by rw [hL1]; exact (List.length_set ..).trans hle0
  have HL1 := Lib.hid hL1
  clear hL1
  refine wp_region_headA 13 [] (fun _ => (fun w' => GAt B g cap w L1 w' ∧ w'.cell? ⟨g, d, none⟩ = some (.int .u32 (g32 L1 d : Nat)) ∧ w'.cell? ⟨g, a, none⟩ = some (.int .u32 (g32 L1 a : Nat)))) (by kernel_rfl) (by kernel_rfl) (by kernel_rfl) (g_next (i := a) hM0 HL1.out (by first | rfl | omega | (simp only [IntKind.wrap_u32]; omega)) hle1 (by omega) (by omega)) ?_
  iterate 11 (refine chain_pureA (by decide) (by rfl) ?_; apply Exists.intro; apply And.intro; (case left => (intro β w hSw; (try dsimp only at hSw); go_simp; try with_reducible rfl)); (try simp only [Act.put, List.setIfInBounds_toArray, List.set_cons_zero, List.set_cons_succ]))
  (refine chain_callA (by decide) (by rfl) ?_; apply Exists.intro; apply Exists.intro; apply And.intro; (case left => (intro w; go_simp; exact ⟨rfl, rfl⟩)))
  refine ⟨(.int .u32 (rotN (g32 L1 d ^^^ g32 L1 a) 16 : Nat)), (fun β W hSW => ?_), ?_⟩
  · rw [bxor32 _ _ hg1i hg1j]
    refine (right16_any _ (Nat.xor_lt_two_pow (n := 32) hg1i hg1j) _).mono ?_
    rintro e w' ⟨rfl, rfl⟩
    exact ⟨rfl, hSW⟩
  (try simp only [Act.put, List.setIfInBounds_toArray, List.set_cons_zero, List.set_cons_succ])
  iterate 1 (refine chain_pureA (by decide) (by rfl) ?_; apply Exists.intro; apply And.intro; (case left => (intro β w hSw; (try dsimp only at hSw); go_simp; try with_reducible rfl)); (try simp only [Act.put, List.setIfInBounds_toArray, List.set_cons_zero, List.set_cons_succ]))
  rintro w1 ⟨hM1, hi1, hj1⟩
  have hf1 : w1.frozen? ⟨g, d, none⟩ = false := hM1.own.frozenAt d
  go_wp2_with fail
  obtain ⟨L2, hL2⟩ : ∃ L, L = mRot L1 d a 16 := ⟨_, rfl⟩
  have ho2 : All32 L2 := by rw [hL2]; exact mRot_ok ho1 _ _ _
  have hg2i := ho2 c
  have hg2j := ho2 d
  have hle2 : L2.length = 16 := by rw [hL2]; exact (List.length_set ..).trans hle1
  have HL2 := Lib.hid hL2
  clear hL2
  refine wp_region_headA 12 [] (fun _ => (fun w' => GAt B g cap w L2 w' ∧ w'.cell? ⟨g, c, none⟩ = some (.int .u32 (g32 L2 c : Nat)) ∧ w'.cell? ⟨g, d, none⟩ = some (.int .u32 (g32 L2 d : Nat)))) (by kernel_rfl) (by kernel_rfl) (by kernel_rfl) (g_next (i := d) hM1 HL2.out (by first | rfl | omega | (simp only [IntKind.wrap_u32]; omega)) hle2 (by omega) (by omega)) ?_
  iterate 12 (refine chain_pureA (by decide) (by rfl) ?_; apply Exists.intro; apply And.intro; (case left => (intro β w hSw; (try dsimp only at hSw); go_simp; try with_reducible rfl)); (try simp only [Act.put, List.setIfInBounds_toArray, List.set_cons_zero, List.set_cons_succ]))
  rintro w2 ⟨hM2, hi2, hj2⟩
  have hf2 : w2.frozen? ⟨g, c, none⟩ = false := hM2.own.frozenAt c
  go_wp2_with fail
  obtain ⟨L3, hL3⟩ : ∃ L, L = mAdd L2 c d := ⟨_, rfl⟩
  have ho3 : All32 L3 := by rw [hL3]; exact mAdd_ok ho2 _ _
  have hg3i := ho3 b
  have hg3j := ho3 c
  have hle3 : L3.length = 16 := by rw [hL3]; exact (List.length_set ..).trans hle2
  have HL3 := Lib.hid hL3
  clear hL3
  refine wp_region_headA 13 [] (fun _ => (fun w' => GAt B g cap w L3 w' ∧ w'.cell? ⟨g, b, none⟩ = some (.int .u32 (g32 L3 b : Nat)) ∧ w'.cell? ⟨g, c, none⟩ = some (.int .u32 (g32 L3 c : Nat)))) (by kernel_rfl) (by kernel_rfl) (by kernel_rfl) (g_next (i := c) hM2 HL3.out (by first | rfl | omega | (simp only [IntKind.wrap_u32]; omega)) hle3 (by omega) (by omega)) ?_
  iterate 11 (refine chain_pureA (by decide) (by rfl) ?_; apply Exists.intro; apply And.intro; (case left => (intro β w hSw; (try dsimp only at hSw); go_simp; try with_reducible rfl)); (try simp only [Act.put, List.setIfInBounds_toArray, List.set_cons_zero, List.set_cons_succ]))
  (refine chain_callA (by decide) (by rfl) ?_; apply Exists.intro; apply Exists.intro; apply And.intro; (case left => (intro w; go_simp; exact ⟨rfl, rfl⟩)))
  refine ⟨(.int .u32 (rotN (g32 L3 b ^^^ g32 L3 c) 20 : Nat)), (fun β W hSW => ?_), ?_⟩
  · rw [bxor32 _ _ hg3i hg3j]
    refine (right12_any _ (Nat.xor_lt_two_pow (n := 32) hg3i hg3j) _).mono ?_
    rintro e w' ⟨rfl, rfl⟩
    exact ⟨rfl, hSW⟩
  (try simp only [Act.put, List.setIfInBounds_toArray, List.set_cons_zero, List.set_cons_succ])
  iterate 1 (refine chain_pureA (by decide) (by rfl) ?_; apply Exists.intro; apply And.intro; (case left => (intro β w hSw; (try dsimp only at hSw); go_simp; try with_reducible rfl)); (try simp only [Act.put, List.setIfInBounds_toArray, List.set_cons_zero, List.set_cons_succ]))
  rintro w3 ⟨hM3, hi3, hj3⟩
  have hf3 : w3.frozen? ⟨g, b, none⟩ = false := hM3.own.frozenAt b
  go_wp2_with fail
  obtain ⟨L4, hL4⟩ : ∃ L, L = mRot L3 b c 20 := ⟨_, rfl⟩
  have ho4 : All32 L4 := by rw [hL4]; exact mRot_ok ho3 _ _ _
  have hg4i := ho4 a
  have hg4j := ho4 b
  have hle4 : L4.length = 16 := by rw [hL4]; exact (List.length_set ..).trans hle3
  have HL4 := Lib.hid hL4
  clear hL4
  refine wp_region_headA 14 [] (fun _ => (fun w' => GAt B g cap w L4 w' ∧ w'.cell? ⟨g, a, none⟩ = some (.int .u32 (g32 L4 a : Nat)) ∧ w'.cell? ⟨g, b, none⟩ = some (.int .u32 (g32 L4 b : Nat)))) (by kernel_rfl) (by kernel_rfl) (by kernel_rfl) (g_next (i := b) hM3 HL4.out (by first | rfl | omega | (simp only [IntKind.wrap_u32]; omega)) hle4 (by omega) (by omega)) ?_
  iterate 14 (refine chain_pureA (by decide) (by rfl) ?_; apply Exists.intro; apply And.intro; (case left => (intro β w hSw; (try dsimp only at hSw); go_simp; try with_reducible rfl)); (try simp only [Act.put, List.setIfInBounds_toArray, List.set_cons_zero, List.set_cons_succ]))
  rintro w4 ⟨hM4, hi4, hj4⟩
  have hf4 : w4.frozen? ⟨g, a, none⟩ = false := hM4.own.frozenAt a
  go_wp2_with fail
  obtain ⟨L5, hL5⟩ : ∃ L, L = mAdd3 L4 a b y := ⟨_, rfl⟩
  have ho5 : All32 L5 := by rw [hL5]; exact mAdd3_ok ho4 _ _ _
  have hg5i := ho5 d
  have hg5j := ho5 a
  have hle5 : L5.length = 16 := by rw [hL5]; exact (List.length_set ..).trans hle4
  have HL5 := Lib.hid hL5
  clear hL5
  refine wp_region_headA 13 [] (fun _ => (fun w' => GAt B g cap w L5 w' ∧ w'.cell? ⟨g, d, none⟩ = some (.int .u32 (g32 L5 d : Nat)) ∧ w'.cell? ⟨g, a, none⟩ = some (.int .u32 (g32 L5 a : Nat)))) (by kernel_rfl) (by kernel_rfl) (by kernel_rfl) (g_next (i := a) hM4 HL5.out (by first | rfl | omega | (simp only [IntKind.wrap_u32]; omega)) hle5 (by omega) (by omega)) ?_
  iterate 11 (refine chain_pureA (by decide) (by rfl) ?_; apply Exists.intro; apply And.intro; (case left => (intro β w hSw; (try dsimp only at hSw); go_simp; try with_reducible rfl)); (try simp only [Act.put, List.setIfInBounds_toArray, List.set_cons_zero, List.set_cons_succ]))
  (refine chain_callA (by decide) (by rfl) ?_; apply Exists.intro; apply Exists.intro; apply And.intro; (case left => (intro w; go_simp; exact ⟨rfl, rfl⟩)))
  refine ⟨(.int .u32 (rotN (g32 L5 d ^^^ g32 L5 a) 24 : Nat)), (fun β W hSW => ?_), ?_⟩
  · rw [bxor32 _ _ hg5i hg5j]
    refine (right8_any _ (Nat.xor_lt_two_pow (n := 32) hg5i hg5j) _).mono ?_
    rintro e w' ⟨rfl, rfl⟩
    exact ⟨rfl, hSW⟩
  (try simp only [Act.put, List.setIfInBounds_toArray, List.set_cons_zero, List.set_cons_succ])
  iterate 1 (refine chain_pureA (by decide) (by rfl) ?_; apply Exists.intro; apply And.intro; (case left => (intro β w hSw; (try dsimp only at hSw); go_simp; try with_reducible rfl)); (try simp only [Act.put, List.setIfInBounds_toArray, List.set_cons_zero, List.set_cons_succ]))
  rintro w5 ⟨hM5, hi5, hj5⟩
  have hf5 : w5.frozen? ⟨g, d, none⟩ = false := hM5.own.frozenAt d
  go_wp2_with fail
  obtain ⟨L6, hL6⟩ : ∃ L, L = mRot L5 d a 24 := ⟨_, rfl⟩
  have ho6 : All32 L6 := by rw [hL6]; exact mRot_ok ho5 _ _ _
  have hg6i := ho6 c
  have hg6j := ho6 d
  have hle6 : L6.length = 16 := by rw [hL6]; exact (List.length_set ..).trans hle5
  have HL6 := Lib.hid hL6
  clear hL6
  refine wp_region_headA 12 [] (fun _ => (fun w' => GAt B g cap w L6 w' ∧ w'.cell? ⟨g, c, none⟩ = some (.int .u32 (g32 L6 c : Nat)) ∧ w'.cell? ⟨g, d, none⟩ = some (.int .u32 (g32 L6 d : Nat)))) (by kernel_rfl) (by kernel_rfl) (by kernel_rfl) (g_next (i := d) hM5 HL6.out (by first | rfl | omega | (simp only [IntKind.wrap_u32]; omega)) hle6 (by omega) (by omega)) ?_
  iterate 12 (refine chain_pureA (by decide) (by rfl) ?_; apply Exists.intro; apply And.intro; (case left => (intro β w hSw; (try dsimp only at hSw); go_simp; try with_reducible rfl)); (try simp only [Act.put, List.setIfInBounds_toArray, List.set_cons_zero, List.set_cons_succ]))
  rintro w6 ⟨hM6, hi6, hj6⟩
  have hf6 : w6.frozen? ⟨g, c, none⟩ = false := hM6.own.frozenAt c
  go_wp2_with fail
  obtain ⟨L7, hL7⟩ : ∃ L, L = mAdd L6 c d := ⟨_, rfl⟩
  have ho7 : All32 L7 := by rw [hL7]; exact mAdd_ok ho6 _ _
  have hg7i := ho7 b
  have hg7j := ho7 c
  have hle7 : L7.length = 16 := by rw [hL7]; exact (List.length_set ..).trans hle6
  have HL7 := Lib.hid hL7
  clear hL7
  refine wp_region_headA 13 [] (fun _ => (fun w' => GAt B g cap w L7 w' ∧ w'.cell? ⟨g, b, none⟩ = some (.int .u32 (g32 L7 b : Nat)) ∧ w'.cell? ⟨g, c, none⟩ = some (.int .u32 (g32 L7 c : Nat)))) (by kernel_rfl) (by kernel_rfl) (by kernel_rfl) (g_next (i := c) hM6 HL7.out (by first | rfl | omega | (simp only [IntKind.wrap_u32]; omega)) hle7 (by omega) (by omega)) ?_
  iterate 11 (refine chain_pureA (by decide) (by rfl) ?_; apply Exists.intro; apply And.intro; (case left => (intro β w hSw; (try dsimp only at hSw); go_simp; try with_reducible rfl)); (try simp only [Act.put, List.setIfInBounds_toArray, List.set_cons_zero, List.set_cons_succ]))
  (refine chain_callA (by decide) (by rfl) ?_; apply Exists.intro; apply Exists.intro; apply And.intro; (case left => (intro w; go_simp; exact ⟨rfl, rfl⟩)))
  refine ⟨(.int .u32 (rotN (g32 L7 b ^^^ g32 L7 c) 25 : Nat)), (fun β W hSW => ?_), ?_⟩
  · rw [bxor32 _ _ hg7i hg7j]
    refine (right7_any _ (Nat.xor_lt_two_pow (n := 32) hg7i hg7j) _).mono ?_
    rintro e w' ⟨rfl, rfl⟩
    exact ⟨rfl, hSW⟩
  (try simp only [Act.put, List.setIfInBounds_toArray, List.set_cons_zero, List.set_cons_succ])
  iterate 1 (refine chain_pureA (by decide) (by rfl) ?_; apply Exists.intro; apply And.intro; (case left => (intro β w hSw; (try dsimp only at hSw); go_simp; try with_reducible rfl)); (try simp only [Act.put, List.setIfInBounds_toArray, List.set_cons_zero, List.set_cons_succ]))
  rintro w7 ⟨hM7, hi7, hj7⟩
  have hf7 : w7.frozen? ⟨g, b, none⟩ = false := hM7.own.frozenAt b
  have HE := Lib.hid (show mixN l a b c d x y = mRot L7 b c 25 by rw [HL7.out, HL6.out, HL5.out, HL4.out, HL3.out, HL2.out, HL1.out, HL0.out]; rfl)
  go_wp2
  go_end0
  refine ⟨rfl, ?_⟩
  rw [HE.out]
  exact hM7.set_ b _ _ (by first | rfl | omega)

end Go.Proofs.YtnfpahanbnidpaaDoor
