/- The walks of digest: RotateLeft32, mix. -/
import Derived.Test.YtnfpahanbnidpaaDoorDigB
import Derived.Test.YtnfpahanbnidpaaDoorLib
import Derived.Laws.Shifts
import Derived.Laws.BitsLemmas
set_option linter.unusedSimpArgs false
set_option linter.unusedVariables false
namespace Go.Proofs.YtnfpahanbnidpaaDoor
open Go.RowKit

theorem chain_callA {P : Program} {ops : Array Oper} {S : Nat → World → Prop} {ts : List Nat} {T : Act → Prop} {r : List Oper} {i : Nat} {a : Act} {o : Oper} (hne : i ∉ ts) (hw : Region.wanted o (yielded ops a.tmps) = true)
    (h : ∃ f args, (∀ w, (execOp a.eval o).run P w = .ok (.enter f args) w) ∧ ∃ v, (∀ β w, S β w → Calls P f args w (fun e w' => e = .returned v ∧ S β w')) ∧ ChainLA P ops S ts T r (i + 1) (a.put o.dst v)) : ChainLA P ops S ts T (o :: r) i a :=
  let ⟨f, args, h1, v, h2, h3⟩ := h
  ⟨v, ⟨fun e => absurd e hne, fun _ => .inl ⟨hw, fun β w hS => .inr ⟨f, args, h1 w, h2 β w hS⟩⟩⟩, h3⟩
theorem wraps_u32 (n : Int) (h₀ : 0 ≤ n) (h₁ : n < 2 ^ 32) : IntKind.u32.wrap n = n := by rw [IntKind.wrap_u32]; omega
theorem bxor32 (a b : Nat) (ha : a < 4294967296) (hb : b < 4294967296) : bits .xor .u32 (a : Int) (b : Int) = ((a ^^^ b : Nat) : Int) := by
  have h2 : a ^^^ b < 2 ^ 32 := Nat.xor_lt_two_pow (n := 32) ha hb
  simp only [bits, BitVec.ofInt_natCast, BitVec.toNat_xor, BitVec.toNat_ofNat, show IntKind.u32.bits = 32 from rfl, Nat.mod_eq_of_lt ha, Nat.mod_eq_of_lt hb]
  exact wraps_u32 _ (Int.natCast_nonneg _) (by exact_mod_cast h2)
theorem bor32 (a b : Nat) (ha : a < 4294967296) (hb : b < 4294967296) : bits .or .u32 (a : Int) (b : Int) = ((a ||| b : Nat) : Int) :=
  (bits_nat .u32 32 (by decide) wraps_u32 a b ha hb).2
/-- The rotation to the left by s bits. -/
def rotN (x s : Nat) : Nat := (x * 2 ^ s % 4294967296) ||| (x / 2 ^ (32 - s))
theorem rotN_lt (x s : Nat) (hx : x < 4294967296) : rotN x s < 4294967296 :=
  Nat.or_lt_two_pow (n := 32) (Nat.mod_lt _ (by decide)) (Nat.lt_of_le_of_lt (Nat.div_le_self _ _) hx)

set_option maxHeartbeats 2000000 in
set_option maxRecDepth 100000 in
theorem rot16_any (x : Nat) (hx : x < 4294967296) (w : World) :
    Calls Tryd.prog 38 #[.int .u32 (x : Int), .int .i64 (-16)] w fun e w' => e = .returned (.int .u32 (rotN x 16 : Nat)) ∧ w' = w := by
  go_enter Tryd.func38, Tryd.ntmps38
  go_wp2
  simp only [show bits BinOp.and IntKind.u64 (IntKind.u64.wrap (-16)) 31 = 16 from by decide]
  go_simp
  go_wp2
  go_ret
  refine ⟨?_, rfl⟩
  have h1 : (x : Int) * 65536 % 4294967296 = ((x * 2 ^ 16 % 4294967296 : Nat) : Int) := by omega
  have h2 : (x : Int) / 65536 = ((x / 2 ^ (32 - 16) : Nat) : Int) := by omega
  rw [h1, h2, bor32 _ _ (Nat.mod_lt _ (by decide)) (Nat.lt_of_le_of_lt (Nat.div_le_self _ _) hx)]
  rfl

set_option maxHeartbeats 2000000 in
set_option maxRecDepth 100000 in
theorem rot12_any (x : Nat) (hx : x < 4294967296) (w : World) :
    Calls Tryd.prog 38 #[.int .u32 (x : Int), .int .i64 (-12)] w fun e w' => e = .returned (.int .u32 (rotN x 20 : Nat)) ∧ w' = w := by
  go_enter Tryd.func38, Tryd.ntmps38
  go_wp2
  simp only [show bits BinOp.and IntKind.u64 (IntKind.u64.wrap (-12)) 31 = 20 from by decide]
  go_simp
  go_wp2
  go_ret
  refine ⟨?_, rfl⟩
  have h1 : (x : Int) * 1048576 % 4294967296 = ((x * 2 ^ 20 % 4294967296 : Nat) : Int) := by omega
  have h2 : (x : Int) / 4096 = ((x / 2 ^ (32 - 20) : Nat) : Int) := by omega
  rw [h1, h2, bor32 _ _ (Nat.mod_lt _ (by decide)) (Nat.lt_of_le_of_lt (Nat.div_le_self _ _) hx)]
  rfl

set_option maxHeartbeats 2000000 in
set_option maxRecDepth 100000 in
theorem rot8_any (x : Nat) (hx : x < 4294967296) (w : World) :
    Calls Tryd.prog 38 #[.int .u32 (x : Int), .int .i64 (-8)] w fun e w' => e = .returned (.int .u32 (rotN x 24 : Nat)) ∧ w' = w := by
  go_enter Tryd.func38, Tryd.ntmps38
  go_wp2
  simp only [show bits BinOp.and IntKind.u64 (IntKind.u64.wrap (-8)) 31 = 24 from by decide]
  go_simp
  go_wp2
  go_ret
  refine ⟨?_, rfl⟩
  have h1 : (x : Int) * 16777216 % 4294967296 = ((x * 2 ^ 24 % 4294967296 : Nat) : Int) := by omega
  have h2 : (x : Int) / 256 = ((x / 2 ^ (32 - 24) : Nat) : Int) := by omega
  rw [h1, h2, bor32 _ _ (Nat.mod_lt _ (by decide)) (Nat.lt_of_le_of_lt (Nat.div_le_self _ _) hx)]
  rfl

set_option maxHeartbeats 2000000 in
set_option maxRecDepth 100000 in
theorem rot7_any (x : Nat) (hx : x < 4294967296) (w : World) :
    Calls Tryd.prog 38 #[.int .u32 (x : Int), .int .i64 (-7)] w fun e w' => e = .returned (.int .u32 (rotN x 25 : Nat)) ∧ w' = w := by
  go_enter Tryd.func38, Tryd.ntmps38
  go_wp2
  simp only [show bits BinOp.and IntKind.u64 (IntKind.u64.wrap (-7)) 31 = 25 from by decide]
  go_simp
  go_wp2
  go_ret
  refine ⟨?_, rfl⟩
  have h1 : (x : Int) * 33554432 % 4294967296 = ((x * 2 ^ 25 % 4294967296 : Nat) : Int) := by omega
  have h2 : (x : Int) / 128 = ((x / 2 ^ (32 - 25) : Nat) : Int) := by omega
  rw [h1, h2, bor32 _ _ (Nat.mod_lt _ (by decide)) (Nat.lt_of_le_of_lt (Nat.div_le_self _ _) hx)]
  rfl

def u32s (l : List Nat) : Array Value := (l.map fun (n : Nat) => Value.int .u32 (n : Int)).toArray
def g32 (l : List Nat) (i : Nat) : Nat := l.getD i 0
def All32 (l : List Nat) : Prop := ∀ i, g32 l i < 4294967296
theorem u32s_cell {w : World} {b t i : Nat} {l : List Nat} (h : Bk w b t (u32s l)) (hi : i < l.length) : w.cell? ⟨b, i, none⟩ = some (.int .u32 (g32 l i : Nat)) := by
  rw [h.cell]
  unfold u32s g32
  simp [List.getD_eq_getElem?_getD, List.getElem?_eq_getElem hi]
theorem u32s_set {w : World} {b t i : Nat} {l : List Nat} (h : Bk w b t (u32s l)) (n : Nat) : Bk (w.setCell ⟨b, i, none⟩ (.int .u32 (n : Int))) b t (u32s (l.set i n)) := by
  have h1 := h.set_ i (.int .u32 (n : Int))
  have e : (u32s l).setIfInBounds i (.int .u32 (n : Int)) = u32s (l.set i n) := by
    unfold u32s
    simp [List.map_set]
  rw [e] at h1
  exact h1
theorem All32.set {l : List Nat} (h : All32 l) (i n : Nat) (hn : n < 4294967296) : All32 (l.set i n) := by
  intro j
  have hj := h j
  unfold g32 at hj ⊢
  rw [List.getD_eq_getElem?_getD] at hj ⊢
  rw [List.getElem?_set]
  split
  · split
    · exact hn
    · exact (by decide)
  · exact hj
/-- The steps of mix. -/
def mAdd3 (l : List Nat) (a b x : Nat) : List Nat := l.set a ((g32 l a + (g32 l b + x) % 4294967296) % 4294967296)
def mAdd (l : List Nat) (c d : Nat) : List Nat := l.set c ((g32 l c + g32 l d) % 4294967296)
def mRot (l : List Nat) (d a s : Nat) : List Nat := l.set d (rotN (g32 l d ^^^ g32 l a) s)
def mixN (l : List Nat) (a b c d x y : Nat) : List Nat :=
  mRot (mAdd (mRot (mAdd3 (mRot (mAdd (mRot (mAdd3 l a b x) d a 16) c d) b c 20) a b y) d a 24) c d) b c 25
theorem mAdd3_ok {l : List Nat} (h : All32 l) (a b x : Nat) : All32 (mAdd3 l a b x) := h.set _ _ (Nat.mod_lt _ (by decide))
theorem mAdd_ok {l : List Nat} (h : All32 l) (a b : Nat) : All32 (mAdd l a b) := h.set _ _ (Nat.mod_lt _ (by decide))
theorem mRot_ok {l : List Nat} (h : All32 l) (d a s : Nat) : All32 (mRot l d a s) := h.set _ _ (rotN_lt _ _ (Nat.xor_lt_two_pow (n := 32) (h d) (h a)))
/-- The state of a walk of mix. -/
def MixAt (b t : Nat) (w : World) (l : List Nat) (w' : World) : Prop := Bk w' b t (u32s l) ∧ Below b w w' ∧ ∀ g, g ≠ b → w'.heap[g]? = w.heap[g]?
theorem MixAt.set_ {b t : Nat} {w w' : World} {l : List Nat} (h : MixAt b t w l w') (i n : Nat) (v : Int) (hv : v = (n : Int)) : MixAt b t w (l.set i n) (w'.setCell ⟨b, i, none⟩ (.int .u32 v)) := by
  subst hv
  exact ⟨u32s_set h.1 n, h.2.1.setCell (p := ⟨b, i, none⟩) (Nat.le_refl _) _, fun g hg => (Below.heap_setCell w' ⟨b, i, none⟩ _ g hg).trans (h.2.2 g hg)⟩
theorem MixAt.drew {b t : Nat} {w w' : World} {l : List Nat} (h : MixAt b t w l w') : MixAt b t w l w'.drew := ⟨h.1.drew, h.2.1.drew, h.2.2⟩
theorem mix_first {B t : Nat} {w w1 : World} {L : List Nat} {i' j' : Nat} (h : MixAt B t w L w1) (hi : i' < L.length) (hj : j' < L.length) :
    MixAt B t w L w1.drew ∧ w1.drew.cell? ⟨B, i', none⟩ = some (.int .u32 (g32 L i' : Nat)) ∧ w1.drew.cell? ⟨B, j', none⟩ = some (.int .u32 (g32 L j' : Nat)) :=
  ⟨h.drew, u32s_cell h.1.drew hi, u32s_cell h.1.drew hj⟩
theorem mix_next {B t : Nat} {w w1 : World} {L L' : List Nat} {i i' j' n : Nat} {v : Int} (h : MixAt B t w L w1) (hL : L' = L.set i n) (hv : v = (n : Int)) (hi : i' < L'.length) (hj : j' < L'.length) :
    MixAt B t w L' (w1.setCell ⟨B, i, none⟩ (.int .u32 v)).drew ∧ (w1.setCell ⟨B, i, none⟩ (.int .u32 v)).drew.cell? ⟨B, i', none⟩ = some (.int .u32 (g32 L' i' : Nat)) ∧ (w1.setCell ⟨B, i, none⟩ (.int .u32 v)).drew.cell? ⟨B, j', none⟩ = some (.int .u32 (g32 L' j' : Nat)) := by
  subst hL
  exact mix_first (h.set_ i n v hv) hi hj
theorem mixN_len (l : List Nat) (a b c d x y : Nat) : (mixN l a b c d x y).length = l.length := by simp [mixN, mRot, mAdd, mAdd3]
theorem mixN_ok {l : List Nat} (h : All32 l) (a b c d x y : Nat) : All32 (mixN l a b c d x y) := mRot_ok (mAdd_ok (mRot_ok (mAdd3_ok (mRot_ok (mAdd_ok (mRot_ok (mAdd3_ok h _ _ _) _ _ _) _ _) _ _ _) _ _ _) _ _ _) _ _) _ _ _

set_option maxHeartbeats 8000000 in
set_option maxRecDepth 100000 in
theorem mix_any (B : Nat) (l : List Nat) (a b c d : Nat) (x y : Nat) (w : World) (hl : l.length = 16) (h32 : All32 l) (ha : a < 16) (hb : b < 16) (hc : c < 16) (hd : d < 16) (hx : x < 4294967296) (hy : y < 4294967296)
    (hB : Bk w B 53 (u32s l)) :
    Calls Tryd.prog 32 #[.pointer (some ⟨B, 0, none⟩), .int .i64 a, .int .i64 b, .int .i64 c, .int .i64 d, .int .u32 x, .int .u32 y] w fun e w' => e = .returned (.tuple #[]) ∧ MixAt B 53 w (mixN l a b c d x y) w' := by
  have ha' : (a : Int) < 16 := by omega
  have hb' : (b : Int) < 16 := by omega
  have hc' : (c : Int) < 16 := by omega
  have hd' : (d : Int) < 16 := by omega
  have HM := Lib.hid (show MixAt B 53 w l w from ⟨hB, Below.refl _ _, fun _ _ => rfl⟩)
  have HL := Lib.hid hl
  have HO := Lib.hid h32
  clear hB hl h32
  go_enter Tryd.func32, Tryd.ntmps32
  go_wp2_with fail
  obtain ⟨L0, hL0⟩ : ∃ L, L = l := ⟨_, rfl⟩
  have ho0 : All32 L0 := by rw [hL0]; exact HO.out
  have hg0i := ho0 a
  have hg0j := ho0 b
  have hle0 : L0.length = 16 := by rw [hL0]; exact HL.out
  have HL0 := Lib.hid hL0
  clear hL0
  refine wp_region_headA 15 [] (fun _ => (fun w' => MixAt B 53 w L0 w' ∧ w'.cell? ⟨B, a, none⟩ = some (.int .u32 (g32 L0 a : Nat)) ∧ w'.cell? ⟨B, b, none⟩ = some (.int .u32 (g32 L0 b : Nat)))) (by kernel_rfl) (by kernel_rfl) (by kernel_rfl) (mix_first (by rw [HL0.out]; exact HM.out) (by omega) (by omega)) ?_
  iterate 15 (refine chain_pureA (by decide) (by rfl) ?_; apply Exists.intro; apply And.intro; (case left => (intro β w hSw; (try dsimp only at hSw); go_simp; try with_reducible rfl)); (try simp only [Act.put, List.setIfInBounds_toArray, List.set_cons_zero, List.set_cons_succ]))
  rintro w0 ⟨hM0, hi0, hj0⟩
  have hf0 : w0.frozen? ⟨B, a, none⟩ = false := hM0.1.frozen a
  go_wp2_with fail
  obtain ⟨L1, hL1⟩ : ∃ L, L = mAdd3 L0 a b x := ⟨_, rfl⟩
  have ho1 : All32 L1 := by rw [hL1]; exact mAdd3_ok ho0 _ _ _
  have hg1i := ho1 d
  have hg1j := ho1 a
  have hle1 : L1.length = 16 := by rw [hL1]; exact (List.length_set ..).trans hle0
  have HL1 := Lib.hid hL1
  clear hL1
  refine wp_region_headA 16 [] (fun _ => (fun w' => MixAt B 53 w L1 w' ∧ w'.cell? ⟨B, d, none⟩ = some (.int .u32 (g32 L1 d : Nat)) ∧ w'.cell? ⟨B, a, none⟩ = some (.int .u32 (g32 L1 a : Nat)))) (by kernel_rfl) (by kernel_rfl) (by kernel_rfl) (mix_next (i := a) hM0 HL1.out (by first | rfl | omega | (simp only [IntKind.wrap_u32]; omega)) (by omega) (by omega)) ?_
  iterate 13 (refine chain_pureA (by decide) (by rfl) ?_; apply Exists.intro; apply And.intro; (case left => (intro β w hSw; (try dsimp only at hSw); go_simp; try with_reducible rfl)); (try simp only [Act.put, List.setIfInBounds_toArray, List.set_cons_zero, List.set_cons_succ]))
  (refine chain_callA (by decide) (by rfl) ?_; apply Exists.intro; apply Exists.intro; apply And.intro; (case left => (intro w; go_simp; exact ⟨rfl, rfl⟩)))
  refine ⟨(.int .u32 (rotN (g32 L1 d ^^^ g32 L1 a) 16 : Nat)), (fun β W hSW => ?_), ?_⟩
  · rw [bxor32 _ _ hg1i hg1j]
    refine (rot16_any _ (Nat.xor_lt_two_pow (n := 32) hg1i hg1j) _).mono ?_
    rintro e w' ⟨rfl, rfl⟩
    exact ⟨rfl, hSW⟩
  (try simp only [Act.put, List.setIfInBounds_toArray, List.set_cons_zero, List.set_cons_succ])
  iterate 2 (refine chain_pureA (by decide) (by rfl) ?_; apply Exists.intro; apply And.intro; (case left => (intro β w hSw; (try dsimp only at hSw); go_simp; try with_reducible rfl)); (try simp only [Act.put, List.setIfInBounds_toArray, List.set_cons_zero, List.set_cons_succ]))
  rintro w1 ⟨hM1, hi1, hj1⟩
  have hf1 : w1.frozen? ⟨B, d, none⟩ = false := hM1.1.frozen d
  go_wp2_with fail
  obtain ⟨L2, hL2⟩ : ∃ L, L = mRot L1 d a 16 := ⟨_, rfl⟩
  have ho2 : All32 L2 := by rw [hL2]; exact mRot_ok ho1 _ _ _
  have hg2i := ho2 c
  have hg2j := ho2 d
  have hle2 : L2.length = 16 := by rw [hL2]; exact (List.length_set ..).trans hle1
  have HL2 := Lib.hid hL2
  clear hL2
  refine wp_region_headA 13 [] (fun _ => (fun w' => MixAt B 53 w L2 w' ∧ w'.cell? ⟨B, c, none⟩ = some (.int .u32 (g32 L2 c : Nat)) ∧ w'.cell? ⟨B, d, none⟩ = some (.int .u32 (g32 L2 d : Nat)))) (by kernel_rfl) (by kernel_rfl) (by kernel_rfl) (mix_next (i := d) hM1 HL2.out (by first | rfl | omega | (simp only [IntKind.wrap_u32]; omega)) (by omega) (by omega)) ?_
  iterate 13 (refine chain_pureA (by decide) (by rfl) ?_; apply Exists.intro; apply And.intro; (case left => (intro β w hSw; (try dsimp only at hSw); go_simp; try with_reducible rfl)); (try simp only [Act.put, List.setIfInBounds_toArray, List.set_cons_zero, List.set_cons_succ]))
  rintro w2 ⟨hM2, hi2, hj2⟩
  have hf2 : w2.frozen? ⟨B, c, none⟩ = false := hM2.1.frozen c
  go_wp2_with fail
  obtain ⟨L3, hL3⟩ : ∃ L, L = mAdd L2 c d := ⟨_, rfl⟩
  have ho3 : All32 L3 := by rw [hL3]; exact mAdd_ok ho2 _ _
  have hg3i := ho3 b
  have hg3j := ho3 c
  have hle3 : L3.length = 16 := by rw [hL3]; exact (List.length_set ..).trans hle2
  have HL3 := Lib.hid hL3
  clear hL3
  refine wp_region_headA 16 [] (fun _ => (fun w' => MixAt B 53 w L3 w' ∧ w'.cell? ⟨B, b, none⟩ = some (.int .u32 (g32 L3 b : Nat)) ∧ w'.cell? ⟨B, c, none⟩ = some (.int .u32 (g32 L3 c : Nat)))) (by kernel_rfl) (by kernel_rfl) (by kernel_rfl) (mix_next (i := c) hM2 HL3.out (by first | rfl | omega | (simp only [IntKind.wrap_u32]; omega)) (by omega) (by omega)) ?_
  iterate 13 (refine chain_pureA (by decide) (by rfl) ?_; apply Exists.intro; apply And.intro; (case left => (intro β w hSw; (try dsimp only at hSw); go_simp; try with_reducible rfl)); (try simp only [Act.put, List.setIfInBounds_toArray, List.set_cons_zero, List.set_cons_succ]))
  (refine chain_callA (by decide) (by rfl) ?_; apply Exists.intro; apply Exists.intro; apply And.intro; (case left => (intro w; go_simp; exact ⟨rfl, rfl⟩)))
  refine ⟨(.int .u32 (rotN (g32 L3 b ^^^ g32 L3 c) 20 : Nat)), (fun β W hSW => ?_), ?_⟩
  · rw [bxor32 _ _ hg3i hg3j]
    refine (rot12_any _ (Nat.xor_lt_two_pow (n := 32) hg3i hg3j) _).mono ?_
    rintro e w' ⟨rfl, rfl⟩
    exact ⟨rfl, hSW⟩
  (try simp only [Act.put, List.setIfInBounds_toArray, List.set_cons_zero, List.set_cons_succ])
  iterate 2 (refine chain_pureA (by decide) (by rfl) ?_; apply Exists.intro; apply And.intro; (case left => (intro β w hSw; (try dsimp only at hSw); go_simp; try with_reducible rfl)); (try simp only [Act.put, List.setIfInBounds_toArray, List.set_cons_zero, List.set_cons_succ]))
  rintro w3 ⟨hM3, hi3, hj3⟩
  have hf3 : w3.frozen? ⟨B, b, none⟩ = false := hM3.1.frozen b
  go_wp2_with fail
  obtain ⟨L4, hL4⟩ : ∃ L, L = mRot L3 b c 20 := ⟨_, rfl⟩
  have ho4 : All32 L4 := by rw [hL4]; exact mRot_ok ho3 _ _ _
  have hg4i := ho4 a
  have hg4j := ho4 b
  have hle4 : L4.length = 16 := by rw [hL4]; exact (List.length_set ..).trans hle3
  have HL4 := Lib.hid hL4
  clear hL4
  refine wp_region_headA 15 [] (fun _ => (fun w' => MixAt B 53 w L4 w' ∧ w'.cell? ⟨B, a, none⟩ = some (.int .u32 (g32 L4 a : Nat)) ∧ w'.cell? ⟨B, b, none⟩ = some (.int .u32 (g32 L4 b : Nat)))) (by kernel_rfl) (by kernel_rfl) (by kernel_rfl) (mix_next (i := b) hM3 HL4.out (by first | rfl | omega | (simp only [IntKind.wrap_u32]; omega)) (by omega) (by omega)) ?_
  iterate 15 (refine chain_pureA (by decide) (by rfl) ?_; apply Exists.intro; apply And.intro; (case left => (intro β w hSw; (try dsimp only at hSw); go_simp; try with_reducible rfl)); (try simp only [Act.put, List.setIfInBounds_toArray, List.set_cons_zero, List.set_cons_succ]))
  rintro w4 ⟨hM4, hi4, hj4⟩
  have hf4 : w4.frozen? ⟨B, a, none⟩ = false := hM4.1.frozen a
  go_wp2_with fail
  obtain ⟨L5, hL5⟩ : ∃ L, L = mAdd3 L4 a b y := ⟨_, rfl⟩
  have ho5 : All32 L5 := by rw [hL5]; exact mAdd3_ok ho4 _ _ _
  have hg5i := ho5 d
  have hg5j := ho5 a
  have hle5 : L5.length = 16 := by rw [hL5]; exact (List.length_set ..).trans hle4
  have HL5 := Lib.hid hL5
  clear hL5
  refine wp_region_headA 16 [] (fun _ => (fun w' => MixAt B 53 w L5 w' ∧ w'.cell? ⟨B, d, none⟩ = some (.int .u32 (g32 L5 d : Nat)) ∧ w'.cell? ⟨B, a, none⟩ = some (.int .u32 (g32 L5 a : Nat)))) (by kernel_rfl) (by kernel_rfl) (by kernel_rfl) (mix_next (i := a) hM4 HL5.out (by first | rfl | omega | (simp only [IntKind.wrap_u32]; omega)) (by omega) (by omega)) ?_
  iterate 13 (refine chain_pureA (by decide) (by rfl) ?_; apply Exists.intro; apply And.intro; (case left => (intro β w hSw; (try dsimp only at hSw); go_simp; try with_reducible rfl)); (try simp only [Act.put, List.setIfInBounds_toArray, List.set_cons_zero, List.set_cons_succ]))
  (refine chain_callA (by decide) (by rfl) ?_; apply Exists.intro; apply Exists.intro; apply And.intro; (case left => (intro w; go_simp; exact ⟨rfl, rfl⟩)))
  refine ⟨(.int .u32 (rotN (g32 L5 d ^^^ g32 L5 a) 24 : Nat)), (fun β W hSW => ?_), ?_⟩
  · rw [bxor32 _ _ hg5i hg5j]
    refine (rot8_any _ (Nat.xor_lt_two_pow (n := 32) hg5i hg5j) _).mono ?_
    rintro e w' ⟨rfl, rfl⟩
    exact ⟨rfl, hSW⟩
  (try simp only [Act.put, List.setIfInBounds_toArray, List.set_cons_zero, List.set_cons_succ])
  iterate 2 (refine chain_pureA (by decide) (by rfl) ?_; apply Exists.intro; apply And.intro; (case left => (intro β w hSw; (try dsimp only at hSw); go_simp; try with_reducible rfl)); (try simp only [Act.put, List.setIfInBounds_toArray, List.set_cons_zero, List.set_cons_succ]))
  rintro w5 ⟨hM5, hi5, hj5⟩
  have hf5 : w5.frozen? ⟨B, d, none⟩ = false := hM5.1.frozen d
  go_wp2_with fail
  obtain ⟨L6, hL6⟩ : ∃ L, L = mRot L5 d a 24 := ⟨_, rfl⟩
  have ho6 : All32 L6 := by rw [hL6]; exact mRot_ok ho5 _ _ _
  have hg6i := ho6 c
  have hg6j := ho6 d
  have hle6 : L6.length = 16 := by rw [hL6]; exact (List.length_set ..).trans hle5
  have HL6 := Lib.hid hL6
  clear hL6
  refine wp_region_headA 13 [] (fun _ => (fun w' => MixAt B 53 w L6 w' ∧ w'.cell? ⟨B, c, none⟩ = some (.int .u32 (g32 L6 c : Nat)) ∧ w'.cell? ⟨B, d, none⟩ = some (.int .u32 (g32 L6 d : Nat)))) (by kernel_rfl) (by kernel_rfl) (by kernel_rfl) (mix_next (i := d) hM5 HL6.out (by first | rfl | omega | (simp only [IntKind.wrap_u32]; omega)) (by omega) (by omega)) ?_
  iterate 13 (refine chain_pureA (by decide) (by rfl) ?_; apply Exists.intro; apply And.intro; (case left => (intro β w hSw; (try dsimp only at hSw); go_simp; try with_reducible rfl)); (try simp only [Act.put, List.setIfInBounds_toArray, List.set_cons_zero, List.set_cons_succ]))
  rintro w6 ⟨hM6, hi6, hj6⟩
  have hf6 : w6.frozen? ⟨B, c, none⟩ = false := hM6.1.frozen c
  go_wp2_with fail
  obtain ⟨L7, hL7⟩ : ∃ L, L = mAdd L6 c d := ⟨_, rfl⟩
  have ho7 : All32 L7 := by rw [hL7]; exact mAdd_ok ho6 _ _
  have hg7i := ho7 b
  have hg7j := ho7 c
  have hle7 : L7.length = 16 := by rw [hL7]; exact (List.length_set ..).trans hle6
  have HL7 := Lib.hid hL7
  clear hL7
  refine wp_region_headA 16 [] (fun _ => (fun w' => MixAt B 53 w L7 w' ∧ w'.cell? ⟨B, b, none⟩ = some (.int .u32 (g32 L7 b : Nat)) ∧ w'.cell? ⟨B, c, none⟩ = some (.int .u32 (g32 L7 c : Nat)))) (by kernel_rfl) (by kernel_rfl) (by kernel_rfl) (mix_next (i := c) hM6 HL7.out (by first | rfl | omega | (simp only [IntKind.wrap_u32]; omega)) (by omega) (by omega)) ?_
  iterate 13 (refine chain_pureA (by decide) (by rfl) ?_; apply Exists.intro; apply And.intro; (case left => (intro β w hSw; (try dsimp only at hSw); go_simp; try with_reducible rfl)); (try simp only [Act.put, List.setIfInBounds_toArray, List.set_cons_zero, List.set_cons_succ]))
  (refine chain_callA (by decide) (by rfl) ?_; apply Exists.intro; apply Exists.intro; apply And.intro; (case left => (intro w; go_simp; exact ⟨rfl, rfl⟩)))
  refine ⟨(.int .u32 (rotN (g32 L7 b ^^^ g32 L7 c) 25 : Nat)), (fun β W hSW => ?_), ?_⟩
  · rw [bxor32 _ _ hg7i hg7j]
    refine (rot7_any _ (Nat.xor_lt_two_pow (n := 32) hg7i hg7j) _).mono ?_
    rintro e w' ⟨rfl, rfl⟩
    exact ⟨rfl, hSW⟩
  (try simp only [Act.put, List.setIfInBounds_toArray, List.set_cons_zero, List.set_cons_succ])
  iterate 2 (refine chain_pureA (by decide) (by rfl) ?_; apply Exists.intro; apply And.intro; (case left => (intro β w hSw; (try dsimp only at hSw); go_simp; try with_reducible rfl)); (try simp only [Act.put, List.setIfInBounds_toArray, List.set_cons_zero, List.set_cons_succ]))
  rintro w7 ⟨hM7, hi7, hj7⟩
  have hf7 : w7.frozen? ⟨B, b, none⟩ = false := hM7.1.frozen b
  have HE := Lib.hid (show mixN l a b c d x y = mRot L7 b c 25 by rw [HL7.out, HL6.out, HL5.out, HL4.out, HL3.out, HL2.out, HL1.out, HL0.out]; rfl)
  go_wp2
  go_end0
  refine ⟨rfl, ?_⟩
  rw [HE.out]
  exact hM7.set_ b _ _ (by first | rfl | omega)

end Go.Proofs.YtnfpahanbnidpaaDoor
