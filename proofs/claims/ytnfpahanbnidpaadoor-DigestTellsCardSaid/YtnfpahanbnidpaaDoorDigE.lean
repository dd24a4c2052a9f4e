/- The walks of digest: compress. -/
import Derived.Test.YtnfpahanbnidpaaDoorDigD
import Derived.Deep.CutRange
import Derived.Deep.DeepCutAuto
import Derived.Deep.CutBlock
set_option linter.unusedSimpArgs false
set_option linter.unusedVariables false
namespace Go.Proofs.YtnfpahanbnidpaaDoor
open Go.RowKit

def firstN : List Nat := [1779033703, 3144134277, 1013904242, 2773480762, 1359893119, 2600822924, 528734635, 1541459225]
def ordersN : List Nat := [0, 1, 2, 3, 4, 5, 6, 7, 8, 9, 10, 11, 12, 13, 14, 15, 14, 10, 4, 8, 9, 15, 13, 6, 1, 12, 0, 2, 11, 7, 5, 3, 11, 8, 12, 0, 5, 2, 15, 13, 10, 14, 3, 6, 7, 1, 9, 4, 7, 9, 3, 1, 13, 12, 11, 14, 2, 6, 5, 10, 4, 0, 15, 8, 9, 0, 5, 7, 2, 4, 10, 15, 14, 1, 11, 12, 6, 8, 3, 13, 2, 12, 6, 10, 0, 11, 8, 3, 4, 13, 7, 5, 15, 14, 1, 9, 12, 5, 1, 15, 14, 13, 4, 10, 0, 7, 6, 3, 9, 2, 8, 11, 13, 11, 7, 14, 12, 1, 3, 9, 5, 0, 15, 4, 8, 6, 2, 10, 6, 15, 14, 9, 11, 3, 0, 8, 12, 2, 13, 7, 1, 4, 10, 5, 10, 2, 8, 4, 7, 6, 1, 5, 15, 11, 9, 14, 3, 12, 13, 0]
def zrow (k : Nat) : List Nat := (ordersN.drop (16 * k)).take 16
def zeros8 : List Nat := [0, 0, 0, 0, 0, 0, 0, 0]
def u8s (l : List Nat) : Array Value := (l.map fun (n : Nat) => Value.int .u8 (n : Int)).toArray
def half1 (m z : List Nat) : Nat → List Nat → List Nat
  | 0, v => v
  | k + 1, v => mixN (half1 m z k v) k (4 + k) (8 + k) (12 + k) (g32 m (g32 z (2 * k))) (g32 m (g32 z (2 * k + 1)))
def half2 (m z : List Nat) : Nat → List Nat → List Nat
  | 0, v => v
  | k + 1, v => mixN (half2 m z k v) k (4 + (k + 1) % 4) (8 + (k + 2) % 4) (12 + (k + 3) % 4) (g32 m (g32 z (8 + 2 * k))) (g32 m (g32 z (9 + 2 * k)))
def rounds (m : List Nat) : Nat → List Nat → List Nat
  | 0, v => v
  | k + 1, v => half2 m (zrow k) 4 (half1 m (zrow k) 4 (rounds m k v))
def fin8 (v : List Nat) : Nat → List Nat → List Nat
  | 0, h => h
  | k + 1, h => (fin8 v k h).set k (g32 (fin8 v k h) k ^^^ (g32 v k ^^^ g32 v (k + 8)))
def start16 (h : List Nat) (e : Nat) (last : Bool) : List Nat :=
  let v := h ++ firstN
  let v := v.set 12 (g32 v 12 ^^^ (e % 4294967296))
  let v := v.set 13 (g32 v 13 ^^^ (e / 4294967296))
  if last then v.set 14 (4294967295 - g32 v 14) else v
def compressN (h : List Nat) (blk : List UInt8) (e : Nat) (last : Bool) : List Nat := fin8 (rounds (wordsN blk) 10 (start16 h e last)) 8 h

theorem half1_ok {m z : List Nat} : ∀ (k : Nat) (v : List Nat), All32 v → All32 (half1 m z k v) ∧ (half1 m z k v).length = v.length
  | 0, v, h => ⟨h, rfl⟩
  | k + 1, v, h => ⟨mixN_ok (half1_ok k v h).1 _ _ _ _ _ _, (mixN_len _ _ _ _ _ _ _).trans (half1_ok k v h).2⟩
theorem half2_ok {m z : List Nat} : ∀ (k : Nat) (v : List Nat), All32 v → All32 (half2 m z k v) ∧ (half2 m z k v).length = v.length
  | 0, v, h => ⟨h, rfl⟩
  | k + 1, v, h => ⟨mixN_ok (half2_ok k v h).1 _ _ _ _ _ _, (mixN_len _ _ _ _ _ _ _).trans (half2_ok k v h).2⟩
theorem rounds_ok {m : List Nat} : ∀ (k : Nat) (v : List Nat), All32 v → All32 (rounds m k v) ∧ (rounds m k v).length = v.length
  | 0, v, h => ⟨h, rfl⟩
  | k + 1, v, h => by
    have h1 := rounds_ok (m := m) k v h
    have h2 := half1_ok (m := m) (z := zrow k) 4 _ h1.1
    have h3 := half2_ok (m := m) (z := zrow k) 4 _ h2.1
    exact ⟨h3.1, h3.2.trans (h2.2.trans h1.2)⟩
theorem fin8_ok {v : List Nat} (hv : All32 v) : ∀ (k : Nat) (h : List Nat), All32 h → All32 (fin8 v k h) ∧ (fin8 v k h).length = h.length
  | 0, h, hh => ⟨hh, rfl⟩
  | k + 1, h, hh => by
    have h1 := fin8_ok hv k h hh
    refine ⟨h1.1.set _ _ (Nat.xor_lt_two_pow (n := 32) (h1.1 _) (Nat.xor_lt_two_pow (n := 32) (hv _) (hv _))), ?_⟩
    rw [fin8, List.length_set]
    exact h1.2
theorem all32_append {a b : List Nat} (ha : All32 a) (hb : All32 b) : All32 (a ++ b) := by
  intro i
  unfold g32
  rw [List.getD_eq_getElem?_getD, List.getElem?_append]
  split
  · have := ha i; unfold g32 at this; rw [List.getD_eq_getElem?_getD] at this; exact this
  · have := hb (i - a.length); unfold g32 at this; rw [List.getD_eq_getElem?_getD] at this; exact this
theorem firstN_ok : All32 firstN := all32_of (by decide)
theorem start16_ok {h : List Nat} (hh : All32 h) (e : Nat) (he : e < 9223372036854775808) (last : Bool) : All32 (start16 h e last) := by
  have h0 := all32_append hh firstN_ok
  have h1 := h0.set 12 _ (Nat.xor_lt_two_pow (n := 32) (h0 12) (show e % 4294967296 < 2 ^ 32 from Nat.mod_lt _ (by decide)))
  have h2 := h1.set 13 _ (Nat.xor_lt_two_pow (n := 32) (h1 13) (show e / 4294967296 < 2 ^ 32 by omega))
  unfold start16
  dsimp only
  split
  · exact h2.set 14 _ (by omega)
  · exact h2
theorem start16_len {h : List Nat} (hh : h.length = 8) (e : Nat) (last : Bool) : (start16 h e last).length = 16 := by
  unfold start16
  dsimp only
  split <;> simp [hh, firstN]
theorem compressN_ok {h : List Nat} (hh : All32 h) (hl : h.length = 8) (blk : List UInt8) (e : Nat) (he : e < 9223372036854775808) (last : Bool) : All32 (compressN h blk e last) ∧ (compressN h blk e last).length = 8 := by
  have h1 := fin8_ok (rounds_ok (m := wordsN blk) 10 _ (start16_ok hh e he last)).1 8 h hh
  exact ⟨h1.1, h1.2.trans hl⟩
theorem zrow_len (k : Nat) (hk : k < 10) : (zrow k).length = 16 := by
  simp [zrow, ordersN]
  omega
theorem zrow_lt : ∀ k, k < 10 → ∀ j, j < 16 → g32 (zrow k) j < 16 := by decide
/-- The listed package variables, as the walks read them. -/
def LaidAt (w : World) : Prop := (∀ j v, (u32s firstN)[j]? = some v → w.cell? ⟨0, j, none⟩ = some v) ∧ (∀ j v, (u8s ordersN)[j]? = some v → w.cell? ⟨1, j, none⟩ = some v) ∧ 2 ≤ w.heap.size
theorem LaidAt.below {w w' : World} {B : Nat} (h : LaidAt w) (hb : Below B w w') (hB : 2 ≤ B) : LaidAt w' :=
  ⟨fun j v hv => (hb.cell (p := ⟨_, j, none⟩) (show 0 < B by omega)).trans (h.1 j v hv), fun j v hv => (hb.cell (p := ⟨_, j, none⟩) (show 1 < B by omega)).trans (h.2.1 j v hv), Nat.le_trans h.2.2 hb.size⟩

def v32 (l : List Nat) : List Value := l.map fun (n : Nat) => Value.int .u32 (n : Int)
theorem v32_one (l : List Nat) : ∀ v ∈ v32 l, v.oneCell' = true := by
  intro v hv
  simp only [v32, List.mem_map] at hv
  obtain ⟨n, _, rfl⟩ := hv
  rfl
theorem Bk.src {w : World} {g t : Nat} {l : List Nat} (h : Bk w g t (u32s l)) : ∀ j v, (v32 l)[j]? = some v → w.cell? ((⟨g, 0, none⟩ : Addr).add j) = some v := by
  intro j v hv
  have hadd : (⟨g, 0, none⟩ : Addr).add j = ⟨g, j, none⟩ := by unfold Addr.add; split <;> simp_all
  rw [hadd, h.cell]
  simpa [u32s, v32] using hv
theorem LaidAt.src {w : World} (h : LaidAt w) : ∀ j v, (v32 firstN)[j]? = some v → w.cell? ((⟨0, 0, none⟩ : Addr).add j) = some v := by
  intro j v hv
  have hadd : (⟨0, 0, none⟩ : Addr).add j = ⟨0, j, none⟩ := by unfold Addr.add; split <;> simp_all
  rw [hadd]
  exact h.1 j v (by simpa [u32s, v32] using hv)
theorem v32_splice (a b : List Nat) (off : Nat) : splice (v32 a) off (v32 b) = v32 (splice a off b) := by simp [splice, v32]
theorem comp_first {w : World} {g t : Nat} {h : List Nat} (hl : h.length = 8) (hg : w.heap[g]? = some (.cells (splice (v32 zeros16) 0 (v32 h)).toArray t (0, 0))) : Bk w g t (u32s (h ++ zeros8)) := by
  rw [v32_splice, show splice zeros16 0 h = h ++ zeros8 by simp [splice, hl, zeros16, zeros8]] at hg
  exact hg
theorem comp_second {w : World} {g t : Nat} {h : List Nat} (hl : h.length = 8) (hg : w.heap[g]? = some (.cells (splice (v32 (h ++ zeros8)) 8 (v32 firstN)).toArray t (0, 0))) : Bk w g t (u32s (h ++ firstN)) := by
  rw [v32_splice, show splice (h ++ zeros8) 8 firstN = h ++ firstN by simp [splice, hl, firstN, zeros8, List.take_append, List.drop_append]] at hg
  exact hg
theorem unot32 (x : Nat) (hx : x < 4294967296) : Op.unary UnOp.xor (.int .u32 (x : Int)) = pure (.int .u32 ((4294967295 - x : Nat) : Int)) := by
  have h1 : BitVec.ofInt 32 (IntKind.u32.max) = BitVec.allOnes 32 := by decide
  have h2 : (BitVec.ofInt 32 (IntKind.u32.max) ^^^ BitVec.ofInt 32 (x : Int)).toNat = 4294967295 - x := by
    rw [h1, BitVec.allOnes_xor, BitVec.toNat_not, BitVec.ofInt_natCast, BitVec.toNat_ofNat, Nat.mod_eq_of_lt hx]
  have h3 : Op.unary UnOp.xor (.int .u32 (x : Int)) = pure (.int .u32 (IntKind.u32.wrap ((BitVec.ofInt 32 (IntKind.u32.max) ^^^ BitVec.ofInt 32 (x : Int)).toNat : Int))) := rfl
  rw [h3, h2, wraps_u32 _ (by omega) (by omega)]
theorem wpList_load_cells {P : Program} {ops : Array Oper} {rest : List Oper} {o : Oper} {a : Act} {w : World} {Q : Exit → Act → World → Prop} (hgd : o.guard = none) (ty : TypeId) (x : Operand) (ho : o.op = .load ty x)
    (p : Addr) (hx : a.eval x = .pointer (some p)) (cs : Array Value) (hc : ∀ (j : Nat) (v : Value), cs.toList[j]? = some v → w.cell? (p.add j) = some v) (d : TypeDesc)
    (hu : P.underlying ty = some d) (hd : (match d with | .struct _ | .array _ _ => true | _ => false) = true) (hi : (P.info? ty).map (·.size) = some cs.size)
    (h : wpList P ops Q rest (a.put o.dst (.agg cs)) w) : wpList P ops Q (o :: rest) a w :=
  wpList_plain hgd fun _ hK => by
    have hl : (loadCells p cs.toList.length).run P w = .ok cs.toList.toArray w := run_loadCells_list (P := P) w p cs.toList hc
    have hrun : (loadVar ty p).run P w = .ok (.agg cs) w := by
      cases hq : P.info? ty with
      | none => simp [hq] at hi
      | some i =>
        have hs : i.size = cs.size := by simpa [hq] using hi
        have hagg : (isAgg ty).run P w = .ok true w := by
          unfold isAgg
          rw [Sem.run_bind, run_underlying hu w]
          cases d <;> simp_all
        simp only [Array.length_toList, Array.toArray_toList] at hl
        simp [loadVar, Sem.run_bind, hagg, sizeOf, typeInfo, hq, hs, hl]
    unfold Oper.wp execOp
    simp only [ho, hx, Instr.loadAt, Instr.sureAddr, Sem.run_bind, Sem.run_pure, Result.andThen_ok, hrun]
    exact hK _ _ h
theorem LaidAt.src1 {w : World} (h : LaidAt w) : ∀ (j : Nat) (v : Value), (u8s ordersN).toList[j]? = some v → w.cell? ((⟨1, 0, none⟩ : Addr).add j) = some v := by
  intro j v hv
  have hadd : (⟨1, 0, none⟩ : Addr).add j = ⟨1, j, none⟩ := by unfold Addr.add; split <;> simp_all
  rw [hadd]
  exact h.2.1 j v (by simpa using hv)
set_option maxRecDepth 100000 in
theorem index_row0 (w : World) : (Instr.index 56 (.agg (u8s ordersN)) (.int .i64 ((0 : Nat) : Int))).run Tryd.prog w = .ok (.agg (u8s (zrow 0))) w := by kernel_rfl
set_option maxRecDepth 100000 in
theorem index_row1 (w : World) : (Instr.index 56 (.agg (u8s ordersN)) (.int .i64 ((1 : Nat) : Int))).run Tryd.prog w = .ok (.agg (u8s (zrow 1))) w := by kernel_rfl
set_option maxRecDepth 100000 in
theorem index_row2 (w : World) : (Instr.index 56 (.agg (u8s ordersN)) (.int .i64 ((2 : Nat) : Int))).run Tryd.prog w = .ok (.agg (u8s (zrow 2))) w := by kernel_rfl
set_option maxRecDepth 100000 in
theorem index_row3 (w : World) : (Instr.index 56 (.agg (u8s ordersN)) (.int .i64 ((3 : Nat) : Int))).run Tryd.prog w = .ok (.agg (u8s (zrow 3))) w := by kernel_rfl
set_option maxRecDepth 100000 in
theorem index_row4 (w : World) : (Instr.index 56 (.agg (u8s ordersN)) (.int .i64 ((4 : Nat) : Int))).run Tryd.prog w = .ok (.agg (u8s (zrow 4))) w := by kernel_rfl
set_option maxRecDepth 100000 in
theorem index_row5 (w : World) : (Instr.index 56 (.agg (u8s ordersN)) (.int .i64 ((5 : Nat) : Int))).run Tryd.prog w = .ok (.agg (u8s (zrow 5))) w := by kernel_rfl
set_option maxRecDepth 100000 in
theorem index_row6 (w : World) : (Instr.index 56 (.agg (u8s ordersN)) (.int .i64 ((6 : Nat) : Int))).run Tryd.prog w = .ok (.agg (u8s (zrow 6))) w := by kernel_rfl
set_option maxRecDepth 100000 in
theorem index_row7 (w : World) : (Instr.index 56 (.agg (u8s ordersN)) (.int .i64 ((7 : Nat) : Int))).run Tryd.prog w = .ok (.agg (u8s (zrow 7))) w := by kernel_rfl
set_option maxRecDepth 100000 in
theorem index_row8 (w : World) : (Instr.index 56 (.agg (u8s ordersN)) (.int .i64 ((8 : Nat) : Int))).run Tryd.prog w = .ok (.agg (u8s (zrow 8))) w := by kernel_rfl
set_option maxRecDepth 100000 in
theorem index_row9 (w : World) : (Instr.index 56 (.agg (u8s ordersN)) (.int .i64 ((9 : Nat) : Int))).run Tryd.prog w = .ok (.agg (u8s (zrow 9))) w := by kernel_rfl
theorem index_row (k : Nat) (hk : k < 10) (w : World) : (Instr.index 56 (.agg (u8s ordersN)) (.int .i64 (k : Int))).run Tryd.prog w = .ok (.agg (u8s (zrow k))) w := by
  have : k = 0 ∨ k = 1 ∨ k = 2 ∨ k = 3 ∨ k = 4 ∨ k = 5 ∨ k = 6 ∨ k = 7 ∨ k = 8 ∨ k = 9 := by omega
  rcases this with h | h | h | h | h | h | h | h | h | h
  · subst h; exact index_row0 w
  · subst h; exact index_row1 w
  · subst h; exact index_row2 w
  · subst h; exact index_row3 w
  · subst h; exact index_row4 w
  · subst h; exact index_row5 w
  · subst h; exact index_row6 w
  · subst h; exact index_row7 w
  · subst h; exact index_row8 w
  · subst h; exact index_row9 w
theorem info8 {l : List Nat} (h : l.length = 16) : (Tryd.prog.info? 55).map (·.size) = some (u8s l).size := by
  rw [show (u8s l).size = 16 by simp [u8s, h]]
  kernel_rfl
theorem u8s_one (l : List Nat) : (u8s l).all (·.oneCell') = true := by
  unfold u8s
  simp [Value.oneCell']
theorem u8s_size (l : List Nat) : (u8s l).size = l.length := by simp [u8s]
theorem u8s_cell {w : World} {b t i : Nat} {l : List Nat} (h : Bk w b t (u8s l)) (hi : i < l.length) : w.cell? ⟨b, i, none⟩ = some (.int .u8 (g32 l i : Nat)) := by
  rw [h.cell]
  unfold u8s g32
  simp [List.getD_eq_getElem?_getD, List.getElem?_eq_getElem hi]
theorem info8a {l : List Nat} (h : l.length = 8) : (Tryd.prog.info? 45).map (·.size) = some (u32s l).size := by
  rw [show (u32s l).size = 8 by simp [u32s, h]]
  kernel_rfl
/-- The state of compress's last loop. -/
def FinAt (w0 : World) (n b : Nat) (V H : List Nat) (w : World) : Prop :=
  Bk w n 45 (u32s H) ∧ Bk w (n + 1) 45 (u32s zeros8) ∧ Bk w (b + 1) 53 (u32s V) ∧ Below n w0 w ∧ n + 1 < b
theorem FinAt.drew {w0 w : World} {n b : Nat} {V H : List Nat} (h : FinAt w0 n b V H w) : FinAt w0 n b V H w.drew := ⟨h.1, h.2.1, h.2.2.1, h.2.2.2.1.drew, h.2.2.2.2⟩
theorem FinAt.next {w0 w : World} {n b : Nat} {V H : List Nat} (h : FinAt w0 n b V H w) (j q : Nat) : FinAt w0 n b V (H.set j q) (w.setCell ⟨n, j, none⟩ (.int .u32 (q : Int))) := by
  obtain ⟨h1, h2, h3, h4, h5⟩ := h
  exact ⟨u32s_set h1 q, h2.far (p := ⟨n, j, none⟩) (by simp) _, h3.far (p := ⟨n, j, none⟩) (by simp; omega) _, h4.setCell (p := ⟨n, j, none⟩) (Nat.le_refl _) _, h5⟩
/-- The state of a walk of compress: n the block of h, n + 1 the result's, b the block of m, b + 1 that of v. -/
def CompAt (w0 : World) (n b : Nat) (h m v : List Nat) (w : World) : Prop :=
  Bk w n 45 (u32s h) ∧ Bk w (n + 1) 45 (u32s zeros8) ∧ Bk w b 53 (u32s m) ∧ Bk w (b + 1) 53 (u32s v) ∧ Below n w0 w ∧ n + 1 < b ∧ b + 1 < w.heap.size
theorem CompAt.drew {w0 w : World} {n b : Nat} {h m v : List Nat} (hc : CompAt w0 n b h m v w) : CompAt w0 n b h m v w.drew := ⟨hc.1, hc.2.1, hc.2.2.1, hc.2.2.2.1, hc.2.2.2.2.1.drew, hc.2.2.2.2.2⟩
theorem CompAt.step {w0 w w' : World} {n b : Nat} {h m v v' : List Nat} (hc : CompAt w0 n b h m v w) (hb : Below (b + 1) w w') (hv : Bk w' (b + 1) 53 (u32s v')) : CompAt w0 n b h m v' w' := by
  obtain ⟨h1, h2, h3, h4, h5, h6, h7⟩ := hc
  exact ⟨h1.below hb (by omega), h2.below hb (by omega), h3.below hb (by omega), hv, h5.trans (hb.mono (by omega)), h6, Nat.lt_of_lt_of_le h7 hb.size⟩
theorem comp_start {w w1 : World} {h m : List Nat} (hb1 : Below ((w.alloc (.cells (u32s h) 45)).alloc (.cells (u32s zeros8) 45)).heap.size ((w.alloc (.cells (u32s h) 45)).alloc (.cells (u32s zeros8) 45)) w1) :
    CompAt w w.heap.size w1.heap.size h m zeros16 (((w1.alloc (.cells (u32s zeros16) 53)).setRow w1.heap.size (u32s m)).alloc (.cells (u32s zeros16) 53)) := by
  have hz := hb1.size
  have hz' : w.heap.size + 2 ≤ w1.heap.size := by simpa using hz
  have a1 : Bk w1 w.heap.size 45 (u32s h) := ((Bk.new w _ _).alloc _).below hb1 (by simp; omega)
  have a2 : Bk w1 (w.heap.size + 1) 45 (u32s zeros8) := (Bk.newAt _ (by simp) _ _).below hb1 (by simp)
  refine ⟨((a1.alloc _).rowFar (by omega) _).alloc _, ((a2.alloc _).rowFar (by omega) _).alloc _, ((Bk.new w1 _ _).row _).alloc _, Bk.newAt _ (by simp) _ _, ?_, by omega, by simp⟩
  refine (below_setRow (((((Below.refl _ _).alloc (Nat.le_refl _) _).alloc (by simp) _).trans (hb1.mono (by simp; omega))).alloc (by omega) _) (by omega) _).alloc ?_ _
  simp
  omega

set_option maxHeartbeats 4000000 in
set_option maxRecDepth 100000 in
theorem compress_any (h : List Nat) (blk : ByteArray) (e : Nat) (last : Bool) (w : World) (hb : blk.size ≤ 64) (hh : All32 h) (hl : h.length = 8) (he : e < 1000000) (hL : LaidAt w) :
    Calls Tryd.prog 25 #[.agg (u32s h), .string blk, .int .i64 e, .bool last] w fun e' w' => e' = .returned (.agg (u32s (compressN h blk.data.toList e last))) ∧ Below w.heap.size w w' := by
  have HH := Lib.hid hh
  have HL := Lib.hid hl
  have HLA := Lib.hid hL
  clear hh hl hL
  go_enter Tryd.func25, Tryd.ntmps25
  go_wp2_with fail
  refine (words_any blk _ hb).mono ?_
  rintro e' w1 ⟨rfl, hb1⟩
  have HC1 := Lib.hid (comp_start (h := h) (m := wordsN blk.data.toList) hb1)
  have HW := Lib.hid (wordsN_len blk.data.toList)
  have HM := Lib.hid (wordsN_ok blk.data.toList)
  have hz1 : w.heap.size + 2 ≤ w1.heap.size := by have := hb1.size; simpa using this
  have hsz := HLA.out.2.2
  obtain ⟨m, hm⟩ : ∃ m, m = wordsN blk.data.toList := ⟨_, rfl⟩
  have HMM := Lib.hid hm
  rw [← hm] at HC1 HW HM
  rw [← hm]
  clear hb1 hm
  go_wp2_with (refine wpList_store_row rfl 53 _ _ rfl w1.heap.size rfl _ rfl 53 _ (Bk.new w1 _ _) (info16 HW.out) (by rw [u32s_size, HW.out]; rfl) (u32s_one _) ?_)
  refine wp_region_headA 2 [] (fun _ => (CompAt w w.heap.size w1.heap.size h m zeros16)) (by kernel_rfl) (by kernel_rfl) (by kernel_rfl) HC1.out.drew ?_
  iterate 2 (refine chain_pureA (by decide) (by rfl) ?_; apply Exists.intro; apply And.intro; (case left => (intro β w hSw; (try dsimp only at hSw); go_simp; try with_reducible rfl)); (try simp only [Act.put, List.setIfInBounds_toArray, List.set_cons_zero, List.set_cons_succ]))
  rintro w3 hC3
  refine wpList_copy_splice (rest := []) rfl (.tmp 18) (.tmp 19) 47 47 rfl 44 Tryd.underlying47 (by kernel_rfl) _ _ _ _ _ _ rfl rfl (w1.heap.size + 1) 0 (v32 zeros16) 53 hC3.2.2.2.1 (v32 h) (by simp [v32, HL.out]) (fun _ => ⟨rfl, _, rfl, hC3.1.src⟩) (by simp [v32, HL.out, zeros16]) (v32_one h) (w1.heap.size + 1) w3 (Below.refl _ _) (Nat.le_refl _) ?_
  intro w4 HG4 hB4
  have HC4 := Lib.hid (hC3.step hB4 (comp_first HL.out HG4.out))
  clear hC3 hB4 HG4
  go_wp2_with fail
  refine wp_region_headA 2 [] (fun _ => (CompAt w w.heap.size w1.heap.size h m (h ++ zeros8))) (by kernel_rfl) (by kernel_rfl) (by kernel_rfl) HC4.out.drew ?_
  iterate 2 (refine chain_pureA (by decide) (by rfl) ?_; apply Exists.intro; apply And.intro; (case left => (intro β w hSw; (try dsimp only at hSw); go_simp; try with_reducible rfl)); (try simp only [Act.put, List.setIfInBounds_toArray, List.set_cons_zero, List.set_cons_succ]))
  rintro w5 hC5
  refine wpList_copy_splice (rest := []) rfl (.tmp 21) (.tmp 22) 47 47 rfl 44 Tryd.underlying47 (by kernel_rfl) _ _ _ _ _ _ rfl rfl (w1.heap.size + 1) 8 (v32 (h ++ zeros8)) 53 hC5.2.2.2.1 (v32 firstN) rfl (fun _ => ⟨rfl, _, rfl, (HLA.out.below hC5.2.2.2.2.1 hsz).src⟩) (by simp [v32, HL.out, zeros8, firstN]) (v32_one firstN) (w1.heap.size + 1) w5 (Below.refl _ _) (Nat.le_refl _) ?_
  intro w6 HG6 hB6
  have HC6 := Lib.hid (hC5.step hB6 (comp_second HL.out HG6.out))
  clear hC5 hB6 HG6
  obtain ⟨v0, hv0⟩ : ∃ v0, v0 = h ++ firstN := ⟨_, rfl⟩
  have hlv : v0.length = 16 := by rw [hv0]; simp [HL.out, firstN]
  have hov : All32 v0 := by rw [hv0]; exact all32_append HH.out firstN_ok
  have HV0 := Lib.hid hv0
  rw [← hv0] at HC6
  have c12 := u32s_cell HC6.out.2.2.2.1 (i := 12) (by omega)
  have c13 := u32s_cell HC6.out.2.2.2.1 (i := 13) (by omega)
  have c14 := u32s_cell HC6.out.2.2.2.1 (i := 14) (by omega)
  have f12 := HC6.out.2.2.2.1.frozen 12
  have f13 := HC6.out.2.2.2.1.frozen 13
  have f14 := HC6.out.2.2.2.1.frozen 14
  have HLV := Lib.hid hlv
  have HOV := Lib.hid hov
  clear hlv hov hv0
  obtain ⟨x12, hx12⟩ : ∃ x, x = g32 v0 12 := ⟨_, rfl⟩
  obtain ⟨x13, hx13⟩ : ∃ x, x = g32 v0 13 := ⟨_, rfl⟩
  obtain ⟨x14, hx14⟩ : ∃ x, x = g32 v0 14 := ⟨_, rfl⟩
  rw [← hx12] at c12
  rw [← hx13] at c13
  rw [← hx14] at c14
  have l12 : x12 < 4294967296 := by rw [hx12]; exact HOV.out 12
  have l13 : x13 < 4294967296 := by rw [hx13]; exact HOV.out 13
  have l14 : x14 < 4294967296 := by rw [hx14]; exact HOV.out 14
  have b12 : bits .xor .u32 (x12 : Int) (e : Int) = ((x12 ^^^ e % 4294967296 : Nat) : Int) := by
    have : e % 4294967296 = e := by omega
    rw [this]
    exact bxor32 _ _ l12 (by omega)
  have b13 : bits .xor .u32 (x13 : Int) 0 = ((x13 ^^^ e / 4294967296 : Nat) : Int) := by
    have : e / 4294967296 = 0 := by omega
    rw [this]
    exact bxor32 x13 0 l13 (by decide)
  have he0 : (0 : Int) ≤ (e : Int) := by omega
  have hei : (e : Int) < 1000000 := by omega
  have he32 : (e : Int) / 4294967296 = 0 := by omega
  have X12 := Lib.hid hx12
  have X13 := Lib.hid hx13
  have X14 := Lib.hid hx14
  clear hx12 hx13 hx14
  have HS := Lib.hid (show start16 h e last = (if last then ((v0.set 12 (x12 ^^^ e % 4294967296)).set 13 (x13 ^^^ e / 4294967296)).set 14 (4294967295 - x14) else (v0.set 12 (x12 ^^^ e % 4294967296)).set 13 (x13 ^^^ e / 4294967296)) by
    have a : g32 (v0.set 12 (x12 ^^^ e % 4294967296)) 13 = x13 := by rw [X13.out]; unfold g32; simp [List.getD_eq_getElem?_getD, List.getElem?_set]
    have b : g32 ((v0.set 12 (x12 ^^^ e % 4294967296)).set 13 (x13 ^^^ e / 4294967296)) 14 = x14 := by rw [X14.out]; unfold g32; simp [List.getD_eq_getElem?_getD, List.getElem?_set]
    unfold start16
    dsimp only
    rw [← HV0.out, ← X12.out, a, b])
  have HD := Lib.hid (show CompAt w w.heap.size w1.heap.size h m ((v0.set 12 (x12 ^^^ e % 4294967296)).set 13 (x13 ^^^ e / 4294967296)) ((w6.setCell ⟨w1.heap.size + 1, 12, none⟩ (.int .u32 (x12 ^^^ e % 4294967296 : Nat))).setCell ⟨w1.heap.size + 1, 13, none⟩ (.int .u32 (x13 ^^^ e / 4294967296 : Nat))) from
    HC6.out.step (((Below.refl _ _).setCell (p := ⟨w1.heap.size + 1, 12, none⟩) (Nat.le_refl _) _).setCell (p := ⟨w1.heap.size + 1, 13, none⟩) (Nat.le_refl _) _) (u32s_set (u32s_set HC6.out.2.2.2.1 _) _))
  go_upto_if 37 with fail
  go_cut [] from 37 to 41 (fun wx => CompAt w w.heap.size w1.heap.size h m (start16 h e last) wx)
  case first =>
    have hun := unot32 x14 l14
    have i14 : (x14 : Int) < 4294967296 := by omega
    cases last
    · go_wp2_with fail
      go_meet
      case rel =>
        have hs := HS.out
        simp only [Bool.false_eq_true, if_false] at hs
        rw [hs]
        exact HD.out
    · go_wp2_with fail
      go_meet
      case rel =>
        have hs := HS.out
        simp only [if_true] at hs
        rw [hs]
        exact HD.out.step ((Below.refl _ _).setCell (p := ⟨w1.heap.size + 1, 14, none⟩) (Nat.le_refl _) _) (u32s_set HD.out.2.2.2.1 _)
  case rest =>
    have HC8 := Lib.hid hcut
    have HO1 := Lib.hid (start16_ok HH.out e (by omega) last)
    have HL1 := Lib.hid (start16_len HL.out e last)
    obtain ⟨v1, hv1⟩ : ∃ v1, v1 = start16 h e last := ⟨_, rfl⟩
    rw [← hv1] at HC8 HO1 HL1
    have HV1 := Lib.hid hv1
    clear hcut c12 c13 c14 f12 f13 f14 b12 b13 he0 hei he32 hv1 HD HS HC6 HC4 HC1
    go_wp2_with (refine wpList_load_cells rfl 56 _ rfl ⟨1, 0, none⟩ rfl (u8s ordersN) (HLA.out.below HC8.out.2.2.2.2.1 hsz).src1 _ Tryd.underlying56 rfl (by kernel_rfl) ?_)
    go_loopw [43] (fun i wr => ∃ k : Nat, k ≤ 10 ∧ i = .int .i64 k ∧ CompAt w w.heap.size w1.heap.size h m (rounds m k v1) wr) (fun i _ => 10 - (intOf i).toNat)
    case atStart => exact ⟨0, Nat.zero_le _, rfl, HC8.out⟩
    case round =>
      obtain ⟨k, hk, rfl, hC⟩ := hrel
      by_cases hlt : k < 10
      · have hk0 : (0 : Int) ≤ (k : Int) := by omega
        have hki : (k : Int) < 10 := by omega
        have HC := Lib.hid hC
        have HZL := Lib.hid (zrow_len k hlt)
        have HZ := Lib.hid (zrow_lt k hlt)
        clear hC
        have hzz : w1.heap.size + 1 < wr.heap.size := HC.out.2.2.2.2.2.2
        have hidx := fun w => index_row k hlt w
        have HWM := HW
        obtain ⟨Z, hZe⟩ : ∃ Z, Z = zrow k := ⟨_, rfl⟩
        rw [← hZe] at HZL HZ hidx
        have HZE := Lib.hid hZe
        clear hZe
        obtain ⟨vr, hvr⟩ : ∃ v, v = rounds m k v1 := ⟨_, rfl⟩
        rw [← hvr] at HC
        have HVR := Lib.hid (show All32 vr ∧ vr.length = 16 by rw [hvr]; exact ⟨(rounds_ok k _ HO1.out).1, (rounds_ok k _ HO1.out).2.trans HL1.out⟩)
        have HRE := Lib.hid hvr
        clear hvr
        go_wp2_with (refine wpList_store_row rfl 55 _ _ rfl wr.heap.size rfl (u8s Z) rfl 55 _ (Bk.new wr _ _) (info8 HZL.out) (by rw [u8s_size, HZL.out]; rfl) (u8s_one _) ?_)
        have HCZ := Lib.hid (show CompAt w w.heap.size w1.heap.size h m (half1 m Z 0 vr) ((wr.alloc (.cells (u8s zeros16) 55)).setRow wr.heap.size (u8s Z)) ∧ Bk ((wr.alloc (.cells (u8s zeros16) 55)).setRow wr.heap.size (u8s Z)) wr.heap.size 55 (u8s Z) from
          ⟨HC.out.step (below_setRow ((Below.refl _ _).alloc (by omega) _) (by omega) _) ((HC.out.2.2.2.1.alloc _).rowFar (by omega) _), (Bk.new wr _ _).row _⟩)
        obtain ⟨bz, hbz⟩ : ∃ b, b = wr.heap.size := ⟨_, rfl⟩
        rw [← hbz] at hzz HCZ
        simp only [← hbz]
        clear hbz
        go_loopw [46] (fun i wx => ∃ j : Nat, j ≤ 4 ∧ (i, j) ∈ [(Value.int .i64 0, 0), (Value.int .i64 1, 1), (Value.int .i64 2, 2), (Value.int .i64 3, 3), (Value.int .i64 4, 4)] ∧ CompAt w w.heap.size w1.heap.size h m (half1 m Z j vr) wx ∧ Bk wx bz 55 (u8s Z)) (fun i _ => 4 - (intOf i).toNat)
        case atStart => exact ⟨0, by omega, by simp, HCZ.out⟩
        case round =>
          obtain ⟨j, hj, hij, hCx, hBz⟩ := hrel
          have HCX := Lib.hid hCx
          have HBZ := Lib.hid hBz
          clear hCx hBz
          simp only [List.mem_cons, Prod.mk.injEq, List.not_mem_nil, or_false] at hij
          rcases hij with ⟨rfl, rfl⟩ | ⟨rfl, rfl⟩ | ⟨rfl, rfl⟩ | ⟨rfl, rfl⟩ | ⟨rfl, rfl⟩
          · obtain ⟨V, hV⟩ : ∃ V, V = half1 m Z 0 vr := ⟨_, rfl⟩
            rw [← hV] at HCX
            have HVO := Lib.hid (show All32 V ∧ V.length = 16 by rw [hV]; exact ⟨(half1_ok 0 _ HVR.out.1).1, (half1_ok 0 _ HVR.out.1).2.trans HVR.out.2⟩)
            have HVE := Lib.hid hV
            clear hV
            obtain ⟨z0, hz0⟩ : ∃ z, z = g32 Z 0 := ⟨_, rfl⟩
            obtain ⟨z1, hz1'⟩ : ∃ z, z = g32 Z 1 := ⟨_, rfl⟩
            have hz0l : z0 < 16 := by rw [hz0]; exact HZ.out 0 (by decide)
            have hz1l : z1 < 16 := by rw [hz1']; exact HZ.out 1 (by decide)
            have hz0i : (z0 : Int) < 16 := by omega
            have hz1i : (z1 : Int) < 16 := by omega
            have HZ0 := Lib.hid hz0
            have HZ1 := Lib.hid hz1'
            clear hz0 hz1'
            have HST := Lib.hid (show ∀ W, CompAt w w.heap.size w1.heap.size h m V W ∧ Bk W bz 55 (u8s Z) → (CompAt w w.heap.size w1.heap.size h m V W ∧ Bk W bz 55 (u8s Z)) ∧ W.cell? ⟨bz, 0, none⟩ = some (.int .u8 (z0 : Int)) ∧ W.cell? ⟨bz, 1, none⟩ = some (.int .u8 (z1 : Int)) ∧ W.cell? ⟨w1.heap.size, z0, none⟩ = some (.int .u32 (g32 m z0 : Nat)) ∧ W.cell? ⟨w1.heap.size, z1, none⟩ = some (.int .u32 (g32 m z1 : Nat)) from
              fun W hW => ⟨hW, by rw [HZ0.out]; exact u8s_cell hW.2 (by rw [HZL.out]; decide), by rw [HZ1.out]; exact u8s_cell hW.2 (by rw [HZL.out]; decide), u32s_cell hW.1.2.2.1 (by rw [HWM.out]; exact hz0l), u32s_cell hW.1.2.2.1 (by rw [HWM.out]; exact hz1l)⟩)
            obtain ⟨x0, hx0⟩ : ∃ x, x = g32 m z0 := ⟨_, rfl⟩
            obtain ⟨x1, hx1⟩ : ∃ x, x = g32 m z1 := ⟨_, rfl⟩
            rw [← hx0, ← hx1] at HST
            have hx0l : x0 < 4294967296 := by rw [hx0]; exact HM.out _
            have hx1l : x1 < 4294967296 := by rw [hx1]; exact HM.out _
            have HX0 := Lib.hid hx0
            have HX1 := Lib.hid hx1
            clear hx0 hx1
            have W0 : IntKind.i64.wrap 0 = 0 := by decide
            have W1 : IntKind.i64.wrap 1 = 1 := by decide
            have W2 : IntKind.i64.wrap 2 = 2 := by decide
            have W3 : IntKind.i64.wrap 3 = 3 := by decide
            have W4 : IntKind.i64.wrap 4 = 4 := by decide
            have W5 : IntKind.i64.wrap 5 = 5 := by decide
            have W6 : IntKind.i64.wrap 6 = 6 := by decide
            have W7 : IntKind.i64.wrap 7 = 7 := by decide
            have W8 : IntKind.i64.wrap 8 = 8 := by decide
            have W9 : IntKind.i64.wrap 9 = 9 := by decide
            have W10 : IntKind.i64.wrap 10 = 10 := by decide
            have W11 : IntKind.i64.wrap 11 = 11 := by decide
            have W12 : IntKind.i64.wrap 12 = 12 := by decide
            have W13 : IntKind.i64.wrap 13 = 13 := by decide
            have W14 : IntKind.i64.wrap 14 = 14 := by decide
            have W15 : IntKind.i64.wrap 15 = 15 := by decide
            go_wp2_with fail
            refine wp_region_headA 20 [] (fun _ => (fun W => (CompAt w w.heap.size w1.heap.size h m V W ∧ Bk W bz 55 (u8s Z)) ∧ W.cell? ⟨bz, 0, none⟩ = some (.int .u8 (z0 : Int)) ∧ W.cell? ⟨bz, 1, none⟩ = some (.int .u8 (z1 : Int)) ∧ W.cell? ⟨w1.heap.size, z0, none⟩ = some (.int .u32 (x0 : Int)) ∧ W.cell? ⟨w1.heap.size, z1, none⟩ = some (.int .u32 (x1 : Int)))) (by kernel_rfl) (by kernel_rfl) (by kernel_rfl) (HST.out _ ⟨HCX.out.drew, HBZ.out.drew⟩) ?_
            iterate 20 (refine chain_pureA (by decide) (by rfl) ?_; apply Exists.intro; apply And.intro; (case left => (intro β w hSw; (try dsimp only at hSw); go_simp; try with_reducible rfl)); (try simp only [Act.put, List.setIfInBounds_toArray, List.set_cons_zero, List.set_cons_succ]))
            rintro W hW
            have HWX := Lib.hid hW.1
            clear hW
            go_wp2_with fail
            refine (mix_any (w1.heap.size + 1) V 0 4 8 12 x0 x1 W HVO.out.2 HVO.out.1 (by decide) (by decide) (by decide) (by decide) hx0l hx1l HWX.out.1.2.2.2.1).mono ?_
            rintro e' W' ⟨rfl, hMx⟩
            have HN := Lib.hid (show CompAt w w.heap.size w1.heap.size h m (half1 m Z 1 vr) W' ∧ Bk W' bz 55 (u8s Z) from ⟨by
              have hh := HWX.out.1.step hMx.2.1 hMx.1
              rw [HVE.out, HX0.out, HX1.out, HZ0.out, HZ1.out] at hh
              exact hh, (hMx.2.2 _ (by omega)).trans HWX.out.2⟩)
            clear hMx
            go_wp2
            go_roundw
            case rel => exact ⟨1, by omega, by simp, HN.out⟩
            case measure => simp [intOf]
          · obtain ⟨V, hV⟩ : ∃ V, V = half1 m Z 1 vr := ⟨_, rfl⟩
            rw [← hV] at HCX
            have HVO := Lib.hid (show All32 V ∧ V.length = 16 by rw [hV]; exact ⟨(half1_ok 1 _ HVR.out.1).1, (half1_ok 1 _ HVR.out.1).2.trans HVR.out.2⟩)
            have HVE := Lib.hid hV
            clear hV
            obtain ⟨z0, hz0⟩ : ∃ z, z = g32 Z 2 := ⟨_, rfl⟩
            obtain ⟨z1, hz1'⟩ : ∃ z, z = g32 Z 3 := ⟨_, rfl⟩
            have hz0l : z0 < 16 := by rw [hz0]; exact HZ.out 2 (by decide)
            have hz1l : z1 < 16 := by rw [hz1']; exact HZ.out 3 (by decide)
            have hz0i : (z0 : Int) < 16 := by omega
            have hz1i : (z1 : Int) < 16 := by omega
            have HZ0 := Lib.hid hz0
            have HZ1 := Lib.hid hz1'
            clear hz0 hz1'
            have HST := Lib.hid (show ∀ W, CompAt w w.heap.size w1.heap.size h m V W ∧ Bk W bz 55 (u8s Z) → (CompAt w w.heap.size w1.heap.size h m V W ∧ Bk W bz 55 (u8s Z)) ∧ W.cell? ⟨bz, 2, none⟩ = some (.int .u8 (z0 : Int)) ∧ W.cell? ⟨bz, 3, none⟩ = some (.int .u8 (z1 : Int)) ∧ W.cell? ⟨w1.heap.size, z0, none⟩ = some (.int .u32 (g32 m z0 : Nat)) ∧ W.cell? ⟨w1.heap.size, z1, none⟩ = some (.int .u32 (g32 m z1 : Nat)) from
              fun W hW => ⟨hW, by rw [HZ0.out]; exact u8s_cell hW.2 (by rw [HZL.out]; decide), by rw [HZ1.out]; exact u8s_cell hW.2 (by rw [HZL.out]; decide), u32s_cell hW.1.2.2.1 (by rw [HWM.out]; exact hz0l), u32s_cell hW.1.2.2.1 (by rw [HWM.out]; exact hz1l)⟩)
            obtain ⟨x0, hx0⟩ : ∃ x, x = g32 m z0 := ⟨_, rfl⟩
            obtain ⟨x1, hx1⟩ : ∃ x, x = g32 m z1 := ⟨_, rfl⟩
            rw [← hx0, ← hx1] at HST
            have hx0l : x0 < 4294967296 := by rw [hx0]; exact HM.out _
            have hx1l : x1 < 4294967296 := by rw [hx1]; exact HM.out _
            have HX0 := Lib.hid hx0
            have HX1 := Lib.hid hx1
            clear hx0 hx1
            have W0 : IntKind.i64.wrap 0 = 0 := by decide
            have W1 : IntKind.i64.wrap 1 = 1 := by decide
            have W2 : IntKind.i64.wrap 2 = 2 := by decide
            have W3 : IntKind.i64.wrap 3 = 3 := by decide
            have W4 : IntKind.i64.wrap 4 = 4 := by decide
            have W5 : IntKind.i64.wrap 5 = 5 := by decide
            have W6 : IntKind.i64.wrap 6 = 6 := by decide
            have W7 : IntKind.i64.wrap 7 = 7 := by decide
            have W8 : IntKind.i64.wrap 8 = 8 := by decide
            have W9 : IntKind.i64.wrap 9 = 9 := by decide
            have W10 : IntKind.i64.wrap 10 = 10 := by decide
            have W11 : IntKind.i64.wrap 11 = 11 := by decide
            have W12 : IntKind.i64.wrap 12 = 12 := by decide
            have W13 : IntKind.i64.wrap 13 = 13 := by decide
            have W14 : IntKind.i64.wrap 14 = 14 := by decide
            have W15 : IntKind.i64.wrap 15 = 15 := by decide
            go_wp2_with fail
            refine wp_region_headA 20 [] (fun _ => (fun W => (CompAt w w.heap.size w1.heap.size h m V W ∧ Bk W bz 55 (u8s Z)) ∧ W.cell? ⟨bz, 2, none⟩ = some (.int .u8 (z0 : Int)) ∧ W.cell? ⟨bz, 3, none⟩ = some (.int .u8 (z1 : Int)) ∧ W.cell? ⟨w1.heap.size, z0, none⟩ = some (.int .u32 (x0 : Int)) ∧ W.cell? ⟨w1.heap.size, z1, none⟩ = some (.int .u32 (x1 : Int)))) (by kernel_rfl) (by kernel_rfl) (by kernel_rfl) (HST.out _ ⟨HCX.out.drew, HBZ.out.drew⟩) ?_
            iterate 20 (refine chain_pureA (by decide) (by rfl) ?_; apply Exists.intro; apply And.intro; (case left => (intro β w hSw; (try dsimp only at hSw); go_simp; try with_reducible rfl)); (try simp only [Act.put, List.setIfInBounds_toArray, List.set_cons_zero, List.set_cons_succ]))
            rintro W hW
            have HWX := Lib.hid hW.1
            clear hW
            go_wp2_with fail
            refine (mix_any (w1.heap.size + 1) V 1 5 9 13 x0 x1 W HVO.out.2 HVO.out.1 (by decide) (by decide) (by decide) (by decide) hx0l hx1l HWX.out.1.2.2.2.1).mono ?_
            rintro e' W' ⟨rfl, hMx⟩
            have HN := Lib.hid (show CompAt w w.heap.size w1.heap.size h m (half1 m Z 2 vr) W' ∧ Bk W' bz 55 (u8s Z) from ⟨by
              have hh := HWX.out.1.step hMx.2.1 hMx.1
              rw [HVE.out, HX0.out, HX1.out, HZ0.out, HZ1.out] at hh
              exact hh, (hMx.2.2 _ (by omega)).trans HWX.out.2⟩)
            clear hMx
            go_wp2
            go_roundw
            case rel => exact ⟨2, by omega, by simp, HN.out⟩
            case measure => simp [intOf]
          · obtain ⟨V, hV⟩ : ∃ V, V = half1 m Z 2 vr := ⟨_, rfl⟩
            rw [← hV] at HCX
            have HVO := Lib.hid (show All32 V ∧ V.length = 16 by rw [hV]; exact ⟨(half1_ok 2 _ HVR.out.1).1, (half1_ok 2 _ HVR.out.1).2.trans HVR.out.2⟩)
            have HVE := Lib.hid hV
            clear hV
            obtain ⟨z0, hz0⟩ : ∃ z, z = g32 Z 4 := ⟨_, rfl⟩
            obtain ⟨z1, hz1'⟩ : ∃ z, z = g32 Z 5 := ⟨_, rfl⟩
            have hz0l : z0 < 16 := by rw [hz0]; exact HZ.out 4 (by decide)
            have hz1l : z1 < 16 := by rw [hz1']; exact HZ.out 5 (by decide)
            have hz0i : (z0 : Int) < 16 := by omega
            have hz1i : (z1 : Int) < 16 := by omega
            have HZ0 := Lib.hid hz0
            have HZ1 := Lib.hid hz1'
            clear hz0 hz1'
            have HST := Lib.hid (show ∀ W, CompAt w w.heap.size w1.heap.size h m V W ∧ Bk W bz 55 (u8s Z) → (CompAt w w.heap.size w1.heap.size h m V W ∧ Bk W bz 55 (u8s Z)) ∧ W.cell? ⟨bz, 4, none⟩ = some (.int .u8 (z0 : Int)) ∧ W.cell? ⟨bz, 5, none⟩ = some (.int .u8 (z1 : Int)) ∧ W.cell? ⟨w1.heap.size, z0, none⟩ = some (.int .u32 (g32 m z0 : Nat)) ∧ W.cell? ⟨w1.heap.size, z1, none⟩ = some (.int .u32 (g32 m z1 : Nat)) from
              fun W hW => ⟨hW, by rw [HZ0.out]; exact u8s_cell hW.2 (by rw [HZL.out]; decide), by rw [HZ1.out]; exact u8s_cell hW.2 (by rw [HZL.out]; decide), u32s_cell hW.1.2.2.1 (by rw [HWM.out]; exact hz0l), u32s_cell hW.1.2.2.1 (by rw [HWM.out]; exact hz1l)⟩)
            obtain ⟨x0, hx0⟩ : ∃ x, x = g32 m z0 := ⟨_, rfl⟩
            obtain ⟨x1, hx1⟩ : ∃ x, x = g32 m z1 := ⟨_, rfl⟩
            rw [← hx0, ← hx1] at HST
            have hx0l : x0 < 4294967296 := by rw [hx0]; exact HM.out _
            have hx1l : x1 < 4294967296 := by rw [hx1]; exact HM.out _
            have HX0 := Lib.hid hx0
            have HX1 := Lib.hid hx1
            clear hx0 hx1
            have W0 : IntKind.i64.wrap 0 = 0 := by decide
            have W1 : IntKind.i64.wrap 1 = 1 := by decide
            have W2 : IntKind.i64.wrap 2 = 2 := by decide
            have W3 : IntKind.i64.wrap 3 = 3 := by decide
            have W4 : IntKind.i64.wrap 4 = 4 := by decide
            have W5 : IntKind.i64.wrap 5 = 5 := by decide
            have W6 : IntKind.i64.wrap 6 = 6 := by decide
            have W7 : IntKind.i64.wrap 7 = 7 := by decide
            have W8 : IntKind.i64.wrap 8 = 8 := by decide
            have W9 : IntKind.i64.wrap 9 = 9 := by decide
            have W10 : IntKind.i64.wrap 10 = 10 := by decide
            have W11 : IntKind.i64.wrap 11 = 11 := by decide
            have W12 : IntKind.i64.wrap 12 = 12 := by decide
            have W13 : IntKind.i64.wrap 13 = 13 := by decide
            have W14 : IntKind.i64.wrap 14 = 14 := by decide
            have W15 : IntKind.i64.wrap 15 = 15 := by decide
            go_wp2_with fail
            refine wp_region_headA 20 [] (fun _ => (fun W => (CompAt w w.heap.size w1.heap.size h m V W ∧ Bk W bz 55 (u8s Z)) ∧ W.cell? ⟨bz, 4, none⟩ = some (.int .u8 (z0 : Int)) ∧ W.cell? ⟨bz, 5, none⟩ = some (.int .u8 (z1 : Int)) ∧ W.cell? ⟨w1.heap.size, z0, none⟩ = some (.int .u32 (x0 : Int)) ∧ W.cell? ⟨w1.heap.size, z1, none⟩ = some (.int .u32 (x1 : Int)))) (by kernel_rfl) (by kernel_rfl) (by kernel_rfl) (HST.out _ ⟨HCX.out.drew, HBZ.out.drew⟩) ?_
            iterate 20 (refine chain_pureA (by decide) (by rfl) ?_; apply Exists.intro; apply And.intro; (case left => (intro β w hSw; (try dsimp only at hSw); go_simp; try with_reducible rfl)); (try simp only [Act.put, List.setIfInBounds_toArray, List.set_cons_zero, List.set_cons_succ]))
            rintro W hW
            have HWX := Lib.hid hW.1
            clear hW
            go_wp2_with fail
            refine (mix_any (w1.heap.size + 1) V 2 6 10 14 x0 x1 W HVO.out.2 HVO.out.1 (by decide) (by decide) (by decide) (by decide) hx0l hx1l HWX.out.1.2.2.2.1).mono ?_
            rintro e' W' ⟨rfl, hMx⟩
            have HN := Lib.hid (show CompAt w w.heap.size w1.heap.size h m (half1 m Z 3 vr) W' ∧ Bk W' bz 55 (u8s Z) from ⟨by
              have hh := HWX.out.1.step hMx.2.1 hMx.1
              rw [HVE.out, HX0.out, HX1.out, HZ0.out, HZ1.out] at hh
              exact hh, (hMx.2.2 _ (by omega)).trans HWX.out.2⟩)
            clear hMx
            go_wp2
            go_roundw
            case rel => exact ⟨3, by omega, by simp, HN.out⟩
            case measure => simp [intOf]
          · obtain ⟨V, hV⟩ : ∃ V, V = half1 m Z 3 vr := ⟨_, rfl⟩
            rw [← hV] at HCX
            have HVO := Lib.hid (show All32 V ∧ V.length = 16 by rw [hV]; exact ⟨(half1_ok 3 _ HVR.out.1).1, (half1_ok 3 _ HVR.out.1).2.trans HVR.out.2⟩)
            have HVE := Lib.hid hV
            clear hV
            obtain ⟨z0, hz0⟩ : ∃ z, z = g32 Z 6 := ⟨_, rfl⟩
            obtain ⟨z1, hz1'⟩ : ∃ z, z = g32 Z 7 := ⟨_, rfl⟩
            have hz0l : z0 < 16 := by rw [hz0]; exact HZ.out 6 (by decide)
            have hz1l : z1 < 16 := by rw [hz1']; exact HZ.out 7 (by decide)
            have hz0i : (z0 : Int) < 16 := by omega
            have hz1i : (z1 : Int) < 16 := by omega
            have HZ0 := Lib.hid hz0
            have HZ1 := Lib.hid hz1'
            clear hz0 hz1'
            have HST := Lib.hid (show ∀ W, CompAt w w.heap.size w1.heap.size h m V W ∧ Bk W bz 55 (u8s Z) → (CompAt w w.heap.size w1.heap.size h m V W ∧ Bk W bz 55 (u8s Z)) ∧ W.cell? ⟨bz, 6, none⟩ = some (.int .u8 (z0 : Int)) ∧ W.cell? ⟨bz, 7, none⟩ = some (.int .u8 (z1 : Int)) ∧ W.cell? ⟨w1.heap.size, z0, none⟩ = some (.int .u32 (g32 m z0 : Nat)) ∧ W.cell? ⟨w1.heap.size, z1, none⟩ = some (.int .u32 (g32 m z1 : Nat)) from
              fun W hW => ⟨hW, by rw [HZ0.out]; exact u8s_cell hW.2 (by rw [HZL.out]; decide), by rw [HZ1.out]; exact u8s_cell hW.2 (by rw [HZL.out]; decide), u32s_cell hW.1.2.2.1 (by rw [HWM.out]; exact hz0l), u32s_cell hW.1.2.2.1 (by rw [HWM.out]; exact hz1l)⟩)
            obtain ⟨x0, hx0⟩ : ∃ x, x = g32 m z0 := ⟨_, rfl⟩
            obtain ⟨x1, hx1⟩ : ∃ x, x = g32 m z1 := ⟨_, rfl⟩
            rw [← hx0, ← hx1] at HST
            have hx0l : x0 < 4294967296 := by rw [hx0]; exact HM.out _
            have hx1l : x1 < 4294967296 := by rw [hx1]; exact HM.out _
            have HX0 := Lib.hid hx0
            have HX1 := Lib.hid hx1
            clear hx0 hx1
            have W0 : IntKind.i64.wrap 0 = 0 := by decide
            have W1 : IntKind.i64.wrap 1 = 1 := by decide
            have W2 : IntKind.i64.wrap 2 = 2 := by decide
            have W3 : IntKind.i64.wrap 3 = 3 := by decide
            have W4 : IntKind.i64.wrap 4 = 4 := by decide
            have W5 : IntKind.i64.wrap 5 = 5 := by decide
            have W6 : IntKind.i64.wrap 6 = 6 := by decide
            have W7 : IntKind.i64.wrap 7 = 7 := by decide
            have W8 : IntKind.i64.wrap 8 = 8 := by decide
            have W9 : IntKind.i64.wrap 9 = 9 := by decide
            have W10 : IntKind.i64.wrap 10 = 10 := by decide
            have W11 : IntKind.i64.wrap 11 = 11 := by decide
            have W12 : IntKind.i64.wrap 12 = 12 := by decide
            have W13 : IntKind.i64.wrap 13 = 13 := by decide
            have W14 : IntKind.i64.wrap 14 = 14 := by decide
            have W15 : IntKind.i64.wrap 15 = 15 := by decide
            go_wp2_with fail
            refine wp_region_headA 20 [] (fun _ => (fun W => (CompAt w w.heap.size w1.heap.size h m V W ∧ Bk W bz 55 (u8s Z)) ∧ W.cell? ⟨bz, 6, none⟩ = some (.int .u8 (z0 : Int)) ∧ W.cell? ⟨bz, 7, none⟩ = some (.int .u8 (z1 : Int)) ∧ W.cell? ⟨w1.heap.size, z0, none⟩ = some (.int .u32 (x0 : Int)) ∧ W.cell? ⟨w1.heap.size, z1, none⟩ = some (.int .u32 (x1 : Int)))) (by kernel_rfl) (by kernel_rfl) (by kernel_rfl) (HST.out _ ⟨HCX.out.drew, HBZ.out.drew⟩) ?_
            iterate 20 (refine chain_pureA (by decide) (by rfl) ?_; apply Exists.intro; apply And.intro; (case left => (intro β w hSw; (try dsimp only at hSw); go_simp; try with_reducible rfl)); (try simp only [Act.put, List.setIfInBounds_toArray, List.set_cons_zero, List.set_cons_succ]))
            rintro W hW
            have HWX := Lib.hid hW.1
            clear hW
            go_wp2_with fail
            refine (mix_any (w1.heap.size + 1) V 3 7 11 15 x0 x1 W HVO.out.2 HVO.out.1 (by decide) (by decide) (by decide) (by decide) hx0l hx1l HWX.out.1.2.2.2.1).mono ?_
            rintro e' W' ⟨rfl, hMx⟩
            have HN := Lib.hid (show CompAt w w.heap.size w1.heap.size h m (half1 m Z 4 vr) W' ∧ Bk W' bz 55 (u8s Z) from ⟨by
              have hh := HWX.out.1.step hMx.2.1 hMx.1
              rw [HVE.out, HX0.out, HX1.out, HZ0.out, HZ1.out] at hh
              exact hh, (hMx.2.2 _ (by omega)).trans HWX.out.2⟩)
            clear hMx
            go_wp2
            go_roundw
            case rel => exact ⟨4, by omega, by simp, HN.out⟩
            case measure => simp [intOf]
          · obtain ⟨vs, hvs⟩ : ∃ v, v = half1 m Z 4 vr := ⟨_, rfl⟩
            rw [← hvs] at HCX
            have HVS := Lib.hid (show All32 vs ∧ vs.length = 16 by rw [hvs]; exact ⟨(half1_ok 4 _ HVR.out.1).1, (half1_ok 4 _ HVR.out.1).2.trans HVR.out.2⟩)
            have HSE := Lib.hid hvs
            clear hvs
            have HCY := Lib.hid (show CompAt w w.heap.size w1.heap.size h m (half2 m Z 0 vs) wr ∧ Bk wr bz 55 (u8s Z) from ⟨HCX.out, HBZ.out⟩)
            go_wp2_with fail
            go_loopw [71] (fun i wx => ∃ j : Nat, j ≤ 4 ∧ (i, j) ∈ [(Value.int .i64 0, 0), (Value.int .i64 1, 1), (Value.int .i64 2, 2), (Value.int .i64 3, 3), (Value.int .i64 4, 4)] ∧ CompAt w w.heap.size w1.heap.size h m (half2 m Z j vs) wx ∧ Bk wx bz 55 (u8s Z)) (fun i _ => 4 - (intOf i).toNat)
            case atStart => exact ⟨0, by omega, by simp, HCY.out⟩
            case round =>
              obtain ⟨j, hj, hij, hCx, hBz⟩ := hrel
              have HCX := Lib.hid hCx
              have HBZ := Lib.hid hBz
              clear hCx hBz
              simp only [List.mem_cons, Prod.mk.injEq, List.not_mem_nil, or_false] at hij
              rcases hij with ⟨rfl, rfl⟩ | ⟨rfl, rfl⟩ | ⟨rfl, rfl⟩ | ⟨rfl, rfl⟩ | ⟨rfl, rfl⟩
              · obtain ⟨V, hV⟩ : ∃ V, V = half2 m Z 0 vs := ⟨_, rfl⟩
                rw [← hV] at HCX
                have HVO := Lib.hid (show All32 V ∧ V.length = 16 by rw [hV]; exact ⟨(half2_ok 0 _ HVS.out.1).1, (half2_ok 0 _ HVS.out.1).2.trans HVS.out.2⟩)
                have HVE := Lib.hid hV
                clear hV
                obtain ⟨z0, hz0⟩ : ∃ z, z = g32 Z 8 := ⟨_, rfl⟩
                obtain ⟨z1, hz1'⟩ : ∃ z, z = g32 Z 9 := ⟨_, rfl⟩
                have hz0l : z0 < 16 := by rw [hz0]; exact HZ.out 8 (by decide)
                have hz1l : z1 < 16 := by rw [hz1']; exact HZ.out 9 (by decide)
                have hz0i : (z0 : Int) < 16 := by omega
                have hz1i : (z1 : Int) < 16 := by omega
                have HZ0 := Lib.hid hz0
                have HZ1 := Lib.hid hz1'
                clear hz0 hz1'
                have HST := Lib.hid (show ∀ W, CompAt w w.heap.size w1.heap.size h m V W ∧ Bk W bz 55 (u8s Z) → (CompAt w w.heap.size w1.heap.size h m V W ∧ Bk W bz 55 (u8s Z)) ∧ W.cell? ⟨bz, 8, none⟩ = some (.int .u8 (z0 : Int)) ∧ W.cell? ⟨bz, 9, none⟩ = some (.int .u8 (z1 : Int)) ∧ W.cell? ⟨w1.heap.size, z0, none⟩ = some (.int .u32 (g32 m z0 : Nat)) ∧ W.cell? ⟨w1.heap.size, z1, none⟩ = some (.int .u32 (g32 m z1 : Nat)) from
                  fun W hW => ⟨hW, by rw [HZ0.out]; exact u8s_cell hW.2 (by rw [HZL.out]; decide), by rw [HZ1.out]; exact u8s_cell hW.2 (by rw [HZL.out]; decide), u32s_cell hW.1.2.2.1 (by rw [HWM.out]; exact hz0l), u32s_cell hW.1.2.2.1 (by rw [HWM.out]; exact hz1l)⟩)
                obtain ⟨x0, hx0⟩ : ∃ x, x = g32 m z0 := ⟨_, rfl⟩
                obtain ⟨x1, hx1⟩ : ∃ x, x = g32 m z1 := ⟨_, rfl⟩
                rw [← hx0, ← hx1] at HST
                have hx0l : x0 < 4294967296 := by rw [hx0]; exact HM.out _
                have hx1l : x1 < 4294967296 := by rw [hx1]; exact HM.out _
                have HX0 := Lib.hid hx0
                have HX1 := Lib.hid hx1
                clear hx0 hx1
                have T1 : (1 : Int).tmod 4 = 1 := by decide
                have T2 : (2 : Int).tmod 4 = 2 := by decide
                have T3 : (3 : Int).tmod 4 = 3 := by decide
                have T4 : (4 : Int).tmod 4 = 0 := by decide
                have T5 : (5 : Int).tmod 4 = 1 := by decide
                have T6 : (6 : Int).tmod 4 = 2 := by decide
                have W0 : IntKind.i64.wrap 0 = 0 := by decide
                have W1 : IntKind.i64.wrap 1 = 1 := by decide
                have W2 : IntKind.i64.wrap 2 = 2 := by decide
                have W3 : IntKind.i64.wrap 3 = 3 := by decide
                have W4 : IntKind.i64.wrap 4 = 4 := by decide
                have W5 : IntKind.i64.wrap 5 = 5 := by decide
                have W6 : IntKind.i64.wrap 6 = 6 := by decide
                have W7 : IntKind.i64.wrap 7 = 7 := by decide
                have W8 : IntKind.i64.wrap 8 = 8 := by decide
                have W9 : IntKind.i64.wrap 9 = 9 := by decide
                have W10 : IntKind.i64.wrap 10 = 10 := by decide
                have W11 : IntKind.i64.wrap 11 = 11 := by decide
                have W12 : IntKind.i64.wrap 12 = 12 := by decide
                have W13 : IntKind.i64.wrap 13 = 13 := by decide
                have W14 : IntKind.i64.wrap 14 = 14 := by decide
                have W15 : IntKind.i64.wrap 15 = 15 := by decide
                go_wp2_with fail
                refine wp_region_headA 27 [] (fun _ => (fun W => (CompAt w w.heap.size w1.heap.size h m V W ∧ Bk W bz 55 (u8s Z)) ∧ W.cell? ⟨bz, 8, none⟩ = some (.int .u8 (z0 : Int)) ∧ W.cell? ⟨bz, 9, none⟩ = some (.int .u8 (z1 : Int)) ∧ W.cell? ⟨w1.heap.size, z0, none⟩ = some (.int .u32 (x0 : Int)) ∧ W.cell? ⟨w1.heap.size, z1, none⟩ = some (.int .u32 (x1 : Int)))) (by kernel_rfl) (by kernel_rfl) (by kernel_rfl) (HST.out _ ⟨HCX.out.drew, HBZ.out.drew⟩) ?_
                iterate 27 (refine chain_pureA (by decide) (by rfl) ?_; apply Exists.intro; apply And.intro; (case left => (intro β w hSw; (try dsimp only at hSw); go_simp; try with_reducible rfl)); (try simp only [Act.put, List.setIfInBounds_toArray, List.set_cons_zero, List.set_cons_succ]))
                rintro W hW
                have HWX := Lib.hid hW.1
                clear hW
                go_wp2_with fail
                refine (mix_any (w1.heap.size + 1) V 0 5 10 15 x0 x1 W HVO.out.2 HVO.out.1 (by decide) (by decide) (by decide) (by decide) hx0l hx1l HWX.out.1.2.2.2.1).mono ?_
                rintro e' W' ⟨rfl, hMx⟩
                have HN := Lib.hid (show CompAt w w.heap.size w1.heap.size h m (half2 m Z 1 vs) W' ∧ Bk W' bz 55 (u8s Z) from ⟨by
                  have hh := HWX.out.1.step hMx.2.1 hMx.1
                  rw [HVE.out, HX0.out, HX1.out, HZ0.out, HZ1.out] at hh
                  exact hh, (hMx.2.2 _ (by omega)).trans HWX.out.2⟩)
                clear hMx
                go_wp2
                go_roundw
                case rel => exact ⟨1, by omega, by simp, HN.out⟩
                case measure => simp [intOf]
              · obtain ⟨V, hV⟩ : ∃ V, V = half2 m Z 1 vs := ⟨_, rfl⟩
                rw [← hV] at HCX
                have HVO := Lib.hid (show All32 V ∧ V.length = 16 by rw [hV]; exact ⟨(half2_ok 1 _ HVS.out.1).1, (half2_ok 1 _ HVS.out.1).2.trans HVS.out.2⟩)
                have HVE := Lib.hid hV
                clear hV
                obtain ⟨z0, hz0⟩ : ∃ z, z = g32 Z 10 := ⟨_, rfl⟩
                obtain ⟨z1, hz1'⟩ : ∃ z, z = g32 Z 11 := ⟨_, rfl⟩
                have hz0l : z0 < 16 := by rw [hz0]; exact HZ.out 10 (by decide)
                have hz1l : z1 < 16 := by rw [hz1']; exact HZ.out 11 (by decide)
                have hz0i : (z0 : Int) < 16 := by omega
                have hz1i : (z1 : Int) < 16 := by omega
                have HZ0 := Lib.hid hz0
                have HZ1 := Lib.hid hz1'
                clear hz0 hz1'
                have HST := Lib.hid (show ∀ W, CompAt w w.heap.size w1.heap.size h m V W ∧ Bk W bz 55 (u8s Z) → (CompAt w w.heap.size w1.heap.size h m V W ∧ Bk W bz 55 (u8s Z)) ∧ W.cell? ⟨bz, 10, none⟩ = some (.int .u8 (z0 : Int)) ∧ W.cell? ⟨bz, 11, none⟩ = some (.int .u8 (z1 : Int)) ∧ W.cell? ⟨w1.heap.size, z0, none⟩ = some (.int .u32 (g32 m z0 : Nat)) ∧ W.cell? ⟨w1.heap.size, z1, none⟩ = some (.int .u32 (g32 m z1 : Nat)) from
                  fun W hW => ⟨hW, by rw [HZ0.out]; exact u8s_cell hW.2 (by rw [HZL.out]; decide), by rw [HZ1.out]; exact u8s_cell hW.2 (by rw [HZL.out]; decide), u32s_cell hW.1.2.2.1 (by rw [HWM.out]; exact hz0l), u32s_cell hW.1.2.2.1 (by rw [HWM.out]; exact hz1l)⟩)
                obtain ⟨x0, hx0⟩ : ∃ x, x = g32 m z0 := ⟨_, rfl⟩
                obtain ⟨x1, hx1⟩ : ∃ x, x = g32 m z1 := ⟨_, rfl⟩
                rw [← hx0, ← hx1] at HST
                have hx0l : x0 < 4294967296 := by rw [hx0]; exact HM.out _
                have hx1l : x1 < 4294967296 := by rw [hx1]; exact HM.out _
                have HX0 := Lib.hid hx0
                have HX1 := Lib.hid hx1
                clear hx0 hx1
                have T1 : (1 : Int).tmod 4 = 1 := by decide
                have T2 : (2 : Int).tmod 4 = 2 := by decide
                have T3 : (3 : Int).tmod 4 = 3 := by decide
                have T4 : (4 : Int).tmod 4 = 0 := by decide
                have T5 : (5 : Int).tmod 4 = 1 := by decide
                have T6 : (6 : Int).tmod 4 = 2 := by decide
                have W0 : IntKind.i64.wrap 0 = 0 := by decide
                have W1 : IntKind.i64.wrap 1 = 1 := by decide
                have W2 : IntKind.i64.wrap 2 = 2 := by decide
                have W3 : IntKind.i64.wrap 3 = 3 := by decide
                have W4 : IntKind.i64.wrap 4 = 4 := by decide
                have W5 : IntKind.i64.wrap 5 = 5 := by decide
                have W6 : IntKind.i64.wrap 6 = 6 := by decide
                have W7 : IntKind.i64.wrap 7 = 7 := by decide
                have W8 : IntKind.i64.wrap 8 = 8 := by decide
                have W9 : IntKind.i64.wrap 9 = 9 := by decide
                have W10 : IntKind.i64.wrap 10 = 10 := by decide
                have W11 : IntKind.i64.wrap 11 = 11 := by decide
                have W12 : IntKind.i64.wrap 12 = 12 := by decide
                have W13 : IntKind.i64.wrap 13 = 13 := by decide
                have W14 : IntKind.i64.wrap 14 = 14 := by decide
                have W15 : IntKind.i64.wrap 15 = 15 := by decide
                go_wp2_with fail
                refine wp_region_headA 27 [] (fun _ => (fun W => (CompAt w w.heap.size w1.heap.size h m V W ∧ Bk W bz 55 (u8s Z)) ∧ W.cell? ⟨bz, 10, none⟩ = some (.int .u8 (z0 : Int)) ∧ W.cell? ⟨bz, 11, none⟩ = some (.int .u8 (z1 : Int)) ∧ W.cell? ⟨w1.heap.size, z0, none⟩ = some (.int .u32 (x0 : Int)) ∧ W.cell? ⟨w1.heap.size, z1, none⟩ = some (.int .u32 (x1 : Int)))) (by kernel_rfl) (by kernel_rfl) (by kernel_rfl) (HST.out _ ⟨HCX.out.drew, HBZ.out.drew⟩) ?_
                iterate 27 (refine chain_pureA (by decide) (by rfl) ?_; apply Exists.intro; apply And.intro; (case left => (intro β w hSw; (try dsimp only at hSw); go_simp; try with_reducible rfl)); (try simp only [Act.put, List.setIfInBounds_toArray, List.set_cons_zero, List.set_cons_succ]))
                rintro W hW
                have HWX := Lib.hid hW.1
                clear hW
                go_wp2_with fail
                refine (mix_any (w1.heap.size + 1) V 1 6 11 12 x0 x1 W HVO.out.2 HVO.out.1 (by decide) (by decide) (by decide) (by decide) hx0l hx1l HWX.out.1.2.2.2.1).mono ?_
                rintro e' W' ⟨rfl, hMx⟩
                have HN := Lib.hid (show CompAt w w.heap.size w1.heap.size h m (half2 m Z 2 vs) W' ∧ Bk W' bz 55 (u8s Z) from ⟨by
                  have hh := HWX.out.1.step hMx.2.1 hMx.1
                  rw [HVE.out, HX0.out, HX1.out, HZ0.out, HZ1.out] at hh
                  exact hh, (hMx.2.2 _ (by omega)).trans HWX.out.2⟩)
                clear hMx
                go_wp2
                go_roundw
                case rel => exact ⟨2, by omega, by simp, HN.out⟩
                case measure => simp [intOf]
              · obtain ⟨V, hV⟩ : ∃ V, V = half2 m Z 2 vs := ⟨_, rfl⟩
                rw [← hV] at HCX
                have HVO := Lib.hid (show All32 V ∧ V.length = 16 by rw [hV]; exact ⟨(half2_ok 2 _ HVS.out.1).1, (half2_ok 2 _ HVS.out.1).2.trans HVS.out.2⟩)
                have HVE := Lib.hid hV
                clear hV
                obtain ⟨z0, hz0⟩ : ∃ z, z = g32 Z 12 := ⟨_, rfl⟩
                obtain ⟨z1, hz1'⟩ : ∃ z, z = g32 Z 13 := ⟨_, rfl⟩
                have hz0l : z0 < 16 := by rw [hz0]; exact HZ.out 12 (by decide)
                have hz1l : z1 < 16 := by rw [hz1']; exact HZ.out 13 (by decide)
                have hz0i : (z0 : Int) < 16 := by omega
                have hz1i : (z1 : Int) < 16 := by omega
                have HZ0 := Lib.hid hz0
                have HZ1 := Lib.hid hz1'
                clear hz0 hz1'
                have HST := Lib.hid (show ∀ W, CompAt w w.heap.size w1.heap.size h m V W ∧ Bk W bz 55 (u8s Z) → (CompAt w w.heap.size w1.heap.size h m V W ∧ Bk W bz 55 (u8s Z)) ∧ W.cell? ⟨bz, 12, none⟩ = some (.int .u8 (z0 : Int)) ∧ W.cell? ⟨bz, 13, none⟩ = some (.int .u8 (z1 : Int)) ∧ W.cell? ⟨w1.heap.size, z0, none⟩ = some (.int .u32 (g32 m z0 : Nat)) ∧ W.cell? ⟨w1.heap.size, z1, none⟩ = some (.int .u32 (g32 m z1 : Nat)) from
                  fun W hW => ⟨hW, by rw [HZ0.out]; exact u8s_cell hW.2 (by rw [HZL.out]; decide), by rw [HZ1.out]; exact u8s_cell hW.2 (by rw [HZL.out]; decide), u32s_cell hW.1.2.2.1 (by rw [HWM.out]; exact hz0l), u32s_cell hW.1.2.2.1 (by rw [HWM.out]; exact hz1l)⟩)
                obtain ⟨x0, hx0⟩ : ∃ x, x = g32 m z0 := ⟨_, rfl⟩
                obtain ⟨x1, hx1⟩ : ∃ x, x = g32 m z1 := ⟨_, rfl⟩
                rw [← hx0, ← hx1] at HST
                have hx0l : x0 < 4294967296 := by rw [hx0]; exact HM.out _
                have hx1l : x1 < 4294967296 := by rw [hx1]; exact HM.out _
                have HX0 := Lib.hid hx0
                have HX1 := Lib.hid hx1
                clear hx0 hx1
                have T1 : (1 : Int).tmod 4 = 1 := by decide
                have T2 : (2 : Int).tmod 4 = 2 := by decide
                have T3 : (3 : Int).tmod 4 = 3 := by decide
                have T4 : (4 : Int).tmod 4 = 0 := by decide
                have T5 : (5 : Int).tmod 4 = 1 := by decide
                have T6 : (6 : Int).tmod 4 = 2 := by decide
                have W0 : IntKind.i64.wrap 0 = 0 := by decide
                have W1 : IntKind.i64.wrap 1 = 1 := by decide
                have W2 : IntKind.i64.wrap 2 = 2 := by decide
                have W3 : IntKind.i64.wrap 3 = 3 := by decide
                have W4 : IntKind.i64.wrap 4 = 4 := by decide
                have W5 : IntKind.i64.wrap 5 = 5 := by decide
                have W6 : IntKind.i64.wrap 6 = 6 := by decide
                have W7 : IntKind.i64.wrap 7 = 7 := by decide
                have W8 : IntKind.i64.wrap 8 = 8 := by decide
                have W9 : IntKind.i64.wrap 9 = 9 := by decide
                have W10 : IntKind.i64.wrap 10 = 10 := by decide
                have W11 : IntKind.i64.wrap 11 = 11 := by decide
                have W12 : IntKind.i64.wrap 12 = 12 := by decide
                have W13 : IntKind.i64.wrap 13 = 13 := by decide
                have W14 : IntKind.i64.wrap 14 = 14 := by decide
                have W15 : IntKind.i64.wrap 15 = 15 := by decide
                go_wp2_with fail
                refine wp_region_headA 27 [] (fun _ => (fun W => (CompAt w w.heap.size w1.heap.size h m V W ∧ Bk W bz 55 (u8s Z)) ∧ W.cell? ⟨bz, 12, none⟩ = some (.int .u8 (z0 : Int)) ∧ W.cell? ⟨bz, 13, none⟩ = some (.int .u8 (z1 : Int)) ∧ W.cell? ⟨w1.heap.size, z0, none⟩ = some (.int .u32 (x0 : Int)) ∧ W.cell? ⟨w1.heap.size, z1, none⟩ = some (.int .u32 (x1 : Int)))) (by kernel_rfl) (by kernel_rfl) (by kernel_rfl) (HST.out _ ⟨HCX.out.drew, HBZ.out.drew⟩) ?_
                iterate 27 (refine chain_pureA (by decide) (by rfl) ?_; apply Exists.intro; apply And.intro; (case left => (intro β w hSw; (try dsimp only at hSw); go_simp; try with_reducible rfl)); (try simp only [Act.put, List.setIfInBounds_toArray, List.set_cons_zero, List.set_cons_succ]))
                rintro W hW
                have HWX := Lib.hid hW.1
                clear hW
                go_wp2_with fail
                refine (mix_any (w1.heap.size + 1) V 2 7 8 13 x0 x1 W HVO.out.2 HVO.out.1 (by decide) (by decide) (by decide) (by decide) hx0l hx1l HWX.out.1.2.2.2.1).mono ?_
                rintro e' W' ⟨rfl, hMx⟩
                have HN := Lib.hid (show CompAt w w.heap.size w1.heap.size h m (half2 m Z 3 vs) W' ∧ Bk W' bz 55 (u8s Z) from ⟨by
                  have hh := HWX.out.1.step hMx.2.1 hMx.1
                  rw [HVE.out, HX0.out, HX1.out, HZ0.out, HZ1.out] at hh
                  exact hh, (hMx.2.2 _ (by omega)).trans HWX.out.2⟩)
                clear hMx
                go_wp2
                go_roundw
                case rel => exact ⟨3, by omega, by simp, HN.out⟩
                case measure => simp [intOf]
              · obtain ⟨V, hV⟩ : ∃ V, V = half2 m Z 3 vs := ⟨_, rfl⟩
                rw [← hV] at HCX
                have HVO := Lib.hid (show All32 V ∧ V.length = 16 by rw [hV]; exact ⟨(half2_ok 3 _ HVS.out.1).1, (half2_ok 3 _ HVS.out.1).2.trans HVS.out.2⟩)
                have HVE := Lib.hid hV
                clear hV
                obtain ⟨z0, hz0⟩ : ∃ z, z = g32 Z 14 := ⟨_, rfl⟩
                obtain ⟨z1, hz1'⟩ : ∃ z, z = g32 Z 15 := ⟨_, rfl⟩
                have hz0l : z0 < 16 := by rw [hz0]; exact HZ.out 14 (by decide)
                have hz1l : z1 < 16 := by rw [hz1']; exact HZ.out 15 (by decide)
                have hz0i : (z0 : Int) < 16 := by omega
                have hz1i : (z1 : Int) < 16 := by omega
                have HZ0 := Lib.hid hz0
                have HZ1 := Lib.hid hz1'
                clear hz0 hz1'
                have HST := Lib.hid (show ∀ W, CompAt w w.heap.size w1.heap.size h m V W ∧ Bk W bz 55 (u8s Z) → (CompAt w w.heap.size w1.heap.size h m V W ∧ Bk W bz 55 (u8s Z)) ∧ W.cell? ⟨bz, 14, none⟩ = some (.int .u8 (z0 : Int)) ∧ W.cell? ⟨bz, 15, none⟩ = some (.int .u8 (z1 : Int)) ∧ W.cell? ⟨w1.heap.size, z0, none⟩ = some (.int .u32 (g32 m z0 : Nat)) ∧ W.cell? ⟨w1.heap.size, z1, none⟩ = some (.int .u32 (g32 m z1 : Nat)) from
                  fun W hW => ⟨hW, by rw [HZ0.out]; exact u8s_cell hW.2 (by rw [HZL.out]; decide), by rw [HZ1.out]; exact u8s_cell hW.2 (by rw [HZL.out]; decide), u32s_cell hW.1.2.2.1 (by rw [HWM.out]; exact hz0l), u32s_cell hW.1.2.2.1 (by rw [HWM.out]; exact hz1l)⟩)
                obtain ⟨x0, hx0⟩ : ∃ x, x = g32 m z0 := ⟨_, rfl⟩
                obtain ⟨x1, hx1⟩ : ∃ x, x = g32 m z1 := ⟨_, rfl⟩
                rw [← hx0, ← hx1] at HST
                have hx0l : x0 < 4294967296 := by rw [hx0]; exact HM.out _
                have hx1l : x1 < 4294967296 := by rw [hx1]; exact HM.out _
                have HX0 := Lib.hid hx0
                have HX1 := Lib.hid hx1
                clear hx0 hx1
                have T1 : (1 : Int).tmod 4 = 1 := by decide
                have T2 : (2 : Int).tmod 4 = 2 := by decide
                have T3 : (3 : Int).tmod 4 = 3 := by decide
                have T4 : (4 : Int).tmod 4 = 0 := by decide
                have T5 : (5 : Int).tmod 4 = 1 := by decide
                have T6 : (6 : Int).tmod 4 = 2 := by decide
                have W0 : IntKind.i64.wrap 0 = 0 := by decide
                have W1 : IntKind.i64.wrap 1 = 1 := by decide
                have W2 : IntKind.i64.wrap 2 = 2 := by decide
                have W3 : IntKind.i64.wrap 3 = 3 := by decide
                have W4 : IntKind.i64.wrap 4 = 4 := by decide
                have W5 : IntKind.i64.wrap 5 = 5 := by decide
                have W6 : IntKind.i64.wrap 6 = 6 := by decide
                have W7 : IntKind.i64.wrap 7 = 7 := by decide
                have W8 : IntKind.i64.wrap 8 = 8 := by decide
                have W9 : IntKind.i64.wrap 9 = 9 := by decide
                have W10 : IntKind.i64.wrap 10 = 10 := by decide
                have W11 : IntKind.i64.wrap 11 = 11 := by decide
                have W12 : IntKind.i64.wrap 12 = 12 := by decide
                have W13 : IntKind.i64.wrap 13 = 13 := by decide
                have W14 : IntKind.i64.wrap 14 = 14 := by decide
                have W15 : IntKind.i64.wrap 15 = 15 := by decide
                go_wp2_with fail
                refine wp_region_headA 27 [] (fun _ => (fun W => (CompAt w w.heap.size w1.heap.size h m V W ∧ Bk W bz 55 (u8s Z)) ∧ W.cell? ⟨bz, 14, none⟩ = some (.int .u8 (z0 : Int)) ∧ W.cell? ⟨bz, 15, none⟩ = some (.int .u8 (z1 : Int)) ∧ W.cell? ⟨w1.heap.size, z0, none⟩ = some (.int .u32 (x0 : Int)) ∧ W.cell? ⟨w1.heap.size, z1, none⟩ = some (.int .u32 (x1 : Int)))) (by kernel_rfl) (by kernel_rfl) (by kernel_rfl) (HST.out _ ⟨HCX.out.drew, HBZ.out.drew⟩) ?_
                iterate 27 (refine chain_pureA (by decide) (by rfl) ?_; apply Exists.intro; apply And.intro; (case left => (intro β w hSw; (try dsimp only at hSw); go_simp; try with_reducible rfl)); (try simp only [Act.put, List.setIfInBounds_toArray, List.set_cons_zero, List.set_cons_succ]))
                rintro W hW
                have HWX := Lib.hid hW.1
                clear hW
                go_wp2_with fail
                refine (mix_any (w1.heap.size + 1) V 3 4 9 14 x0 x1 W HVO.out.2 HVO.out.1 (by decide) (by decide) (by decide) (by decide) hx0l hx1l HWX.out.1.2.2.2.1).mono ?_
                rintro e' W' ⟨rfl, hMx⟩
                have HN := Lib.hid (show CompAt w w.heap.size w1.heap.size h m (half2 m Z 4 vs) W' ∧ Bk W' bz 55 (u8s Z) from ⟨by
                  have hh := HWX.out.1.step hMx.2.1 hMx.1
                  rw [HVE.out, HX0.out, HX1.out, HZ0.out, HZ1.out] at hh
                  exact hh, (hMx.2.2 _ (by omega)).trans HWX.out.2⟩)
                clear hMx
                go_wp2
                go_roundw
                case rel => exact ⟨4, by omega, by simp, HN.out⟩
                case measure => simp [intOf]
              · go_wp2
                go_roundw
                case rel =>
                  refine ⟨k + 1, by omega, by go_num, ?_⟩
                  have hh := HCX.out
                  rw [HSE.out, HRE.out, HZE.out] at hh
                  exact hh
                case measure => simp [intOf]; omega
      · obtain rfl : k = 10 := by omega
        obtain ⟨V, hV⟩ : ∃ V, V = rounds m 10 v1 := ⟨_, rfl⟩
        have hOV : All32 V := by rw [hV]; exact (rounds_ok 10 _ HO1.out).1
        have hLV : V.length = 16 := by rw [hV]; exact (rounds_ok 10 _ HO1.out).2.trans HL1.out
        rw [← hV] at hC
        have HVE := Lib.hid hV
        have HOVV := Lib.hid hOV
        have HLVV := Lib.hid hLV
        have HFZ := Lib.hid (show FinAt w w.heap.size w1.heap.size V h wr from ⟨hC.1, hC.2.1, hC.2.2.2.1, hC.2.2.2.2.1, by omega⟩)
        clear hV hOV hLV hC
        go_wp2_with fail
        go_loopw [104] (fun i wx => ∃ j : Nat, j ≤ 8 ∧ i = .int .i64 j ∧ FinAt w w.heap.size w1.heap.size V (fin8 V j h) wx) (fun i _ => 8 - (intOf i).toNat)
        case atStart => exact ⟨0, Nat.zero_le _, rfl, HFZ.out⟩
        case round =>
          obtain ⟨j, hj, rfl, hFA⟩ := hrel
          by_cases hjl : j < 8
          · obtain ⟨H, hH⟩ : ∃ H, H = fin8 V j h := ⟨_, rfl⟩
            rw [← hH] at hFA
            have hHO : All32 H ∧ H.length = 8 := by rw [hH]; exact ⟨(fin8_ok HOVV.out j h HH.out).1, (fin8_ok HOVV.out j h HH.out).2.trans HL.out⟩
            obtain ⟨j8, hj8⟩ : ∃ q, q = j + 8 := ⟨_, rfl⟩
            have hj0 : (0 : Int) ≤ (j : Int) := by omega
            have hji : (j : Int) < 8 := by omega
            have hji' : (j : Int) < 16 := by omega
            have hj8i : (j8 : Int) < 16 := by omega
            have hw8 : IntKind.i64.wrap ((j : Int) + 8) = (j8 : Int) := by rw [IntKind.wrap_i64]; omega
            have hw8' : (j : Int) + 8 = (j8 : Int) := by omega
            have hw8'' : IntKind.i64.wrap (j8 : Int) = (j8 : Int) := by rw [IntKind.wrap_i64]; omega
            obtain ⟨hj', hhj⟩ : ∃ x, x = g32 H j := ⟨_, rfl⟩
            obtain ⟨vj, hvj⟩ : ∃ x, x = g32 V j := ⟨_, rfl⟩
            obtain ⟨vj8, hvj8⟩ : ∃ x, x = g32 V j8 := ⟨_, rfl⟩
            have l1 : hj' < 4294967296 := by rw [hhj]; exact hHO.1 j
            have l2 : vj < 4294967296 := by rw [hvj]; exact HOVV.out j
            have l3 : vj8 < 4294967296 := by rw [hvj8]; exact HOVV.out j8
            obtain ⟨p, hp⟩ : ∃ p, p = vj ^^^ vj8 := ⟨_, rfl⟩
            have lp : p < 4294967296 := by rw [hp]; exact Nat.xor_lt_two_pow (n := 32) l2 l3
            obtain ⟨q, hq⟩ : ∃ q, q = hj' ^^^ p := ⟨_, rfl⟩
            have hb1 : bits .xor .u32 (vj : Int) (vj8 : Int) = (p : Int) := by rw [hp]; exact bxor32 _ _ l2 l3
            have hb2 : bits .xor .u32 (hj' : Int) (p : Int) = (q : Int) := by rw [hq]; exact bxor32 _ _ l1 lp
            have HST := Lib.hid (show ∀ W, FinAt w w.heap.size w1.heap.size V H W → FinAt w w.heap.size w1.heap.size V H W ∧ W.cell? ⟨w.heap.size, j, none⟩ = some (.int .u32 (hj' : Int)) ∧ W.cell? ⟨w1.heap.size + 1, j, none⟩ = some (.int .u32 (vj : Int)) ∧ W.cell? ⟨w1.heap.size + 1, j8, none⟩ = some (.int .u32 (vj8 : Int)) from
              fun W hW => ⟨hW, by rw [hhj]; exact u32s_cell hW.1 (by omega), by rw [hvj]; exact u32s_cell hW.2.2.1 (by rw [HLVV.out]; omega), by rw [hvj8]; exact u32s_cell hW.2.2.1 (by rw [HLVV.out]; omega)⟩)
            have HNX := Lib.hid (show fin8 V (j + 1) h = H.set j q by rw [hq, hp, hhj, hvj, hvj8, hj8, hH]; rfl)
            have HFA := Lib.hid hFA
            clear hH hFA hhj hvj hvj8 hp hq hj8
            go_wp2_with fail
            refine wp_region_headA 13 [] (fun _ => (fun W => FinAt w w.heap.size w1.heap.size V H W ∧ W.cell? ⟨w.heap.size, j, none⟩ = some (.int .u32 (hj' : Int)) ∧ W.cell? ⟨w1.heap.size + 1, j, none⟩ = some (.int .u32 (vj : Int)) ∧ W.cell? ⟨w1.heap.size + 1, j8, none⟩ = some (.int .u32 (vj8 : Int)))) (by kernel_rfl) (by kernel_rfl) (by kernel_rfl) (HST.out _ HFA.out.drew) ?_
            iterate 13 (refine chain_pureA (by decide) (by rfl) ?_; apply Exists.intro; apply And.intro; (case left => (intro β w hSw; (try dsimp only at hSw); go_simp; try with_reducible rfl)); (try simp only [Act.put, List.setIfInBounds_toArray, List.set_cons_zero, List.set_cons_succ]))
            rintro W hW
            have hf := hW.1.1.frozen j
            have hcj := hW.2.1
            have HWX := Lib.hid (hW.1.next j q)
            clear hW
            go_wp2
            go_roundw
            case rel =>
              (repeat apply Exists.intro)
              refine ⟨?_, rfl⟩
              exact ⟨j + 1, by omega, by go_num, by rw [HNX.out]; exact HWX.out⟩
            case measure => simp [intOf]; omega
          · obtain rfl : j = 8 := by omega
            have HFA := Lib.hid hFA
            have HFL := Lib.hid (show (fin8 V 8 h).length = 8 from (fin8_ok HOVV.out 8 h HH.out).2.trans HL.out)
            clear hFA
            obtain ⟨R, hR⟩ : ∃ R, R = fin8 V 8 h := ⟨_, rfl⟩
            rw [← hR] at HFA HFL
            have HRE := Lib.hid hR
            clear hR
            go_wp2_with (first | refine wpList_load_row rfl 45 _ rfl w.heap.size rfl 45 _ (0, 0) _ HFA.out.1 Tryd.underlying45 rfl (info8a HFL.out) ?_ | refine wpList_store_row rfl 45 _ _ rfl (w.heap.size + 1) rfl _ rfl 45 _ HFA.out.2.1 (info8a HFL.out) (by rw [u32s_size, u32s_size, HFL.out]; rfl) (u32s_one _) ?_)
            refine bodyPost_ret (results_cell_row rfl _ _ (w.heap.size + 1) 45 _ (0, 0) _ rfl (HFA.out.2.1.row _) Tryd.underlying45 rfl (info8a HFL.out)) rfl ?_
            refine ⟨?_, below_setRow HFA.out.2.2.2.1 (by omega) _⟩
            rw [HRE.out, HVE.out, HMM.out, HV1.out]
            rfl

end Go.Proofs.YtnfpahanbnidpaaDoor
