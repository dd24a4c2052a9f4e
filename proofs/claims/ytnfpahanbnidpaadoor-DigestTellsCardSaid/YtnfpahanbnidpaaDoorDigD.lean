/- The walks of digest: words. -/
import Derived.Test.YtnfpahanbnidpaaDoorDigC
import Derived.Deep.WholeRow
import Derived.Laws.CopyOwn
set_option linter.unusedSimpArgs false
set_option linter.unusedVariables false
namespace Go.Proofs.YtnfpahanbnidpaaDoor
open Go.RowKit

def wordStep (m : List Nat) (i : Nat) (c : UInt8) : List Nat := m.set (i / 4) (g32 m (i / 4) ||| (c.toNat * 2 ^ (8 * (i % 4)) % 4294967296))
def wordsFrom : List UInt8 → Nat → List Nat → List Nat
  | [], _, m => m
  | c :: r, i, m => wordsFrom r (i + 1) (wordStep m i c)
def zeros16 : List Nat := [0, 0, 0, 0, 0, 0, 0, 0, 0, 0, 0, 0, 0, 0, 0, 0]
def wordsN (l : List UInt8) : List Nat := wordsFrom l 0 zeros16
theorem wordsFrom_snoc (c : UInt8) : ∀ (l : List UInt8) (i : Nat) (m : List Nat), wordsFrom (l ++ [c]) i m = wordStep (wordsFrom l i m) (i + l.length) c
  | [], i, m => by simp [wordsFrom]
  | a :: r, i, m => by simp only [List.cons_append, wordsFrom, wordsFrom_snoc c r, List.length_cons]; congr 1; omega
theorem wordsN_take {l : List UInt8} {k : Nat} (h : k < l.length) : wordsN (l.take (k + 1)) = wordStep (wordsN (l.take k)) k l[k] := by
  unfold wordsN
  rw [List.take_succ_eq_append_getElem h, wordsFrom_snoc]
  simp [Nat.min_eq_left (Nat.le_of_lt h)]
theorem wordsFrom_len : ∀ (l : List UInt8) (i : Nat) (m : List Nat), (wordsFrom l i m).length = m.length
  | [], _, _ => rfl
  | c :: r, i, m => by rw [wordsFrom, wordsFrom_len r]; simp [wordStep]
theorem wordsN_len (l : List UInt8) : (wordsN l).length = 16 := wordsFrom_len l 0 _
theorem wordStep_ok {m : List Nat} (h : All32 m) (i : Nat) (c : UInt8) : All32 (wordStep m i c) := h.set _ _ (Nat.or_lt_two_pow (n := 32) (h _) (Nat.mod_lt _ (by decide)))
theorem wordsFrom_ok : ∀ (l : List UInt8) (i : Nat) (m : List Nat), All32 m → All32 (wordsFrom l i m)
  | [], _, _, h => h
  | c :: r, i, m, h => wordsFrom_ok r _ _ (wordStep_ok h i c)
theorem all32_of {l : List Nat} (h : ∀ x ∈ l, x < 4294967296) : All32 l := by
  intro i
  unfold g32
  rw [List.getD_eq_getElem?_getD]
  cases hx : l[i]? with
  | none => exact (by decide)
  | some x => exact h x (List.mem_of_getElem? hx)
theorem zeros16_ok : All32 zeros16 := all32_of (by decide)
theorem wordsN_ok (l : List UInt8) : All32 (wordsN l) := wordsFrom_ok l 0 _ zeros16_ok

theorem info16 {l : List Nat} (h : l.length = 16) : (Tryd.prog.info? 53).map (·.size) = some (u32s l).size := by
  rw [show (u32s l).size = 16 by simp [u32s, h]]
  kernel_rfl
theorem shl_word (k : Nat) (c : UInt8) : Op.shift BinOp.shl IntKind.u32 (IntKind.u32.wrap (c.toNat : Int)) IntKind.i64 (IntKind.i64.wrap (8 * (k : Int).tmod 4)) = pure (.int .u32 ((c.toNat * 2 ^ (8 * (k % 4)) % 4294967296 : Nat) : Int)) := by
  have h1 : (k : Int).tmod 4 = ((k % 4 : Nat) : Int) := rfl
  have h2 : k % 4 < 4 := Nat.mod_lt _ (by decide)
  have h3 : IntKind.i64.wrap (8 * ((k % 4 : Nat) : Int)) = ((8 * (k % 4) : Nat) : Int) := by rw [IntKind.wrap_i64]; omega
  have h4 : IntKind.u32.wrap (c.toNat : Int) = (c.toNat : Int) := by have := c.toNat_lt; rw [IntKind.wrap_u32]; omega
  rw [h1, h3, h4, shift_shl .u32 .i64 _ _ (by omega) (by rw [show IntKind.u32.bits = 32 from rfl]; omega), Int.toNat_natCast, IntKind.wrap_u32]
  rw [Int.natCast_emod, Int.natCast_mul, Int.natCast_pow]
  rfl

theorem wpList_store_row {P : Program} {ops : Array Oper} {rest : List Oper} {o : Oper} {a : Act} {w : World} {Q : Exit → Act → World → Prop} (hgd : o.guard = none) (ty : TypeId) (x y : Operand) (ho : o.op = .store ty x y)
    (g : Nat) (hx : a.eval x = .pointer (some ⟨g, 0, none⟩)) (c' : Array Value) (hy : a.eval y = .agg c') (t : TypeId) (c : Array Value) (hg : w.heap[g]? = some (.cells c t (0, 0)))
    (hi : (P.info? ty).map (·.size) = some c'.size) (hoo : c.size = c'.size) (h1 : c'.all (·.oneCell') = true)
    (h : wpList P ops Q rest (a.put o.dst undef) (w.setRow g c')) : wpList P ops Q (o :: rest) a w :=
  wpList_plain hgd fun _ hK => by
    unfold Oper.wp execOp
    simp only [ho, hx, hy, Instr.storeAt, Instr.sureAddr, Sem.run_bind, Sem.run_pure, Result.andThen_ok, run_storeVar_row w g t ty c c' hg hi hoo h1]
    exact hK _ _ h
theorem Bk.row {w : World} {g t : Nat} {cs : Array Value} (h : Bk w g t cs) (cs' : Array Value) : Bk (w.setRow g cs') g t cs' := setRow_heap w g cs cs' t (0, 0) h
theorem Bk.rowFar {w : World} {g k t : Nat} {cs : Array Value} (h : Bk w g t cs) (hk : g ≠ k) (cs' : Array Value) : Bk (w.setRow k cs') g t cs := (setRow_other w k g cs' hk).trans h
theorem u32s_one (l : List Nat) : (u32s l).all (·.oneCell') = true := by
  unfold u32s
  simp [Value.oneCell']
theorem u32s_size (l : List Nat) : (u32s l).size = l.length := by simp [u32s]

set_option maxHeartbeats 4000000 in
set_option maxRecDepth 100000 in
theorem words_any (s : ByteArray) (w : World) (hs : s.size ≤ 64) :
    Calls Tryd.prog 31 #[.string s] w fun e w' => e = .returned (.agg (u32s (wordsN s.data.toList))) ∧ Below w.heap.size w w' := by
  go_enter Tryd.func31, Tryd.ntmps31
  go_wp2
  go_loopw [7] (fun i wr => ∃ k : Nat, k ≤ s.size ∧ i = .int .i64 k ∧ Bk wr (w.heap.size + 1) 53 (u32s (wordsN (s.data.toList.take k))) ∧ Bk wr w.heap.size 53 (u32s zeros16) ∧ Below w.heap.size w wr) (fun i _ => s.size - (intOf i).toNat)
  case atStart =>
    refine ⟨0, Nat.zero_le _, rfl, ?_, ?_, ?_⟩
    · exact Bk.newAt _ (by simp) _ _
    · exact Bk.alloc (Bk.new w _ _) _
    · exact ((Below.refl _ _).alloc (Nat.le_refl _) _).alloc (by simp) _
  case round =>
    obtain ⟨k, hk, rfl, hI, h0, hb⟩ := hrel
    have hz := hb.size
    by_cases hlt : k < s.size
    · have hk0 : (0 : Int) ≤ (k : Int) := by omega
      have hkn : (k : Int) < (s.size : Int) := by omega
      have hc := (s[k]'hlt).toNat_lt
      obtain ⟨q, hq⟩ : ∃ q, q = k / 4 := ⟨_, rfl⟩
      have hqn : q < 16 := by omega
      have hqi : (q : Int) < 16 := by omega
      have htk := wordsN_take (l := s.data.toList) (k := k) (by simpa using hlt)
      have hgk : s.data.toList[k]'(by simpa using hlt) = s[k]'hlt := rfl
      rw [hgk] at htk
      obtain ⟨M, hM⟩ : ∃ M, M = wordsN (s.data.toList.take k) := ⟨_, rfl⟩
      rw [← hM] at hI htk
      have hMo : All32 M := by rw [hM]; exact wordsN_ok _
      have hMl : M.length = 16 := by rw [hM]; exact wordsN_len _
      clear hM
      have hw4 : IntKind.i64.wrap ((k : Int) / 4) = (q : Int) := by rw [IntKind.wrap_i64]; omega
      have hsh := shl_word k (s[k]'hlt)
      obtain ⟨sh, hsx⟩ : ∃ sh : Nat, sh = (s[k]'hlt).toNat * 2 ^ (8 * (k % 4)) % 4294967296 := ⟨_, rfl⟩
      rw [← hsx] at hsh
      have hsl : sh < 4294967296 := by rw [hsx]; exact Nat.mod_lt _ (by decide)
      unfold wordStep at htk
      rw [← hsx, ← hq] at htk
      clear hq hsx
      have HTK := Lib.hid htk
      have H0 := Lib.hid h0
      have HI := Lib.hid hI
      have HB := Lib.hid hb
      have HMO := Lib.hid hMo
      clear htk hgk hI h0 hMo hb
      go_wp2_with fail
      refine wp_region_headA 14 [] (fun _ => (fun w' => Bk w' (w.heap.size + 1) 53 (u32s M) ∧ Bk w' w.heap.size 53 (u32s zeros16) ∧ Below w.heap.size w w' ∧ w'.cell? ⟨w.heap.size + 1, q, none⟩ = some (.int .u32 (g32 M q : Nat)))) (by kernel_rfl) (by kernel_rfl) (by kernel_rfl) ⟨HI.out.drew, H0.out.drew, HB.out.drew, u32s_cell HI.out.drew (by omega)⟩ ?_
      iterate 14 (refine chain_pureA (by decide) (by rfl) ?_; apply Exists.intro; apply And.intro; (case left => (intro β w hSw; (try dsimp only at hSw); go_simp; try with_reducible rfl)); (try simp only [Act.put, List.setIfInBounds_toArray, List.set_cons_zero, List.set_cons_succ]))
      rintro w1 ⟨h1, h2, h3, h4⟩
      have hf := h1.frozen q
      have hz1 := h3.size
      go_wp2
      go_roundw
      case rel =>
        refine ⟨k + 1, by omega, by go_num, ?_, ?_, ?_⟩
        · rw [HTK.out, bor32 _ _ (HMO.out _) hsl]
          exact u32s_set h1 _
        · exact h2.far (p := ⟨w.heap.size + 1, q, none⟩) (by simp) _
        · exact h3.setCell (p := ⟨w.heap.size + 1, q, none⟩) (by simp) _
      case measure => simp [intOf]; omega
    · have hkn : k = s.size := by omega
      have htk : s.data.toList.take k = s.data.toList := List.take_of_length_le (by simp; omega)
      rw [htk] at hI
      have hkf : ¬ (k : Int) < (s.size : Int) := by omega
      have H0 := Lib.hid h0
      have HI := Lib.hid hI
      have HB := Lib.hid hb
      clear hI h0 hb htk hkn
      have HW := Lib.hid (wordsN_len s.data.toList)
      go_wp2_with (first | refine wpList_load_row rfl 53 _ rfl (w.heap.size + 1) rfl 53 _ (0, 0) _ HI.out Tryd.underlying53 rfl (info16 HW.out) ?_ | refine wpList_store_row rfl 53 _ _ rfl w.heap.size rfl _ rfl 53 _ H0.out (info16 HW.out) (by rw [u32s_size, u32s_size, HW.out]; rfl) (u32s_one _) ?_)
      refine bodyPost_ret (results_cell_row rfl _ _ w.heap.size 53 _ (0, 0) _ rfl (H0.out.row _) Tryd.underlying53 rfl (info16 HW.out)) rfl ?_
      exact ⟨rfl, below_setRow HB.out (Nat.le_refl _) _⟩

end Go.Proofs.YtnfpahanbnidpaaDoor
