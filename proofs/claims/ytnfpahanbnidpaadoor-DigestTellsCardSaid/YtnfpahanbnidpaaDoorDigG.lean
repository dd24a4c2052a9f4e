/- The walks of digest: Sum. -/
import Derived.Test.YtnfpahanbnidpaaDoorDigE
set_option linter.unusedSimpArgs false
set_option linter.unusedVariables false
namespace Go.Proofs.YtnfpahanbnidpaaDoor
open Go.RowKit

def firstX : List Nat := firstN.set 0 1795745351
def chainN (l : List UInt8) : Nat → List Nat
  | 0 => firstX
  | k + 1 => compressN (chainN l k) ((l.drop (64 * k)).take 64) (64 * (k + 1)) false
def finalN (l : List UInt8) : List Nat := compressN (chainN l ((l.length - 1) / 64)) (l.drop (64 * ((l.length - 1) / 64))) l.length true
def bytes4 (x : Nat) : List UInt8 := [UInt8.ofNat (x / 2 ^ (8 * 0)), UInt8.ofNat (x / 2 ^ (8 * 1)), UInt8.ofNat (x / 2 ^ (8 * 2)), UInt8.ofNat (x / 2 ^ (8 * 3))]
def outN (h : List Nat) : List UInt8 := h.flatMap bytes4
def sumN (l : List UInt8) : List UInt8 := outN (finalN l)
theorem firstX_ok : All32 firstX ∧ firstX.length = 8 := ⟨all32_of (by decide), rfl⟩
theorem chainN_ok (l : List UInt8) (hl : l.length < 1000000) : ∀ k, 64 * k ≤ l.length → All32 (chainN l k) ∧ (chainN l k).length = 8
  | 0, _ => firstX_ok
  | k + 1, hk => compressN_ok (chainN_ok l hl k (by omega)).1 (chainN_ok l hl k (by omega)).2 _ _ (by omega) _
theorem finalN_ok (l : List UInt8) (hl : l.length < 1000000) : All32 (finalN l) ∧ (finalN l).length = 8 :=
  compressN_ok (chainN_ok l hl _ (by omega)).1 (chainN_ok l hl _ (by omega)).2 _ _ (by omega) _
theorem outN_len (h : List Nat) : (outN h).length = 4 * h.length := by
  induction h with
  | nil => rfl
  | cons a r ih => unfold outN at *; rw [List.flatMap_cons, List.length_append, ih]; simp [bytes4]; omega
theorem sumN_len (l : List UInt8) (hl : l.length < 1000000) : (sumN l).length = 32 := by
  unfold sumN
  rw [outN_len, (finalN_ok l hl).2]
set_option maxRecDepth 100000 in
theorem index_h0 (a0 a1 a2 a3 a4 a5 a6 a7 : Nat) (w : World) : (Instr.index 45 (.agg (u32s [a0, a1, a2, a3, a4, a5, a6, a7])) (.int .i64 ((0 : Nat) : Int))).run Tryd.prog w = .ok (.int .u32 (a0 : Int)) w := by kernel_rfl
set_option maxRecDepth 100000 in
theorem index_h1 (a0 a1 a2 a3 a4 a5 a6 a7 : Nat) (w : World) : (Instr.index 45 (.agg (u32s [a0, a1, a2, a3, a4, a5, a6, a7])) (.int .i64 ((1 : Nat) : Int))).run Tryd.prog w = .ok (.int .u32 (a1 : Int)) w := by kernel_rfl
set_option maxRecDepth 100000 in
theorem index_h2 (a0 a1 a2 a3 a4 a5 a6 a7 : Nat) (w : World) : (Instr.index 45 (.agg (u32s [a0, a1, a2, a3, a4, a5, a6, a7])) (.int .i64 ((2 : Nat) : Int))).run Tryd.prog w = .ok (.int .u32 (a2 : Int)) w := by kernel_rfl
set_option maxRecDepth 100000 in
theorem index_h3 (a0 a1 a2 a3 a4 a5 a6 a7 : Nat) (w : World) : (Instr.index 45 (.agg (u32s [a0, a1, a2, a3, a4, a5, a6, a7])) (.int .i64 ((3 : Nat) : Int))).run Tryd.prog w = .ok (.int .u32 (a3 : Int)) w := by kernel_rfl
set_option maxRecDepth 100000 in
theorem index_h4 (a0 a1 a2 a3 a4 a5 a6 a7 : Nat) (w : World) : (Instr.index 45 (.agg (u32s [a0, a1, a2, a3, a4, a5, a6, a7])) (.int .i64 ((4 : Nat) : Int))).run Tryd.prog w = .ok (.int .u32 (a4 : Int)) w := by kernel_rfl
set_option maxRecDepth 100000 in
theorem index_h5 (a0 a1 a2 a3 a4 a5 a6 a7 : Nat) (w : World) : (Instr.index 45 (.agg (u32s [a0, a1, a2, a3, a4, a5, a6, a7])) (.int .i64 ((5 : Nat) : Int))).run Tryd.prog w = .ok (.int .u32 (a5 : Int)) w := by kernel_rfl
set_option maxRecDepth 100000 in
theorem index_h6 (a0 a1 a2 a3 a4 a5 a6 a7 : Nat) (w : World) : (Instr.index 45 (.agg (u32s [a0, a1, a2, a3, a4, a5, a6, a7])) (.int .i64 ((6 : Nat) : Int))).run Tryd.prog w = .ok (.int .u32 (a6 : Int)) w := by kernel_rfl
set_option maxRecDepth 100000 in
theorem index_h7 (a0 a1 a2 a3 a4 a5 a6 a7 : Nat) (w : World) : (Instr.index 45 (.agg (u32s [a0, a1, a2, a3, a4, a5, a6, a7])) (.int .i64 ((7 : Nat) : Int))).run Tryd.prog w = .ok (.int .u32 (a7 : Int)) w := by kernel_rfl
theorem index_h (l : List Nat) (hl : l.length = 8) (k : Nat) (hk : k < 8) (w : World) : (Instr.index 45 (.agg (u32s l)) (.int .i64 (k : Int))).run Tryd.prog w = .ok (.int .u32 (g32 l k : Nat)) w := by
  match l, hl with
  | [a0, a1, a2, a3, a4, a5, a6, a7], _ =>
    have : k = 0 ∨ k = 1 ∨ k = 2 ∨ k = 3 ∨ k = 4 ∨ k = 5 ∨ k = 6 ∨ k = 7 := by omega
    rcases this with h | h | h | h | h | h | h | h
    · subst h; exact index_h0 a0 a1 a2 a3 a4 a5 a6 a7 w
    · subst h; exact index_h1 a0 a1 a2 a3 a4 a5 a6 a7 w
    · subst h; exact index_h2 a0 a1 a2 a3 a4 a5 a6 a7 w
    · subst h; exact index_h3 a0 a1 a2 a3 a4 a5 a6 a7 w
    · subst h; exact index_h4 a0 a1 a2 a3 a4 a5 a6 a7 w
    · subst h; exact index_h5 a0 a1 a2 a3 a4 a5 a6 a7 w
    · subst h; exact index_h6 a0 a1 a2 a3 a4 a5 a6 a7 w
    · subst h; exact index_h7 a0 a1 a2 a3 a4 a5 a6 a7 w
theorem shr_word (x j : Nat) (hj : j < 4) : Op.shift BinOp.shr IntKind.u32 (x : Int) IntKind.i64 (IntKind.i64.wrap (8 * (j : Int))) = pure (.int .u32 ((x / 2 ^ (8 * j) : Nat) : Int)) := by
  have h3 : IntKind.i64.wrap (8 * (j : Int)) = ((8 * j : Nat) : Int) := by rw [IntKind.wrap_i64]; omega
  rw [h3, shift_shr .u32 .i64 _ _ (by omega) (by rw [show IntKind.u32.bits = 32 from rfl]; omega), Int.toNat_natCast, Int.natCast_ediv, Int.natCast_pow]
  rfl
theorem wpList_store_rowB {P : Program} {ops : Array Oper} {rest : List Oper} {o : Oper} {a : Act} {w : World} {Q : Exit → Act → World → Prop} (hgd : o.guard = none) (ty : TypeId) (x y : Operand) (ho : o.op = .store ty x y)
    (g : Nat) (hx : a.eval x = .pointer (some ⟨g, 0, none⟩)) (c' : Array Value) (hy : a.eval y = .agg c') (t : TypeId) (c : Array Value) (hg : w.heap[g]? = some (.cells c t (0, 0)))
    (hi : (P.info? ty).map (·.size) = some c'.size) (hoo : c.size = c'.size) (h1 : c'.all (·.oneCell') = true) (B : Nat) (w0 : World) (hb : Below B w0 w) (hBg : B ≤ g)
    (h : ∀ w', Hid (Bk w' g t c') → Hid (Below B w0 w') → wpList P ops Q rest (a.put o.dst undef) w') : wpList P ops Q (o :: rest) a w :=
  wpList_store_row hgd ty x y ho g hx c' hy t c hg hi hoo h1 (h _ (Lib.hid (Bk.row hg c')) (Lib.hid (below_setRow hb hBg _)))
theorem exec_load_row {P : Program} {o : Oper} {a : Act} {w : World} (ty : TypeId) (x : Operand) (ho : o.op = .load ty x)
    (g : Nat) (hx : a.eval x = .pointer (some ⟨g, 0, none⟩)) (t : TypeId) (cs : Array Value) (d : TypeDesc) (hg : w.heap[g]? = some (.cells cs t (0, 0)))
    (hu : P.underlying ty = some d) (hd : (match d with | .struct _ | .array _ _ => true | _ => false) = true) (hi : (P.info? ty).map (·.size) = some cs.size) : (execOp a.eval o).run P w = .ok (.value (.agg cs)) w := by
  unfold execOp
  simp only [ho, hx, Instr.loadAt, Instr.sureAddr, Sem.run_bind, Sem.run_pure, Result.andThen_ok, run_loadVar_row w g t ty cs (0, 0) d hg hu hd hi]

set_option maxHeartbeats 1000000 in
set_option maxRecDepth 100000 in
theorem sum_any (s : ByteArray) (w : World) (hs : s.size < 500000) (hL : LaidAt w) :
    Calls Tryd.prog 15 #[.string s] w fun e w' => e = .returned (.string ⟨(sumN s.data.toList).toArray⟩) ∧ Below w.heap.size w w' := by
  have HLA := Lib.hid hL
  have hsz := hL.2.2
  have hbx : bits .xor .u32 1779033703 16842784 = 1795745351 := by decide
  clear hL
  go_enter Tryd.func15, Tryd.ntmps15
  go_wp2_with (first | refine wpList_load_cells rfl 45 _ rfl ⟨0, 0, none⟩ rfl (u32s firstN) HLA.out.src _ Tryd.underlying45 rfl (by kernel_rfl) ?_ | refine wpList_store_rowB rfl 45 _ _ rfl w.heap.size rfl (u32s firstN) rfl 45 _ (Bk.new w _ _) (info8a rfl) (by rfl) (u32s_one _) w.heap.size w ((Below.refl _ _).alloc (Nat.le_refl _) _) (Nat.le_refl _) ?_)
  intro w1 HB1 hb1
  have c0 := u32s_cell HB1.out (i := 0) (by decide)
  have f0 := HB1.out.frozen 0
  rw [show g32 firstN 0 = 1779033703 from rfl] at c0
  have HX := Lib.hid (show Bk (w1.setCell ⟨w.heap.size, 0, none⟩ (.int .u32 1795745351)) w.heap.size 45 (u32s firstX) from u32s_set HB1.out 1795745351)
  have HBX := Lib.hid (hb1.out.setCell (p := ⟨w.heap.size, 0, none⟩) (Nat.le_refl _) (.int .u32 1795745351))
  go_wp2_with fail
  go_loopw [0, 4] (fun sv ev wr => ∃ k e : Nat, ∃ t : ByteArray, sv = .string t ∧ ev = .int .i64 (e : Int) ∧ e = 64 * k ∧ t.data.toList = s.data.toList.drop (64 * k) ∧ e + t.size = s.size ∧ (k = 0 ∨ 0 < t.size) ∧ Bk wr w.heap.size 45 (u32s (chainN s.data.toList k)) ∧ Below w.heap.size w wr) (fun sv ev _ => s.size - (intOf ev).toNat)
  case atStart => exact ⟨0, 0, s, rfl, rfl, rfl, rfl, by omega, .inl rfl, HX.out, HBX.out⟩
  case round =>
    obtain ⟨k, e, t, rfl, rfl, hek, htl, hes, hkt, hH, hbw⟩ := hrel
    have hln : s.data.toList.length = s.size := by simp
    have HOK := Lib.hid (chainN_ok s.data.toList (by omega) k (by omega))
    obtain ⟨H, hHe⟩ : ∃ H, H = chainN s.data.toList k := ⟨_, rfl⟩
    rw [← hHe] at hH HOK
    have hzw := hbw.size
    have HH := Lib.hid hH
    have HB := Lib.hid hbw
    have he0 : (0 : Int) ≤ (e : Int) := by omega
    by_cases ht : 64 < t.size
    · have hti : (64 : Int) < (t.size : Int) := by omega
      have hti' : (64 : Int) ≤ (t.size : Int) := by omega
      have hts : (t.extract 0 64).size ≤ 64 := by rw [ByteArray.size_extract]; omega
      obtain ⟨e2, he2⟩ : ∃ e2, e2 = e + 64 := ⟨_, rfl⟩
      have hw : IntKind.i64.wrap ((e : Int) + 64) = (e2 : Int) := by rw [IntKind.wrap_i64]; omega
      have hw' : (e : Int) + 64 = (e2 : Int) := by omega
      have hw'' : IntKind.i64.wrap (e2 : Int) = (e2 : Int) := by rw [IntKind.wrap_i64]; omega
      have hx1 : (t.extract 0 64).data.toList = (s.data.toList.drop (64 * k)).take 64 := by rw [← htl]; simp
      have hx2 : (t.extract 64 t.size).data.toList = s.data.toList.drop (64 * (k + 1)) := by
        rw [show 64 * (k + 1) = 64 * k + 64 by omega, ← List.drop_drop, ← htl]
        simp only [ByteArray.data_extract, Array.toList_extract]
        exact List.take_of_length_le (by simp)
      have HNX := (show chainN s.data.toList (k + 1) = compressN H (t.extract 0 64).data.toList e2 false by rw [hx1, hHe, he2, hek]; rfl)
      have HX2 := Lib.hid hx2
      have HEE := Lib.hid (show e2 = 64 * (k + 1) by omega)
      have HE3 := Lib.hid (show e2 + (t.size - 64) = s.size by omega)
      have he2l : e2 < 1000000 := by omega
      clear hx1 hx2 hHe hek htl hH hbw he2 hkt HX HBX
      go_wp2_with fail
      refine wp_region_headA 4 [] (fun _ => (fun W => Bk W w.heap.size 45 (u32s H) ∧ Below w.heap.size w W)) (by kernel_rfl) (by kernel_rfl) (by kernel_rfl) ⟨HH.out.drew, HB.out.drew⟩ ?_
      refine chain_pureA (by decide) (by rfl) ⟨.agg (u32s H), (fun β W hSW => exec_load_row 45 _ rfl w.heap.size rfl 45 _ _ hSW.1 Tryd.underlying45 rfl (info8a HOK.out.2)), ?_⟩
      (try simp only [Act.put, List.setIfInBounds_toArray, List.set_cons_zero, List.set_cons_succ])
      iterate 3 (refine chain_pureA (by decide) (by rfl) ?_; apply Exists.intro; apply And.intro; (case left => (intro β w hSw; (try dsimp only at hSw); go_simp; try with_reducible rfl)); (try simp only [Act.put, List.setIfInBounds_toArray, List.set_cons_zero, List.set_cons_succ]))
      rintro W hW
      have HW := Lib.hid hW
      have hzW := hW.2.size
      clear hW
      go_wp2_with fail
      refine (compress_any H (t.extract 0 64) e2 false W hts HOK.out.1 HOK.out.2 he2l (HLA.out.below HW.out.2 hsz)).mono ?_
      rintro e' W' ⟨rfl, hbW⟩
      have HBW := Lib.hid (HW.out.2.trans (hbW.mono hzW))
      have HHW := Lib.hid (HW.out.1.below hbW HW.out.1.lt)
      have hLN := compressN_ok HOK.out.1 HOK.out.2 (t.extract 0 64).data.toList e2 (by omega) false
      obtain ⟨CN, hCN⟩ : ∃ C, C = compressN H (t.extract 0 64).data.toList e2 false := ⟨_, rfl⟩
      rw [← hCN] at hLN HNX
      rw [← hCN]
      have HLN := Lib.hid hLN
      clear hCN hLN
      clear hbW
      have HNX := Lib.hid HNX
      go_wp2_with (refine wpList_store_rowB rfl 45 _ _ rfl w.heap.size rfl _ rfl 45 _ HHW.out (info8a HLN.out.2) (by rw [u32s_size, u32s_size, HOK.out.2, HLN.out.2]) (u32s_one _) w.heap.size w HBW.out (Nat.le_refl _) ?_)
      intro w5 HB5 hb5
      go_wp2
      go_roundw
      case rel =>
        exact ⟨k + 1, e2, t.extract 64 t.size, rfl, rfl, HEE.out, HX2.out, by rw [ByteArray.size_extract]; have := HE3.out; omega, .inr (by rw [ByteArray.size_extract]; omega), by rw [HNX.out]; exact HB5.out, hb5.out⟩
      case measure =>
        have := HE3.out
        simp [intOf]
        omega
    · have htf : ¬ (64 : Int) < (t.size : Int) := by omega
      have hK : (s.data.toList.length - 1) / 64 = k := by rw [hln]; rcases hkt with h | h <;> omega
      have hw : IntKind.i64.wrap ((e : Int) + (t.size : Int)) = (s.size : Int) := by rw [IntKind.wrap_i64]; omega
      have hw' : (e : Int) + (t.size : Int) = (s.size : Int) := by omega
      have hw'' : IntKind.i64.wrap (s.size : Int) = (s.size : Int) := by rw [IntKind.wrap_i64]; omega
      have hFN : finalN s.data.toList = compressN H t.data.toList s.size true := by unfold finalN; rw [hK, hln, ← htl, hHe]
      have hLN := compressN_ok HOK.out.1 HOK.out.2 t.data.toList s.size (by omega) true
      have hts : t.size ≤ 64 := by omega
      clear hK hHe hek htl hkt hH hbw HX HBX
      go_wp2_with (refine wpList_load_row rfl 45 _ rfl w.heap.size rfl 45 _ (0, 0) _ HH.out Tryd.underlying45 rfl (info8a HOK.out.2) ?_)
      refine (compress_any H t s.size true _ hts HOK.out.1 HOK.out.2 (by omega) (HLA.out.below HB.out hsz)).mono ?_
      rintro e' W' ⟨rfl, hbW⟩
      have HBW := Lib.hid (HB.out.trans (hbW.mono hzw))
      have HHW := Lib.hid (HH.out.below hbW HH.out.lt)
      obtain ⟨CN, hCN⟩ : ∃ C, C = compressN H t.data.toList s.size true := ⟨_, rfl⟩
      rw [← hCN] at hLN hFN
      rw [← hCN]
      have HLN := Lib.hid hLN
      have HFN := Lib.hid hFN
      clear hCN hLN hFN hbW
      go_wp2_with (refine wpList_store_rowB rfl 45 _ _ rfl w.heap.size rfl _ rfl 45 _ HHW.out (info8a HLN.out.2) (by rw [u32s_size, u32s_size, HOK.out.2, HLN.out.2]) (u32s_one _) w.heap.size w HBW.out (Nat.le_refl _) ?_)
      intro w5 HB5 hb5
      have hz5 := hb5.out.size
      go_wp2_with (refine wpList_load_row rfl 45 _ rfl w.heap.size rfl 45 _ (0, 0) _ (HB5.out.alloc _) Tryd.underlying45 rfl (info8a HLN.out.2) ?_)
      go_loopw [34] (fun i wr => ∃ j : Nat, j ≤ 8 ∧ i = .int .i64 j ∧ Lib.IsBuilder 35 5 w5.heap.size w5.heap.size (Lib.byteCells (outN (CN.take j))) wr ∧ Below w.heap.size w wr ∧ w5.heap.size ≤ wr.heap.size) (fun i _ => 8 - (intOf i).toNat)
      case atStart => exact ⟨0, Nat.zero_le _, rfl, Lib.fresh_isBuilder _ _ w5, hb5.out.alloc hz5 _, by simp⟩
      case round =>
        obtain ⟨j, hj, rfl, hI, hbj, hzj⟩ := hrel
        by_cases hjl : j < 8
        · have hj0 : (0 : Int) ≤ (j : Int) := by omega
          have hji : (j : Int) < 8 := by omega
          have hidx := fun w => index_h CN HLN.out.2 j hjl w
          have hx : outN (CN.take (j + 1)) = outN (CN.take j) ++ bytes4 (g32 CN j) := by
            unfold outN
            rw [List.take_succ_eq_append_getElem (by rw [HLN.out.2]; exact hjl), List.flatMap_append]
            simp [g32, List.getD_eq_getElem?_getD, List.getElem?_eq_getElem (show j < CN.length by rw [HLN.out.2]; exact hjl)]
          have hol : (outN (CN.take j)).length ≤ 32 := by rw [outN_len]; have := List.length_take_le j CN; omega
          obtain ⟨O, hO⟩ : ∃ O, O = outN (CN.take j) := ⟨_, rfl⟩
          rw [← hO] at hI hx hol
          obtain ⟨x, hxx⟩ : ∃ x, x = g32 CN j := ⟨_, rfl⟩
          rw [← hxx] at hx hidx
          have HX := Lib.hid hx
          have HI := Lib.hid hI
          have HBJ := Lib.hid hbj
          clear hx hI hbj hO hxx
          go_wp2_with fail
          go_loopw [37] (fun i wx => ∃ q : Nat, q ≤ 4 ∧ i = .int .i64 q ∧ Lib.IsBuilder 35 5 w5.heap.size w5.heap.size (Lib.byteCells (O ++ (bytes4 x).take q)) wx ∧ Below w.heap.size w wx ∧ w5.heap.size ≤ wx.heap.size) (fun i _ => 4 - (intOf i).toNat)
          case atStart => exact ⟨0, Nat.zero_le _, rfl, by simpa using HI.out, HBJ.out, hzj⟩
          case round =>
            obtain ⟨q, hq, rfl, hI2, hb2, hz2⟩ := hrel
            by_cases hql : q < 4
            · have hq0 : (0 : Int) ≤ (q : Int) := by omega
              have hqi : (q : Int) < 4 := by omega
              have hsh := shr_word x q hql
              obtain ⟨sh, hshe⟩ : ∃ sh : Nat, sh = x / 2 ^ (8 * q) := ⟨_, rfl⟩
              rw [← hshe] at hsh
              obtain ⟨c, hc⟩ : ∃ c : UInt8, c = UInt8.ofNat sh := ⟨_, rfl⟩
              have hcw : IntKind.u8.wrap (sh : Int) = (c.toNat : Int) := by rw [hc, IntKind.wrap_u8]; simp
              have hce : (x : Int) / 2 ^ (8 * q) % 256 = (c.toNat : Int) := by
                have h1 : ((sh : Nat) : Int) = (x : Int) / 2 ^ (8 * q) := by rw [hshe, Int.natCast_ediv, Int.natCast_pow]; rfl
                rw [← h1, hc]
                simp
              have HCE := Lib.hid hce
              have htk : (bytes4 x).take (q + 1) = (bytes4 x).take q ++ [c] := by
                rw [hc, hshe]
                have : q = 0 ∨ q = 1 ∨ q = 2 ∨ q = 3 := by omega
                rcases this with rfl | rfl | rfl | rfl <;> rfl
              have HTK := Lib.hid htk
              have HI2 := Lib.hid hI2
              have HB2 := Lib.hid hb2
              have hlen : (Lib.byteCells (O ++ (bytes4 x).take q)).length ≤ 1000000000 := by
                rw [Lib.byteCells_length, List.length_append]
                have := List.length_take_le q (bytes4 x)
                omega
              have HLEN := Lib.hid hlen
              clear htk hI2 hb2 hc hshe hlen hce
              go_wp2_with fail
              refine (writeByte_any w5.heap.size w5.heap.size _ _ _ HI2.out HLEN.out hz2).mono ?_
              rintro e' w6 ⟨rfl, hI3, hb3⟩
              rw [HCE.out] at hI3
              have hz3 := hb3.size
              have HR := Lib.hid (show Lib.IsBuilder 35 5 w5.heap.size w5.heap.size (Lib.byteCells (O ++ (bytes4 x).take (q + 1))) w6 ∧ Below w.heap.size w w6 ∧ w5.heap.size ≤ w6.heap.size from
                ⟨.inr (by rw [HTK.out, ← List.append_assoc, Lib.byteCells_append]; exact hI3), HB2.out.trans (hb3.mono hz5), by omega⟩)
              clear hI3 hb3
              go_wp2
              go_roundw
              case rel => exact ⟨q + 1, by omega, by go_num, HR.out⟩
              case measure => simp [intOf]; omega
            · obtain rfl : q = 4 := by omega
              have HR := Lib.hid (show Lib.IsBuilder 35 5 w5.heap.size w5.heap.size (Lib.byteCells (outN (CN.take (j + 1)))) wr ∧ Below w.heap.size w wr ∧ w5.heap.size ≤ wr.heap.size from
                ⟨by rw [HX.out]; exact hI2, hb2, hz2⟩)
              clear hI2 hb2
              go_wp2
              go_roundw
              case rel => exact ⟨j + 1, by omega, by go_num, HR.out⟩
              case measure => simp [intOf]; omega
        · obtain rfl : j = 8 := by omega
          rw [List.take_of_length_le (by rw [HLN.out.2]; exact Nat.le_refl _)] at hI
          have HI := Lib.hid hI
          have HBJ := Lib.hid hbj
          clear hI hbj
          go_wp2_with fail
          refine (Tryd.Builder_String_any w5.heap.size w5.heap.size _ _ HI.out hzj).mono ?_
          rintro e' w6 ⟨rfl, hb6⟩
          go_wp2
          go_ret
          refine ⟨?_, HBJ.out.trans (hb6.mono (by omega))⟩
          unfold sumN
          rw [HFN.out]
          rfl

end Go.Proofs.YtnfpahanbnidpaaDoor
