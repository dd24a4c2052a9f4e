/- DigestXors: the walk. -/
import Derived.Test.YtnfpahanbnidpaaDoorDigXors
import Derived.Deep.DeepCutAuto
import Derived.Outline
set_option linter.unusedSimpArgs false
set_option linter.unusedVariables false
namespace Go.Proofs.YtnfpahanbnidpaaDoor
open Go.RowKit

theorem crcZ_any (Z : ByteArray) (N : Nat) (hN : crcN Z.data.toList = N) (wr : World) (W : World) (hW : Below wr.heap.size wr W) (hs : Z.size ≤ 1000000) :
    Calls Tryd.prog 13 #[.string Z] W fun e w' => e = .returned (.int .i64 (N : Int)) ∧ Below wr.heap.size wr w' :=
  (crc_any Z W hs).mono fun e w' ⟨he, hb⟩ => ⟨by rw [he, hN], hW.trans (hb.mono hW.size)⟩

set_option maxHeartbeats 1500000 in
set_option maxRecDepth 100000 in
theorem xors_any (a b c : ByteArray) (w : World) (hL : LaidAt w) : Calls Tryd.prog 6 #[.string a, .string b, .string c] w fun e w' => e = .returned (.bool true) ∧ Below w.heap.size w w' := by
  have HL := Lib.hid hL
  have HI := Lib.hid (info_parts info_byte)
  clear hL
  go_enter Tryd.func6, Tryd.ntmps6
  go_wp2_with fail
  refine (small_any w HL.out).mono ?_
  rintro e w1 ⟨rfl, hb1⟩
  have B1 := Lib.hid hb1
  clear hb1
  obtain ⟨n, hn, hna, hnb, hnc⟩ : ∃ n : Nat, (n : Int) = min (min (a.size : Int) (b.size : Int)) (c.size : Int) ∧ n ≤ a.size ∧ n ≤ b.size ∧ n ≤ c.size := ⟨min (min a.size b.size) c.size, by omega, by omega, by omega, by omega⟩
  have HN := Lib.hid hn
  clear hn
  have hmin : (if (c.size : Int) < (if b.size < a.size then (b.size : Int) else (a.size : Int)) then (c.size : Int) else (if b.size < a.size then (b.size : Int) else (a.size : Int))) = (n : Int) := by
    have := HN.out
    split <;> split at * <;> omega
  have HM := Lib.hid hmin
  clear hmin
  go_upto_region 3 with fail
  rw [HM.out]
  by_cases hs : 2000 < n
  · have hsi : (2000 : Int) < (n : Int) := by omega
    go_wp2
    go_ret
    exact ⟨rfl, B1.out⟩
  have hsi : ¬ (2000 : Int) < (n : Int) := by omega
  clear HM HN
  go_wp2_with fail
  go_loopw [9, 10] (fun v i wr => ∃ k : Nat, k ≤ n ∧ i = .int .i64 (k : Int) ∧ Below w1.heap.size w1 wr ∧ wr.ownsRow w1.heap.size 5 1 v k ((xor3 (a.data.toList.take (k)) (b.data.toList.take (k)) (c.data.toList.take (k))).map fun u => Value.int .u8 (u.toNat : Int))) (fun _ i _ => n - (intOf i).toNat)
  case atStart => exact ⟨0, Nat.zero_le _, rfl, Below.refl _ _, by simpa [xor3] using World.ownsRow_nil _ _ _ _⟩
  case round =>
    obtain ⟨wo, rfl⟩ : ∃ wo : World, wo = wr := ⟨_, rfl⟩
    obtain ⟨v, rfl⟩ : ∃ v : Value, v = u9 := ⟨_, rfl⟩
    obtain ⟨k, hk, rfl, hb, ho⟩ := hrel
    by_cases hlt : k < n
    · have hk0 : (0 : Int) ≤ (k : Int) := by omega
      have hka : (k : Int) < (a.size : Int) := by omega
      have hkb : (k : Int) < (b.size : Int) := by omega
      have hkc : (k : Int) < (c.size : Int) := by omega
      have hkn : (k : Int) < (n : Int) := by omega
      have hka' : k < a.size := by omega
      have hkb' : k < b.size := by omega
      have hkc' : k < c.size := by omega
      have hx := xor3_take a.data.toList b.data.toList c.data.toList k (by simpa using hka') (by simpa using hkb') (by simpa using hkc')
      obtain ⟨q1, hq1⟩ : ∃ q1 : Nat, q1 = ((a[k]'hka') ^^^ (b[k]'hkb')).toNat := ⟨_, rfl⟩
      obtain ⟨q, hq⟩ : ∃ q : Nat, q = ((a[k]'hka') ^^^ (b[k]'hkb') ^^^ (c[k]'hkc')).toNat := ⟨_, rfl⟩
      have e1 : bits .xor .u8 ((a[k]'hka').toNat : Int) ((b[k]'hkb').toNat : Int) = (q1 : Int) := by rw [hq1]; exact bxor8 _ _
      have e2 : bits .xor .u8 (q1 : Int) ((c[k]'hkc').toNat : Int) = (q : Int) := by rw [hq1, hq]; exact bxor8 _ _
      have HXX := Lib.hid (show ((xor3 (a.data.toList.take (k + 1)) (b.data.toList.take (k + 1)) (c.data.toList.take (k + 1))).map fun u => Value.int .u8 (u.toNat : Int)) = ((xor3 (a.data.toList.take (k)) (b.data.toList.take (k)) (c.data.toList.take (k))).map fun u => Value.int .u8 (u.toNat : Int)) ++ [.int .u8 (q : Int)] by rw [hx, hq, List.map_append]; rfl)
      have HO := Lib.hid ho
      have HB := Lib.hid hb
      have hsz := hb.size
      have HI0 := HI.out
      obtain ⟨i0, ti0, ti1, ti2, ti3⟩ := HI0
      have HR : Hid (∀ v2 w2, w2.ownsRow w1.heap.size 5 1 v2 (k + 1) (((xor3 (a.data.toList.take (k)) (b.data.toList.take (k)) (c.data.toList.take (k))).map fun u => Value.int .u8 (u.toNat : Int)) ++ [.int .u8 (q : Int)]) → (wo.drew.alloc (.cells #[.int .u8 (q : Int)] 5)).grownBy w2 v.ownBlock →
          Below w1.heap.size w1 w2 ∧ w2.ownsRow w1.heap.size 5 1 v2 (k + 1) ((xor3 (a.data.toList.take (k + 1)) (b.data.toList.take (k + 1)) (c.data.toList.take (k + 1))).map fun u => Value.int .u8 (u.toNat : Int))) := by
        intro v2 w2 h1 h2
        refine ⟨((HB.out.drew).alloc HB.out.size _).grown h2 (by simp; omega) (fun j hj => (HO.out.lt j hj).1), ?_⟩
        rw [HXX.out]
        exact h1
      clear ho hb hx hq hq1
      go_wp2_with fail
      refine wp_region_M [0, 1, 2, 3, 4, 5, 6, 7, 8, 9, 10, 11, 12, 13, 14] [12, 13] (fun _ => True) (by kernel_rfl) (by kernel_rfl) trivial ?_
      iterate 12 (refine M_pure (by rfl) (by rfl) ?_; apply Exists.intro; apply And.intro; (case left => (intro w hSw; (try dsimp only at hSw); go_simp; try with_reducible rfl)); (try simp only [Act.put, List.setIfInBounds_toArray, List.set_cons_zero, List.set_cons_succ]))
      refine M_do (by rfl) (by rfl) ?_
      refine ⟨.slice (some ⟨wo.heap.size, 0, none⟩) 1 1, wo.drew.alloc (.cells #[.int .u8 (q : Int)] 5), (by go_simp), trivial, ?_⟩
      (try simp only [Act.put, List.setIfInBounds_toArray, List.set_cons_zero, List.set_cons_succ])
      refine M_append (by rfl) (by rfl) (.tmp 27) (.tmp 39) 30 rfl w1.heap.size 5 i0 (.int .u8 0) 1 1 Tryd.underlying30 ti0 ti1 ti2 ti3 rfl (by decide) v k ((xor3 (a.data.toList.take (k)) (b.data.toList.take (k)) (c.data.toList.take (k))).map fun u => Value.int .u8 (u.toNat : Int)) rfl (HO.out.drew.alloc _) ⟨wo.heap.size, 0, none⟩ 1 1 [.int .u8 (q : Int)] rfl rfl (new_cells _ rfl _ _) (by intro u hu; simp at hu; subst hu; rfl) (by unfold maxLen; omega) (by omega) (by simp; omega) ?_
      intro v2 w2 hown2 hg2 hat2
      have hHR := HR.out v2 w2 hown2 hg2
      refine ⟨trivial, ?_⟩
      have HRR := Lib.hid hHR
      clear hown2 hg2 hat2 hHR
      (try simp only [Act.put, List.setIfInBounds_toArray, List.set_cons_zero, List.set_cons_succ])
      iterate 1 (refine M_pure (by rfl) (by rfl) ?_; apply Exists.intro; apply And.intro; (case left => (intro w hSw; (try dsimp only at hSw); go_simp; try with_reducible rfl)); (try simp only [Act.put, List.setIfInBounds_toArray, List.set_cons_zero, List.set_cons_succ]))
      refine M_nil ?_
      try dsimp only
      go_wp2
      go_roundw
      case rel => exact ⟨k + 1, by omega, by go_num, HRR.out.1, HRR.out.2⟩
      case measure => simp [intOf]; omega
    · obtain rfl : k = n := by omega
      clear hlt hk
      have hln : ∀ (x : ByteArray), k ≤ x.size → (x.data.toList.take k).length = k := fun x hx => by simp; omega
      have hxl : (xor3 (a.data.toList.take k) (b.data.toList.take k) (c.data.toList.take k)).length = k := by rw [xor3_len _ _ _ (by rw [hln a hna, hln b hnb]) (by rw [hln b hnb, hln c hnc]), hln a hna]
      have hlaw := xors_law (a.data.toList.take k) (b.data.toList.take k) (c.data.toList.take k) (by rw [hln a hna, hln b hnb]) (by rw [hln b hnb, hln c hnc])
      obtain ⟨Z, hZ⟩ : ∃ Z : ByteArray, Z = ⟨(xor3 (a.data.toList.take k) (b.data.toList.take k) (c.data.toList.take k)).toArray⟩ := ⟨_, rfl⟩
      have hZz : Z.size ≤ 1000000 := by rw [hZ]; show (List.toArray _).size ≤ _; simp only [List.size_toArray]; omega
      have HCV := Lib.hid (show ∀ W, Below wo.heap.size wo W → (convert 30 9 v).run Tryd.prog W = .ok (.string Z) W from fun W hW => by
        rw [hZ]
        exact conv_own W _ v k _ (own_below ho hW) hxl.symm)
      obtain ⟨N, hN⟩ : ∃ N, N = crcN Z.data.toList := ⟨_, rfl⟩
      obtain ⟨N1, hN1⟩ : ∃ N, N = crcN (a.data.toList.take k) := ⟨_, rfl⟩
      obtain ⟨N2, hN2⟩ : ∃ N, N = crcN (b.data.toList.take k) := ⟨_, rfl⟩
      obtain ⟨N3, hN3⟩ : ∃ N, N = crcN (c.data.toList.take k) := ⟨_, rfl⟩
      have hl : ∀ l, crcN l < 65536 := fun l => by unfold crcN; have := crcL_lt l; omega
      have hNx : N = N1 ^^^ N2 ^^^ N3 := by rw [hN, hN1, hN2, hN3, hZ]; exact hlaw
      obtain ⟨M, hM⟩ : ∃ M, M = N1 ^^^ N2 := ⟨_, rfl⟩
      have hN1l : N1 < 65536 := by rw [hN1]; exact hl _
      have hN2l : N2 < 65536 := by rw [hN2]; exact hl _
      have hN3l : N3 < 65536 := by rw [hN3]; exact hl _
      have e1 : bits .xor .i64 (N1 : Int) (N2 : Int) = (M : Int) := by rw [hM]; exact bxor64 _ _ hN1l hN2l
      have e2 : bits .xor .i64 (M : Int) (N3 : Int) = (N : Int) := by rw [hNx, ← hM]; exact bxor64 _ _ (by rw [hM]; exact Nat.xor_lt_two_pow (n := 16) hN1l hN2l) hN3l
      have cz := crcZ_any Z N hN.symm wo
      have ex : ∀ (x : ByteArray), (x.extract 0 k).data.toList = x.data.toList.take k := fun x => by simp
      obtain ⟨a', ha'⟩ : ∃ y, y = a.extract 0 k := ⟨_, rfl⟩
      obtain ⟨b', hb'⟩ : ∃ y, y = b.extract 0 k := ⟨_, rfl⟩
      obtain ⟨c', hc'⟩ : ∃ y, y = c.extract 0 k := ⟨_, rfl⟩
      have ca := fun W hW => crcZ_any a' N1 (by rw [ha', hN1, ex]) wo W hW (by rw [ha', ByteArray.size_extract]; omega)
      have cb := fun W hW => crcZ_any b' N2 (by rw [hb', hN2, ex]) wo W hW (by rw [hb', ByteArray.size_extract]; omega)
      have cc := fun W hW => crcZ_any c' N3 (by rw [hc', hN3, ex]) wo W hW (by rw [hc', ByteArray.size_extract]; omega)
      have xa := ha'.symm
      have xb := hb'.symm
      have xc := hc'.symm
      have CZ := Lib.hid (fun W hW => cz W hW hZz)
      have CA := Lib.hid ca
      have CB := Lib.hid cb
      have CC := Lib.hid cc
      have HB := Lib.hid (B1.out.trans (hb.mono B1.out.size))
      have hk0 : (0 : Int) ≤ (k : Int) := by omega
      have hka : (k : Int) ≤ (a.size : Int) := by omega
      have hkb : (k : Int) ≤ (b.size : Int) := by omega
      have hkc : (k : Int) ≤ (c.size : Int) := by omega
      have hzw := HB.out.size
      clear cz ca cb cc ha' hb' hc' hNx hM hN hN1 hN2 hN3 hl hN1l hN2l hN3l hZ hZz hlaw hxl hln ho hb ex
      go_wp2_with fail
      refine wp_region_headA 22 [] (fun _ => (fun W => Below wo.heap.size wo W)) (by kernel_rfl) (by kernel_rfl) (by kernel_rfl) (Below.refl _ _).drew ?_
      iterate 3 (refine chain_pureA (by decide) (by rfl) ?_; apply Exists.intro; apply And.intro; (case left => (intro β w hSw; (try dsimp only at hSw); go_simp; try with_reducible rfl)); (try simp only [Act.put, List.setIfInBounds_toArray, List.set_cons_zero, List.set_cons_succ]))
      refine chain_pureA (by decide) (by rfl) ⟨.string Z, (fun β W hSW => by have h9 := HCV.out W hSW; go_simp; try with_reducible rfl), ?_⟩
      (try simp only [Act.put, List.setIfInBounds_toArray, List.set_cons_zero, List.set_cons_succ])
      (refine chain_callA (by decide) (by rfl) ?_; apply Exists.intro; apply Exists.intro; apply And.intro; (case left => (intro w; go_simp; exact ⟨rfl, rfl⟩)))
      refine ⟨.int .i64 ((N : Nat) : Int), (fun β W hSW => ?_), ?_⟩
      · exact CZ W hSW
      (try simp only [Act.put, List.setIfInBounds_toArray, List.set_cons_zero, List.set_cons_succ])
      iterate 3 (refine chain_pureA (by decide) (by rfl) ?_; apply Exists.intro; apply And.intro; (case left => (intro β w hSw; (try dsimp only at hSw); go_simp; try with_reducible rfl)); (try simp only [Act.put, List.setIfInBounds_toArray, List.set_cons_zero, List.set_cons_succ]))
      (refine chain_callA (by decide) (by rfl) ?_; apply Exists.intro; apply Exists.intro; apply And.intro; (case left => (intro w; go_simp; exact ⟨rfl, rfl⟩)))
      refine ⟨.int .i64 ((N1 : Nat) : Int), (fun β W hSW => ?_), ?_⟩
      · exact CA W hSW
      (try simp only [Act.put, List.setIfInBounds_toArray, List.set_cons_zero, List.set_cons_succ])
      iterate 3 (refine chain_pureA (by decide) (by rfl) ?_; apply Exists.intro; apply And.intro; (case left => (intro β w hSw; (try dsimp only at hSw); go_simp; try with_reducible rfl)); (try simp only [Act.put, List.setIfInBounds_toArray, List.set_cons_zero, List.set_cons_succ]))
      (refine chain_callA (by decide) (by rfl) ?_; apply Exists.intro; apply Exists.intro; apply And.intro; (case left => (intro w; go_simp; exact ⟨rfl, rfl⟩)))
      refine ⟨.int .i64 ((N2 : Nat) : Int), (fun β W hSW => ?_), ?_⟩
      · exact CB W hSW
      (try simp only [Act.put, List.setIfInBounds_toArray, List.set_cons_zero, List.set_cons_succ])
      iterate 4 (refine chain_pureA (by decide) (by rfl) ?_; apply Exists.intro; apply And.intro; (case left => (intro β w hSw; (try dsimp only at hSw); go_simp; try with_reducible rfl)); (try simp only [Act.put, List.setIfInBounds_toArray, List.set_cons_zero, List.set_cons_succ]))
      (refine chain_callA (by decide) (by rfl) ?_; apply Exists.intro; apply Exists.intro; apply And.intro; (case left => (intro w; go_simp; exact ⟨rfl, rfl⟩)))
      refine ⟨.int .i64 ((N3 : Nat) : Int), (fun β W hSW => ?_), ?_⟩
      · exact CC W hSW
      (try simp only [Act.put, List.setIfInBounds_toArray, List.set_cons_zero, List.set_cons_succ])
      iterate 4 (refine chain_pureA (by decide) (by rfl) ?_; apply Exists.intro; apply And.intro; (case left => (intro β w hSw; (try dsimp only at hSw); go_simp; try with_reducible rfl)); (try simp only [Act.put, List.setIfInBounds_toArray, List.set_cons_zero, List.set_cons_succ]))
      intro W hW
      have HW := Lib.hid (HB.out.trans (hW.mono hzw))
      clear hW
      go_wp2
      go_ret
      exact ⟨rfl, HW.out⟩

end Go.Proofs.YtnfpahanbnidpaaDoor
