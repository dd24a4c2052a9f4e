/- The walks of the reference of layer 3: Crc, digit, value, Hex, Unhex, Sum, Short. -/
import Derived.Test.YtnfpahanbnidpaaDoorDigRC
import Derived.Test.YtnfpahanbnidpaaDoorDigXors
import Derived.Test.YtnfpahanbnidpaaDoorDigK
set_option linter.unusedSimpArgs false
set_option linter.unusedVariables false
namespace Go.Proofs.YtnfpahanbnidpaaDoor
open Go.RowKit

def byteV (l : List UInt8) : List Value := l.map fun c => Value.int .u8 (c.toNat : Int)
theorem byteV_append (a b : List UInt8) : byteV (a ++ b) = byteV a ++ byteV b := by simp [byteV]

set_option maxHeartbeats 2000000 in
set_option maxRecDepth 100000 in
theorem refcrc_any (s : ByteArray) (w : World) (hs : s.size ≤ 1000000) :
    Calls Tryd.prog 19 #[.string s] w fun e w' => e = .returned (.int .i64 (crcN s.data.toList : Nat)) ∧ w' = w := by
  go_enter Tryd.func19, Tryd.ntmps19
  go_wp2
  go_loop [3, 4] (fun x i => ∃ k : Nat, k ≤ s.size ∧ x = .int .i64 (crcL (s.data.toList.take k) : Nat) ∧ i = .int .i64 k) (fun _ i => s.size - (intOf i).toNat)
  case atStart => exact ⟨0, Nat.zero_le _, rfl, rfl⟩
  case round =>
    obtain ⟨k, hk, rfl, rfl⟩ := hrel
    by_cases hlt : k < s.size
    · have hk0 : (0 : Int) ≤ (k : Int) := by omega
      have hkn : (k : Int) < (s.size : Int) := by omega
      have hc := (s[k]'hlt).toNat_lt
      have htk := crcL_take (l := s.data.toList) (k := k) (by simpa using hlt)
      have hgk : s.data.toList[k]'(by simpa using hlt) = s[k]'hlt := rfl
      rw [hgk] at htk
      obtain ⟨x, hx⟩ : ∃ x, x = crcL (s.data.toList.take k) := ⟨_, rfl⟩
      have hxl : x < 65536 := by rw [hx]; exact crcL_lt _
      rw [← hx] at htk
      rw [← hx]
      obtain ⟨c, hcc⟩ : ∃ c, c = (s[k]'hlt).toNat := ⟨_, rfl⟩
      have hcl : c < 256 := by omega
      have hcw : IntKind.i64.wrap ((s[k]'hlt).toNat : Int) = (c : Int) := by rw [hcc, IntKind.wrap_i64]; omega
      obtain ⟨y, hy⟩ : ∃ y, y = x ^^^ c := ⟨_, rfl⟩
      have hyl : y < 65536 := by rw [hy]; exact Nat.xor_lt_two_pow (n := 16) hxl (by omega)
      have hxx : bits .xor .i64 (x : Int) (c : Int) = (y : Int) := by rw [hy]; exact bxor64 _ _ hxl (by omega)
      have HTK := Lib.hid (show crcL (s.data.toList.take (k + 1)) = crcBits 8 y by rw [htk, hy, hcc]; rfl)
      clear htk hgk hx hcc hy
      go_wp2_with fail
      go_loop [3, 5] (fun z i => ∃ j : Nat, j ≤ 8 ∧ z = .int .i64 (crcBits j y : Nat) ∧ i = .int .i64 j) (fun _ i => 8 - (intOf i).toNat)
      case atStart => exact ⟨0, Nat.zero_le _, rfl, rfl⟩
      case round =>
        obtain ⟨j, hj, rfl, rfl⟩ := hrel
        by_cases hj8 : j < 8
        · have hj0 : (0 : Int) ≤ (j : Int) := by omega
          have hji : (j : Int) < 8 := by omega
          obtain ⟨z, hz⟩ : ∃ z, z = crcBits j y := ⟨_, rfl⟩
          have hzl : z < 65536 := by rw [hz]; exact crcBits_lt j hyl
          rw [← hz]
          have HZ := Lib.hid (show crcBits (j + 1) y = crcBit z by rw [hz]; rfl)
          clear hz
          obtain ⟨h2, hh2⟩ : ∃ h, h = z / 2 := ⟨_, rfl⟩
          have hd : (z : Int) / 2 = (h2 : Int) := by omega
          have hhl : h2 < 65536 := by omega
          have hz0 : (0 : Int) ≤ (z : Int) := by omega
          obtain ⟨p, hp⟩ : ∃ p, p = h2 ^^^ 33800 := ⟨_, rfl⟩
          have hpp : bits .xor .i64 (h2 : Int) 33800 = (p : Int) := by rw [hp]; exact bxor64 h2 33800 hhl (by decide)
          rcases Nat.mod_two_eq_zero_or_one z with h0 | h1
          · have ho0 : (z : Int) % 2 = 0 := by omega
            have HB := Lib.hid (show crcBit z = h2 by unfold crcBit; rw [if_neg (by omega), hh2])
            clear hh2 hp h0
            go_wp2
            go_round
            case rel => exact ⟨j + 1, by omega, by rw [HZ.out, HB.out], by go_num⟩
            case measure => simp [intOf]; omega
          · have ho1 : (z : Int) % 2 = 1 := by omega
            have HB := Lib.hid (show crcBit z = p by unfold crcBit; rw [if_pos h1, hp, hh2])
            clear hh2 hp h1
            go_wp2
            go_round
            case rel => exact ⟨j + 1, by omega, by rw [HZ.out, HB.out], by go_num⟩
            case measure => simp [intOf]; omega
        · obtain rfl : j = 8 := by omega
          go_wp2
          go_round
          case rel => exact ⟨k + 1, by omega, by rw [HTK.out], by go_num⟩
          case measure => simp [intOf]; omega
    · have hkn : k = s.size := by omega
      have htk : s.data.toList.take k = s.data.toList := List.take_of_length_le (by simp; omega)
      rw [htk]
      obtain ⟨x, hx⟩ : ∃ x, x = crcL s.data.toList := ⟨_, rfl⟩
      have hxl : x < 65536 := by rw [hx]; exact crcL_lt _
      have hkf : ¬ (k : Int) < (s.size : Int) := by omega
      have HE := Lib.hid (show crcN s.data.toList = x ^^^ 65535 by rw [hx]; exact crcN_eq _)
      rw [← hx]
      obtain ⟨n, hn⟩ : ∃ n, n = x ^^^ 65535 := ⟨_, rfl⟩
      have hun : bits .xor .i64 (x : Int) 65535 = (n : Int) := by rw [hn]; exact bxor64 x 65535 hxl (by decide)
      rw [← hn] at HE
      clear hx htk hkn hn
      go_wp2
      go_ret
      exact ⟨by rw [HE.out]; rfl, rfl⟩

set_option maxRecDepth 100000 in
theorem digit_any (n : Nat) (hn : n < 16) (w : World) : Calls Tryd.prog 28 #[.int .i64 (n : Int)] w fun e w' => e = .returned (.int .u8 ((hexD n).toNat : Int)) ∧ w' = w := by
  have : n = 0 ∨ n = 1 ∨ n = 2 ∨ n = 3 ∨ n = 4 ∨ n = 5 ∨ n = 6 ∨ n = 7 ∨ n = 8 ∨ n = 9 ∨ n = 10 ∨ n = 11 ∨ n = 12 ∨ n = 13 ∨ n = 14 ∨ n = 15 := by omega
  rcases this with rfl | rfl | rfl | rfl | rfl | rfl | rfl | rfl | rfl | rfl | rfl | rfl | rfl | rfl | rfl | rfl
  all_goals
    go_enter Tryd.func28, Tryd.ntmps28
    go_wp2
    go_ret
    exact ⟨rfl, rfl⟩
theorem nib_table (c : UInt8) : nib c = if 48 ≤ (c.toNat : Int) ∧ (c.toNat : Int) ≤ 57 then (c.toNat : Int) - 48 else if 97 ≤ (c.toNat : Int) ∧ (c.toNat : Int) ≤ 102 then (c.toNat : Int) - 97 + 10 else -1 := by
  have h : ∀ n : Fin 256, nib (UInt8.ofNat n.val) = if 48 ≤ ((UInt8.ofNat n.val).toNat : Int) ∧ ((UInt8.ofNat n.val).toNat : Int) ≤ 57 then ((UInt8.ofNat n.val).toNat : Int) - 48 else if 97 ≤ ((UInt8.ofNat n.val).toNat : Int) ∧ ((UInt8.ofNat n.val).toNat : Int) ≤ 102 then ((UInt8.ofNat n.val).toNat : Int) - 97 + 10 else -1 := by decide +kernel
  have := h ⟨c.toNat, c.toNat_lt⟩
  simpa using this
set_option maxRecDepth 100000 in
theorem value_any (c : UInt8) (w : World) : Calls Tryd.prog 24 #[.int .u8 (c.toNat : Int)] w fun e w' => e = .returned (.int .i64 (nib c)) ∧ w' = w := by
  have ht := nib_table c
  obtain ⟨n, hn⟩ : ∃ n, n = c.toNat := ⟨_, rfl⟩
  rw [← hn] at ht ⊢
  have hl : n < 256 := by rw [hn]; exact c.toNat_lt
  clear hn
  by_cases h1 : 48 ≤ (n : Int) ∧ (n : Int) ≤ 57
  · rw [if_pos h1] at ht
    obtain ⟨p, hp⟩ : ∃ p : Nat, (n : Int) - 48 = (p : Int) := ⟨n - 48, by omega⟩
    obtain ⟨ha, hb⟩ := h1
    have hw : IntKind.u8.wrap ((n : Int) - 48) = (p : Int) := by rw [IntKind.wrap_u8]; omega
    have hw2 : IntKind.i64.wrap (p : Int) = (p : Int) := by rw [IntKind.wrap_i64]; omega
    have HT := Lib.hid (ht.trans hp)
    have d1 : decide (48 ≤ (n : Int)) = true := by simpa using ha
    have d2 : decide ((n : Int) ≤ 57) = true := by simpa using hb
    clear ht
    go_enter Tryd.func24, Tryd.ntmps24
    go_wp2
    go_ret
    exact ⟨by rw [HT.out]; rfl, rfl⟩
  · rw [if_neg h1] at ht
    by_cases h2 : 97 ≤ (n : Int) ∧ (n : Int) ≤ 102
    · rw [if_pos h2] at ht
      obtain ⟨p, hp⟩ : ∃ p : Nat, (n : Int) - 97 = (p : Int) := ⟨n - 97, by omega⟩
      obtain ⟨ha, hb⟩ := h2
      have hw : IntKind.u8.wrap ((n : Int) - 97) = (p : Int) := by rw [IntKind.wrap_u8]; omega
      have hw2 : IntKind.i64.wrap (p : Int) = (p : Int) := by rw [IntKind.wrap_i64]; omega
      have HT := Lib.hid (show nib c = (p : Int) + 10 by rw [ht, hp])
      have hc : ¬ (n : Int) ≤ 57 := by omega
      have hd : 48 ≤ (n : Int) := by omega
      have hp6 : (p : Int) ≤ 6 := by omega
      have hp0 : (0 : Int) ≤ (p : Int) := by omega
      clear ht h1
      go_enter Tryd.func24, Tryd.ntmps24
      go_wp2
      go_ret
      exact ⟨by rw [HT.out]; rfl, rfl⟩
    · rw [if_neg h2] at ht
      have HT := Lib.hid ht
      have HN := Lib.hid h1
      have HN2 := Lib.hid h2
      clear ht
      by_cases g1 : 48 ≤ (n : Int)
      · have g2 : ¬ (n : Int) ≤ 57 := by omega
        by_cases g3 : 97 ≤ (n : Int)
        · have g4 : ¬ (n : Int) ≤ 102 := by omega
          clear h1 h2
          go_enter Tryd.func24, Tryd.ntmps24
          go_wp2
          go_ret
          exact ⟨by rw [HT.out]; rfl, rfl⟩
        · clear h1 h2
          go_enter Tryd.func24, Tryd.ntmps24
          go_wp2
          go_ret
          exact ⟨by rw [HT.out]; rfl, rfl⟩
      · have g3 : ¬ 97 ≤ (n : Int) := by omega
        clear h1 h2
        go_enter Tryd.func24, Tryd.ntmps24
        go_wp2
        go_ret
        exact ⟨by rw [HT.out]; rfl, rfl⟩

set_option maxHeartbeats 1000000 in
set_option maxRecDepth 100000 in
theorem refhex_any (s : ByteArray) (w : World) (hs : s.size ≤ 1000000) :
    Calls Tryd.prog 20 #[.string s] w fun e w' => e = .returned (.string ⟨(hexL s.data.toList).toArray⟩) ∧ Below w.heap.size w w' := by
  obtain ⟨i0, ti0, ti1, ti2, ti3⟩ := info_parts info_byte
  go_enter Tryd.func20, Tryd.ntmps20
  go_wp2
  go_loopw [3, 4] (fun v i wr => ∃ k : Nat, k ≤ s.size ∧ i = .int .i64 (k : Int) ∧ wr.ownsRow w.heap.size 5 1 v (hexL (s.data.toList.take k)).length (byteV (hexL (s.data.toList.take k))) ∧ Below w.heap.size w wr) (fun _ i _ => s.size - (intOf i).toNat)
  case atStart => exact ⟨0, Nat.zero_le _, rfl, World.ownsRow_nil _ _ _ _, Below.refl _ _⟩
  case round =>
    obtain ⟨k, hk, rfl, ho, hb⟩ := hrel
    have HO := Lib.hid ho
    have HB := Lib.hid hb
    have hsz := hb.size
    have hhl := hexL_len (s.data.toList.take k)
    have hkl : (s.data.toList.take k).length = k := by simp; omega
    rw [hkl] at hhl
    clear ho hb
    by_cases hlt : k < s.size
    · have hk0 : (0 : Int) ≤ (k : Int) := by omega
      have hkn : (k : Int) < (s.size : Int) := by omega
      have htk := hexL_take (l := s.data.toList) (k := k) (by simpa using hlt)
      have hgk : s.data.toList[k]'(by simpa using hlt) = s[k]'hlt := rfl
      rw [hgk] at htk
      obtain ⟨c, hc⟩ : ∃ c, c = (s[k]'hlt).toNat := ⟨_, rfl⟩
      have hcl := (s[k]'hlt).toNat_lt
      rw [← hc] at htk hcl
      have hcw : IntKind.i64.wrap ((s[k]'hlt).toNat : Int) = (c : Int) := by rw [hc, IntKind.wrap_i64]; omega
      have hcw2 : ((s[k]'hlt).toNat : Int) = (c : Int) := by rw [hc]
      obtain ⟨q1, h1⟩ : ∃ q, q = c / 16 := ⟨_, rfl⟩
      obtain ⟨q2, h2⟩ : ∃ q, q = c % 16 := ⟨_, rfl⟩
      have e1 : (c : Int) / 16 = (q1 : Int) := by omega
      have e2 : (c : Int) % 16 = (q2 : Int) := by omega
      have e3 : IntKind.i64.wrap (c : Int) = (c : Int) := by rw [IntKind.wrap_i64]; omega
      have e4 : (c : Int).tdiv 16 = (q1 : Int) := by rw [Int.tdiv_eq_ediv_of_nonneg (by omega)]; exact e1
      have e5 : (c : Int).tmod 16 = (q2 : Int) := by rw [Int.tmod_eq_emod_of_nonneg (by omega)]; exact e2
      have e6 : IntKind.i64.wrap (q1 : Int) = (q1 : Int) := by rw [IntKind.wrap_i64]; omega
      have e7 : IntKind.i64.wrap (q2 : Int) = (q2 : Int) := by rw [IntKind.wrap_i64]; omega
      have hq1 : q1 < 16 := by omega
      have hq2 : q2 < 16 := by omega
      have hc0 : (0 : Int) ≤ (c : Int) := by omega
      have hln1 := hexL_len (s.data.toList.take (k + 1))
      have hkl1 : (s.data.toList.take (k + 1)).length = k + 1 := by simp; omega
      rw [hkl1] at hln1
      have HTK := Lib.hid (show byteV (hexL (s.data.toList.take (k + 1))) = byteV (hexL (s.data.toList.take k)) ++ [.int .u8 ((hexD q1).toNat : Int), .int .u8 ((hexD q2).toNat : Int)] ∧ (hexL (s.data.toList.take (k + 1))).length = (hexL (s.data.toList.take k)).length + 2 by
        refine ⟨?_, by omega⟩
        rw [htk, byteV_append, ← h1, ← h2]
        rfl)
      have HHL := Lib.hid hhl
      have hhl' : (hexL (s.data.toList.take k)).length ≤ 2000000 := by omega
      clear htk hgk hc h1 h2 hcl hkl hln1 hkl1 hhl
      go_wp2_with fail
      refine wp_region_M [0, 1, 2, 3, 4, 5, 7, 8, 9, 10, 11, 6, 12, 13, 14, 15] [6, 12, 13, 14] (fun _ => True) (by kernel_rfl) (by kernel_rfl) trivial ?_
      iterate 11 (refine M_pure (by rfl) (by rfl) ?_; apply Exists.intro; apply And.intro; (case left => (intro w hSw; (try dsimp only at hSw); go_simp; try with_reducible rfl)); (try simp only [Act.put, List.setIfInBounds_toArray, List.set_cons_zero, List.set_cons_succ]))
      (refine M_call (by rfl) (by rfl) ?_; apply Exists.intro; apply Exists.intro; apply And.intro; (case left => (go_simp; first | exact ⟨rfl, rfl⟩ | rfl)))
      ((with_reducible refine (digit_any q1 hq1 _).mono ?_))
      rintro e' w' ⟨rfl, rfl⟩
      refine ⟨_, rfl, trivial, ?_⟩
      (try simp only [Act.put, List.setIfInBounds_toArray, List.set_cons_zero, List.set_cons_succ])
      (refine M_call (by rfl) (by rfl) ?_; apply Exists.intro; apply Exists.intro; apply And.intro; (case left => (go_simp; first | exact ⟨rfl, rfl⟩ | rfl)))
      ((with_reducible refine (digit_any q2 hq2 _).mono ?_))
      rintro e' w' ⟨rfl, rfl⟩
      refine ⟨_, rfl, trivial, ?_⟩
      (try simp only [Act.put, List.setIfInBounds_toArray, List.set_cons_zero, List.set_cons_succ])
      refine M_do (by rfl) (by rfl) ⟨.slice (some ⟨wr.heap.size, 0, none⟩) 2 2, wr.drew.alloc (.cells #[.int .u8 ((hexD q1).toNat : Int), .int .u8 ((hexD q2).toNat : Int)] 5), (by go_simp), trivial, ?_⟩
      (try simp only [Act.put, List.setIfInBounds_toArray, List.set_cons_zero, List.set_cons_succ])
      refine M_append (by rfl) (by rfl) (.tmp 11) (.tmp 24) 30 rfl w.heap.size 5 i0 (.int .u8 0) 1 1 Tryd.underlying30 ti0 ti1 ti2 ti3 rfl (by decide) u3 (hexL (s.data.toList.take k)).length (byteV (hexL (s.data.toList.take k))) rfl (HO.out.drew.alloc _) ⟨wr.heap.size, 0, none⟩ 2 2 [.int .u8 ((hexD q1).toNat : Int), .int .u8 ((hexD q2).toNat : Int)] rfl rfl (new_cells _ rfl _ _) (by intro u hu; simp at hu; rcases hu with rfl | rfl <;> rfl) (by unfold maxLen; omega) (by omega) (by simp; omega) ?_
      intro vn wn hown2 hg2 hat2
      refine ⟨trivial, ?_⟩
      have HBN := Lib.hid ((HB.out.drew.alloc hsz (.cells #[.int .u8 ((hexD q1).toNat : Int), .int .u8 ((hexD q2).toNat : Int)] 5)).grown hg2 (by simp; omega) (fun j hj => (HO.out.lt j hj).1))
      have HON := Lib.hid hown2
      clear hown2 hg2 hat2
      (try simp only [Act.put, List.setIfInBounds_toArray, List.set_cons_zero, List.set_cons_succ])
      iterate 1 (refine M_pure (by rfl) (by rfl) ?_; apply Exists.intro; apply And.intro; (case left => (intro w hSw; (try dsimp only at hSw); go_simp; try with_reducible rfl)); (try simp only [Act.put, List.setIfInBounds_toArray, List.set_cons_zero, List.set_cons_succ]))
      refine M_nil ?_
      try dsimp only
      go_wp2
      go_roundw
      case rel => first | exact ⟨k + 1, by omega, by go_num, by rw [HTK.out.1, HTK.out.2]; exact HON.out, HBN.out⟩ | ((repeat apply Exists.intro); exact ⟨⟨k + 1, by omega, by go_num, by rw [HTK.out.1, HTK.out.2]; exact HON.out, HBN.out⟩, rfl⟩)
      case measure => simp [intOf]; omega
    · obtain rfl : k = s.size := by omega
      have ht : s.data.toList.take s.size = s.data.toList := List.take_of_length_le (by simp)
      have hcv := conv_own wr w.heap.size u3 _ (hexL s.data.toList) (by have := HO.out; rw [ht] at this; exact this) rfl
      clear hhl hkl ht
      go_wp2_with fail
      go_ret
      exact ⟨rfl, HB.out⟩

end Go.Proofs.YtnfpahanbnidpaaDoor
