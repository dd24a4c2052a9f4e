/- DigestHexes: the plain law and the walk. -/
import Derived.Test.YtnfpahanbnidpaaDoorDigJ
set_option linter.unusedSimpArgs false
set_option linter.unusedVariables false
namespace Go.Proofs.YtnfpahanbnidpaaDoor
open Go.RowKit

theorem nib_hexD (n : Nat) (h : n < 16) : nib (hexD n) = (n : Int) := by
  have : ∀ k : Fin 16, nib (hexD k.val) = (k.val : Int) := by decide +kernel
  exact this ⟨n, h⟩
theorem hexD_nib (c : UInt8) (h : 0 ≤ nib c) : hexD (nib c).toNat = c := by
  have h1 : ∀ k : Fin 256, 0 ≤ nib (UInt8.ofNat k.val) → hexD (nib (UInt8.ofNat k.val)).toNat = UInt8.ofNat k.val := by decide +kernel
  have := h1 ⟨c.toNat, c.toNat_lt⟩
  simp only [UInt8.ofNat_toNat] at this
  exact this h
theorem unhex_hex : ∀ (l : List UInt8), unhexL (hexL l) = some l
  | [] => rfl
  | c :: r => by
    have hc := c.toNat_lt
    have e : hexL (c :: r) = hexD (c.toNat / 16) :: hexD (c.toNat % 16) :: hexL r := rfl
    rw [e, unhexL, nib_hexD _ (by omega), nib_hexD _ (by omega), if_neg (by omega), unhex_hex r]
    have : (16 * ((c.toNat / 16 : Nat) : Int) + ((c.toNat % 16 : Nat) : Int)).toNat = c.toNat := by omega
    rw [this]
    simp
theorem hex_unhex : ∀ (l r : List UInt8), unhexL l = some r → hexL r = l
  | [], r, h => by
    simp only [unhexL, Option.some.injEq] at h
    subst h
    rfl
  | [_], r, h => by simp [unhexL] at h
  | a :: b :: l, r, h => by
    rw [unhexL] at h
    split at h
    · cases h
    · rename_i hn
      obtain ⟨t, ht, rfl⟩ := Option.map_eq_some_iff.1 h
      have ra := nib_range a
      have rb := nib_range b
      have e : ∀ (c : UInt8) (q : List UInt8), hexL (c :: q) = hexD (c.toNat / 16) :: hexD (c.toNat % 16) :: hexL q := fun _ _ => rfl
      have hc : (UInt8.ofNat (16 * nib a + nib b).toNat).toNat = (16 * nib a + nib b).toNat := by
        simp
        omega
      rw [e, hex_unhex l t ht, hc]
      have h1 : (16 * nib a + nib b).toNat / 16 = (nib a).toNat := by omega
      have h2 : (16 * nib a + nib b).toNat % 16 = (nib b).toNat := by omega
      rw [h1, h2, hexD_nib a (by omega), hexD_nib b (by omega)]

theorem hexX_any (s X : ByteArray) (hX : X = ⟨(hexL s.data.toList).toArray⟩) (w : World) (hs : s.size ≤ 2000) : Calls Tryd.prog 11 #[.string X] w fun e w' => e = .returned (.tuple #[.string s, .bool true]) ∧ Below w.heap.size w w' := by
  have hz : X.size ≤ 1000000 := by
    rw [hX]
    show (hexL s.data.toList).toArray.size ≤ _
    have h1 : s.data.toList.length = s.size := by simp
    simp only [List.size_toArray, hexL_len]
    omega
  refine (unhex_any X w hz).mono fun e w' ⟨he, hb⟩ => ⟨?_, hb⟩
  have : unhexR X.data.toList = (s.data.toList, true) := by
    rw [hX]
    show unhexR (hexL s.data.toList) = _
    unfold unhexR
    rw [unhex_hex]
  rw [he, this]
theorem hexB2_any (h b : ByteArray) (hb : hexL b.data.toList = h.data.toList) (w : World) (hs : b.size ≤ 1000000) : Calls Tryd.prog 10 #[.string b] w fun e w' => e = .returned (.string h) ∧ Below w.heap.size w w' :=
  (hex_any b w hs).mono fun e w' ⟨he, hbl⟩ => ⟨by rw [he, hb], hbl⟩

set_option maxHeartbeats 1500000 in
set_option maxRecDepth 100000 in
theorem hexes_any (s h : ByteArray) (w : World) (hL : LaidAt w) : Calls Tryd.prog 3 #[.string s, .string h] w fun e w' => e = .returned (.bool true) ∧ Below w.heap.size w w' := by
  have HL := Lib.hid hL
  clear hL
  go_enter Tryd.func3, Tryd.ntmps3
  go_wp2_with fail
  refine (small_any w HL.out).mono ?_
  rintro e w1 ⟨rfl, hb1⟩
  have B1 := Lib.hid hb1
  clear hb1
  by_cases hs : 2000 < s.size
  · have hsi : (2000 : Int) < (s.size : Int) := by omega
    go_wp2
    go_ret
    exact ⟨rfl, B1.out⟩
  by_cases hh : 2000 < h.size
  · have hsi : ¬ (2000 : Int) < (s.size : Int) := by omega
    have hhi : (2000 : Int) < (h.size : Int) := by omega
    go_wp2
    go_ret
    exact ⟨rfl, B1.out⟩
  have hsi : ¬ (2000 : Int) < (s.size : Int) := by omega
  have hhi : ¬ (2000 : Int) < (h.size : Int) := by omega
  have hs0 : (0 : Int) ≤ (s.size : Int) := by omega
  go_wp2_with fail
  refine (hex_any s w1 (by omega)).mono ?_
  rintro e w2 ⟨rfl, hb2⟩
  have B2 := Lib.hid (B1.out.trans (hb2.mono B1.out.size))
  clear hb2
  obtain ⟨X, hX⟩ : ∃ X : ByteArray, X = ⟨(hexL s.data.toList).toArray⟩ := ⟨_, rfl⟩
  have hXs : X.size = 2 * s.size := by
    rw [hX]
    show (hexL s.data.toList).toArray.size = _
    have h1 : s.data.toList.length = s.size := by simp
    simp only [List.size_toArray, hexL_len]
    omega
  have hXi : (X.size : Int) = 2 * (s.size : Int) := by omega
  have HX := Lib.hid hX
  rw [← hX]
  clear hX hXs
  go_wp2_with fail
  refine (hexX_any s X HX.out w2 (by omega)).mono ?_
  rintro e w3 ⟨rfl, hb3⟩
  have B3 := Lib.hid (B2.out.trans (hb3.mono B2.out.size))
  clear hb3
  go_wp2_with fail
  refine (unhex_any h w3 (by omega)).mono ?_
  rintro e w4 ⟨rfl, hb4⟩
  have B4 := Lib.hid (B3.out.trans (hb4.mono B3.out.size))
  clear hb4
  cases hu : unhexL h.data.toList with
  | none =>
    rw [show unhexR h.data.toList = ([], false) by unfold unhexR; rw [hu]]
    clear hu
    go_wp2
    go_ret
    exact ⟨rfl, B4.out⟩
  | some r =>
    rw [show unhexR h.data.toList = (r, true) by unfold unhexR; rw [hu]]
    have hr := hex_unhex _ _ hu
    have hlen : r.length ≤ 2000 := by
      have h1 : (hexL r).length = h.data.toList.length := by rw [hr]
      rw [hexL_len] at h1
      have h2 : h.data.toList.length = h.size := by simp
      omega
    obtain ⟨R, hR⟩ : ∃ R : ByteArray, R = ⟨r.toArray⟩ := ⟨_, rfl⟩
    have HR := Lib.hid (show hexL R.data.toList = h.data.toList ∧ R.size ≤ 1000000 by
      rw [hR]
      exact ⟨hr, by show r.toArray.size ≤ _; simp; omega⟩)
    dsimp only
    rw [← hR]
    clear hu hr hlen hR
    go_wp2_with fail
    refine (hexB2_any h R HR.out.1 w4 HR.out.2).mono ?_
    rintro e w5 ⟨rfl, hb5⟩
    have B5 := Lib.hid (B4.out.trans (hb5.mono B4.out.size))
    clear hb5
    go_wp2
    go_ret
    exact ⟨rfl, B5.out⟩

end Go.Proofs.YtnfpahanbnidpaaDoor
