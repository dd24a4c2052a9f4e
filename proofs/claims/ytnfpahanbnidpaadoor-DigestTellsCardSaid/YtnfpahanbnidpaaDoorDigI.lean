/- The walks of digest: Unhex. -/
import Derived.Test.YtnfpahanbnidpaaDoorDigB
import Derived.Test.YtnfpahanbnidpaaDoorDigC
set_option linter.unusedSimpArgs false
set_option linter.unusedVariables false
namespace Go.Proofs.YtnfpahanbnidpaaDoor
open Go.RowKit

def nib (c : UInt8) : Int := Lib.indexByte digs.data.toList c
def unhexL : List UInt8 → Option (List UInt8)
  | [] => some []
  | [_] => none
  | a :: b :: r => if nib a < 0 ∨ nib b < 0 then none else (unhexL r).map fun t => UInt8.ofNat (16 * nib a + nib b).toNat :: t
def unhexR (l : List UInt8) : List UInt8 × Bool := match unhexL l with | some r => (r, true) | none => ([], false)
theorem nib_range (c : UInt8) : -1 ≤ nib c ∧ nib c < 16 := by
  have h : ∀ n : Fin 256, -1 ≤ nib (UInt8.ofNat n.val) ∧ nib (UInt8.ofNat n.val) < 16 := by decide +kernel
  have := h ⟨c.toNat, c.toNat_lt⟩
  simpa using this
theorem unhexL_odd : ∀ (l : List UInt8), l.length % 2 = 1 → unhexL l = none
  | [], h => by simp at h
  | [_], _ => rfl
  | a :: b :: r, h => by
    rw [unhexL, unhexL_odd r (by simp only [List.length_cons] at h; omega)]
    split <;> rfl
theorem drop_two (l : List UInt8) (i : Nat) (h : i + 1 < l.length) : l.drop i = l[i] :: l[i + 1] :: l.drop (i + 2) := by
  rw [List.drop_eq_getElem_cons (by omega), List.drop_eq_getElem_cons h]

theorem build_drew {B b : Nat} {l : List Value} {w : World} (h : Lib.IsBuilder 35 5 B b l w) : Lib.IsBuilder 35 5 B b l w.drew := h

set_option maxHeartbeats 1500000 in
set_option maxRecDepth 100000 in
theorem unhex_any (s : ByteArray) (w : World) (hs : s.size ≤ 1000000) :
    Calls Tryd.prog 11 #[.string s] w fun e w' => e = .returned (.tuple #[.string ⟨(unhexR s.data.toList).1.toArray⟩, .bool (unhexR s.data.toList).2]) ∧ Below w.heap.size w w' := by
  have hln : s.data.toList.length = s.size := by simp
  go_enter Tryd.func11, Tryd.ntmps11
  rcases (Nat.mod_two_eq_zero_or_one s.size).symm with hod | hev
  · have h1 : (s.size : Int).tmod 2 = 1 := by rw [Int.tmod_eq_emod_of_nonneg (by omega)]; omega
    have HU := Lib.hid (show unhexR s.data.toList = ([], false) by unfold unhexR; rw [unhexL_odd _ (by rw [hln]; exact hod)])
    clear hln
    go_wp2_with fail
    go_ret2
    refine ⟨by rw [HU.out]; rfl, (Below.refl _ _).alloc (Nat.le_refl _) _⟩
  · have h1 : (s.size : Int).tmod 2 = 0 := by rw [Int.tmod_eq_emod_of_nonneg (by omega)]; omega
    go_wp2_with fail
    go_loopw [5] (fun i wr => ∃ k : Nat, ∃ acc : List UInt8, k ≤ s.size ∧ k % 2 = 0 ∧ i = .int .i64 k ∧ acc.length ≤ k ∧ unhexL s.data.toList = (unhexL (s.data.toList.drop k)).map (acc ++ ·) ∧ Lib.IsBuilder 35 5 w.heap.size w.heap.size (Lib.byteCells acc) wr ∧ Below w.heap.size w wr) (fun i _ => s.size - (intOf i).toNat)
    case atStart => exact ⟨0, [], Nat.zero_le _, rfl, rfl, Nat.le_refl _, by simp, Lib.fresh_isBuilder _ _ w, (Below.refl _ _).alloc (Nat.le_refl _) _⟩
    case round =>
      obtain ⟨k, acc, hk, hk2, rfl, hal, hun, hI, hb⟩ := hrel
      have hz := hb.size
      have hk0 : (0 : Int) ≤ (k : Int) := by omega
      by_cases hlt : k < s.size
      · have hlt1 : k + 1 < s.size := by omega
        have hkn : (k : Int) < (s.size : Int) := by omega
        obtain ⟨k1, hk1⟩ : ∃ q, q = k + 1 := ⟨_, rfl⟩
        have hlt1' : k1 < s.size := by omega
        have hk1i : (k1 : Int) < (s.size : Int) := by omega
        have hk10 : (0 : Int) ≤ (k1 : Int) := by omega
        have hw1 : IntKind.i64.wrap ((k : Int) + 1) = (k1 : Int) := by rw [IntKind.wrap_i64]; omega
        have hdr := drop_two s.data.toList k (by omega)
        obtain ⟨a, ha⟩ : ∃ a, a = s[k]'hlt := ⟨_, rfl⟩
        obtain ⟨b, hbb⟩ : ∃ b, b = s[k + 1]'hlt1 := ⟨_, rfl⟩
        rw [show s.data.toList[k]'(by omega) = s[k]'hlt from rfl, show s.data.toList[k + 1]'(by omega) = s[k + 1]'hlt1 from rfl, ← ha, ← hbb] at hdr
        rw [hdr, unhexL] at hun
        have hra := nib_range a
        have hrb := nib_range b
        have ha' : s[k]'hlt = a := ha.symm
        have hb' : s[k1]'hlt1' = b := by subst hk1; exact hbb.symm
        clear hk1
        obtain ⟨na, hna⟩ : ∃ n, n = nib a := ⟨_, rfl⟩
        obtain ⟨nb, hnb⟩ : ∃ n, n = nib b := ⟨_, rfl⟩
        rw [← hna] at hra hun
        rw [← hnb] at hrb hun
        have HNA := Lib.hid hna
        have HNB := Lib.hid hnb
        have HUN := Lib.hid hun
        have HI := Lib.hid hI
        have HB := Lib.hid hb
        clear hdr hun hI hb ha hbb hna hnb hln h1
        go_wp2_with fail
        refine wp_region_headA 11 [] (fun _ => (fun W => Lib.IsBuilder 35 5 w.heap.size w.heap.size (Lib.byteCells acc) W ∧ Below w.heap.size w W)) (by kernel_rfl) (by kernel_rfl) (by kernel_rfl) ⟨build_drew HI.out, HB.out.drew⟩ ?_
        iterate 3 (refine chain_pureA (by decide) (by rfl) ?_; apply Exists.intro; apply And.intro; (case left => (intro β w hSw; (try dsimp only at hSw); go_simp; try with_reducible rfl)); (try simp only [Act.put, List.setIfInBounds_toArray, List.set_cons_zero, List.set_cons_succ]))
        (refine chain_callA (by decide) (by rfl) ?_; apply Exists.intro; apply Exists.intro; apply And.intro; (case left => (intro w; go_simp; exact ⟨rfl, rfl⟩)))
        refine ⟨(.int .i64 na), (fun β W hSW => ?_), ?_⟩
        · refine (Tryd.strings_IndexByte digs ((a.toNat : Nat) : Int) _).mono ?_
          rintro e w' ⟨rfl, rfl⟩
          exact ⟨by rw [HNA.out, show ((a.toNat : Nat) : Int).toNat.toUInt8 = a by simp]; rfl, hSW⟩
        (try simp only [Act.put, List.setIfInBounds_toArray, List.set_cons_zero, List.set_cons_succ])
        iterate 4 (refine chain_pureA (by decide) (by rfl) ?_; apply Exists.intro; apply And.intro; (case left => (intro β w hSw; (try dsimp only at hSw); go_simp; try with_reducible rfl)); (try simp only [Act.put, List.setIfInBounds_toArray, List.set_cons_zero, List.set_cons_succ]))
        (refine chain_callA (by decide) (by rfl) ?_; apply Exists.intro; apply Exists.intro; apply And.intro; (case left => (intro w; go_simp; exact ⟨rfl, rfl⟩)))
        refine ⟨(.int .i64 nb), (fun β W hSW => ?_), ?_⟩
        · refine (Tryd.strings_IndexByte digs ((b.toNat : Nat) : Int) _).mono ?_
          rintro e w' ⟨rfl, rfl⟩
          exact ⟨by rw [HNB.out, show ((b.toNat : Nat) : Int).toNat.toUInt8 = b by simp]; rfl, hSW⟩
        (try simp only [Act.put, List.setIfInBounds_toArray, List.set_cons_zero, List.set_cons_succ])
        iterate 2 (refine chain_pureA (by decide) (by rfl) ?_; apply Exists.intro; apply And.intro; (case left => (intro β w hSw; (try dsimp only at hSw); go_simp; try with_reducible rfl)); (try simp only [Act.put, List.setIfInBounds_toArray, List.set_cons_zero, List.set_cons_succ]))
        rintro W hW
        have HW := Lib.hid hW
        have hzW := hW.2.size
        clear hW
        by_cases hna0 : na < 0
        · have HU := Lib.hid (show unhexR s.data.toList = ([], false) by unfold unhexR; rw [HUN.out, if_pos (.inl hna0)]; rfl)
          go_wp2_with fail
          go_ret2
          exact ⟨by rw [HU.out]; rfl, HW.out.2⟩
        · by_cases hnb0 : nb < 0
          · have HU := Lib.hid (show unhexR s.data.toList = ([], false) by unfold unhexR; rw [HUN.out, if_pos (.inr hnb0)]; rfl)
            go_wp2_with fail
            go_ret2
            exact ⟨by rw [HU.out]; rfl, HW.out.2⟩
          · obtain ⟨c, hc⟩ : ∃ c, c = UInt8.ofNat (16 * na + nb).toNat := ⟨_, rfl⟩
            have hcc : IntKind.u8.wrap (16 * na + nb) = (c.toNat : Int) := by rw [hc, IntKind.wrap_u8]; simp; omega
            have hce : (16 * na + nb) % 256 = (c.toNat : Int) := by rw [hc]; simp; omega
            have hun := HUN.out
            rw [if_neg (by omega), ← hc] at hun
            have HUX := Lib.hid (show unhexL s.data.toList = (unhexL (s.data.toList.drop (k + 2))).map ((acc ++ [c]) ++ ·) by rw [hun, Option.map_map]; congr 1; funext t; simp)
            clear hun hc
            go_wp2_with fail
            refine (writeByte_any w.heap.size w.heap.size _ _ _ HW.out.1 (by rw [Lib.byteCells_length]; omega) hzW).mono ?_
            rintro e w1 ⟨rfl, hI1, hb1⟩
            have HR := Lib.hid (show Lib.IsBuilder 35 5 w.heap.size w.heap.size (Lib.byteCells (acc ++ [c])) w1 ∧ Below w.heap.size w w1 from
              ⟨.inr (by rw [Lib.byteCells_append]; first | exact hI1 | (rw [hce] at hI1; exact hI1)), HW.out.2.trans hb1⟩)
            clear hI1 hb1
            go_wp2
            go_roundw
            case rel => exact ⟨k + 2, acc ++ [c], by omega, by omega, by go_num, by simp; omega, HUX.out, HR.out⟩
            case measure => simp [intOf]; omega
      · have hkn : k = s.size := by omega
        have hkf : ¬ (k : Int) < (s.size : Int) := by omega
        have HU := Lib.hid (show unhexR s.data.toList = (acc, true) by
          unfold unhexR
          rw [hun, List.drop_of_length_le (by omega)]
          simp [unhexL])
        have HI := Lib.hid hI
        have HB := Lib.hid hb
        clear hun hI hb hkn h1 hln
        go_wp2_with fail
        refine (Tryd.Builder_String_any w.heap.size w.heap.size _ _ HI.out hz).mono ?_
        rintro e w1 ⟨rfl, hb1⟩
        go_wp2
        go_ret2
        exact ⟨by rw [HU.out]; rfl, HB.out.trans hb1⟩

end Go.Proofs.YtnfpahanbnidpaaDoor
