/- The walk of basin's isName. -/
import Derived.Test.YtmkbojhnbkdalaaBasK
set_option linter.unusedSimpArgs false
set_option linter.unusedVariables false
namespace Go.Proofs.Ytmkbojhnbkdalaa
open Go.RowKit Go.Lib

def outS : List UInt8 := [111, 117, 116]
def head0 (s : ByteArray) : Nat := (s.data.toList.headD 0).toNat
def nameB (s : ByteArray) : Bool := decide (0 < s.size) && (decide (s.size ≤ 24) && (!(s.toList == outS) && (decide (97 ≤ head0 s) && (decide (head0 s ≤ 122) && !(decide (0 ≤ Lib.idxFunc badName true s))))))
theorem head0_eq (s : ByteArray) (h : 0 < s.size) : head0 s = (s[0]'h).toNat := by
  unfold head0
  cases s with
  | mk d =>
    cases d with
    | mk l =>
      cases l with
      | nil => simp [ByteArray.size] at h
      | cons a r => rfl
theorem pred_badName (w : World) : PredAtRunes Try.prog 79 #[] badName w := by
  intro W x hx hb
  refine (badName_any x hx W).mono ?_
  rintro e w' ⟨he, rfl⟩
  exact ⟨he, 0, rfl⟩
theorem pred_badText (w : World) : PredAtRunes Try.prog 30 #[] badText w := by
  intro W x hx hb
  refine (badText_any x hx W).mono ?_
  rintro e w' ⟨he, rfl⟩
  exact ⟨he, 0, rfl⟩

set_option maxRecDepth 100000 in
set_option maxHeartbeats 400000 in
theorem isName_any (s : ByteArray) (w : World) (hs : s.size ≤ maxLen) : Calls Try.prog 69 #[.string s] w fun e w' => e = .returned (.bool (nameB s)) ∧ Below w.heap.size w w' := by
  have hsl := two_byte hs
  have HB := Lib.hid (show nameB s = (decide (0 < s.size) && (decide (s.size ≤ 24) && (!(s.toList == outS) && (decide (97 ≤ head0 s) && (decide (head0 s ≤ 122) && !(decide (0 ≤ Lib.idxFunc badName true s))))))) from rfl)
  have hcc := Try.strings_ContainsFunc_runes 79 #[] (enters_of Try.func79 (by kernel_rfl) rfl) badName s w (pred_badName w)
  obtain ⟨r, hr⟩ : ∃ r, decide (0 ≤ Lib.idxFunc badName true s) = r := ⟨_, rfl⟩
  rw [hr] at hcc HB
  have HCC := Lib.hid hcc
  clear hcc hr hs
  by_cases h0 : s.size = 0
  · have ht : s.toList = [] := by
      rw [Go.ByteArray.toList_eq]
      cases s with | mk d => cases d with | mk l => simpa [ByteArray.size] using h0
    have HH : Hid (nameB s = false) := by show nameB s = false; rw [HB.out, show decide (0 < s.size) = false by simp [h0]]; rfl
    have ht2 : s.toList.isEmpty = true := by rw [ht]; rfl
    have ht3 : (s.toList == []) = true := by rw [ht]; rfl
    clear ht h0
    go_enter Try.func69, Try.ntmps69
    go_wp2_with fail
    go_ret
    exact ⟨by rw [HH.out]; rfl, Below.refl _ _⟩
  have hne : s.toList.isEmpty = false := by
    rw [Go.ByteArray.toList_eq]
    cases s with | mk d => cases d with | mk l => cases l with | nil => exact absurd rfl h0 | cons a r => rfl
  have hne2 : (s.toList == []) = false := by
    cases ht : s.toList with
    | nil => rw [ht] at hne; cases hne
    | cons a r => rfl
  have hp : 0 < s.size := by omega
  have hhd := head0_eq s hp
  have HB1 := Lib.hid (show nameB s = (decide (s.size ≤ 24) && (!(s.toList == outS) && (decide (97 ≤ head0 s) && (decide (head0 s ≤ 122) && !r)))) by rw [HB.out, decide_eq_true hp]; rfl)
  by_cases h1 : 24 < s.size
  · have h1i : (24 : Int) < (s.size : Int) := by omega
    have HH : Hid (nameB s = false) := by show nameB s = false; rw [HB1.out, show decide (s.size ≤ 24) = false from decide_eq_false (by omega)]; rfl
    clear hhd
    go_enter Try.func69, Try.ntmps69
    go_wp2_with fail
    go_ret
    exact ⟨by rw [HH.out]; rfl, Below.refl _ _⟩
  have h1i : ¬ (24 : Int) < (s.size : Int) := by omega
  obtain ⟨bo, hbo⟩ : ∃ b, (s.toList == outS) = b := ⟨_, rfl⟩
  have hbo' : (s.toList == [111, 117, 116]) = bo := hbo
  rw [hbo] at HB1
  obtain ⟨c, hc⟩ : ∃ c, c = head0 s := ⟨_, rfl⟩
  rw [← hc] at HB1 hhd
  have hcv : ((s[0]'hp).toNat : Int) = (c : Int) := by rw [hhd]
  have hp0 : (0 : Int) < (s.size : Int) := by omega
  have HB2 := Lib.hid (show nameB s = (!bo && (decide (97 ≤ c) && (decide (c ≤ 122) && !r))) by rw [HB1.out, decide_eq_true (show s.size ≤ 24 by omega)]; rfl)
  clear hc hhd hbo h0
  cases bo
  · by_cases h2 : c < 97
    · have h2i : (c : Int) < 97 := by omega
      have HH : Hid (nameB s = false) := by show nameB s = false; rw [HB2.out, show decide (97 ≤ c) = false from decide_eq_false (by omega)]; rfl
      go_enter Try.func69, Try.ntmps69
      go_wp2_with fail
      go_ret
      exact ⟨by rw [HH.out]; rfl, Below.refl _ _⟩
    by_cases h3 : 122 < c
    · have h2i : ¬ (c : Int) < 97 := by omega
      have h3i : 122 < (c : Int) := by omega
      have HH : Hid (nameB s = false) := by show nameB s = false; rw [HB2.out, show decide (c ≤ 122) = false from decide_eq_false (by omega)]; simp
      go_enter Try.func69, Try.ntmps69
      go_wp2_with fail
      go_ret
      exact ⟨by rw [HH.out]; rfl, Below.refl _ _⟩
    have h2i : ¬ (c : Int) < 97 := by omega
    have h3i : ¬ 122 < (c : Int) := by omega
    have HH : Hid (nameB s = !r) := by show nameB s = !r; rw [HB2.out, show decide (c ≤ 122) = true from decide_eq_true (by omega), show decide (97 ≤ c) = true from decide_eq_true (by omega)]; simp
    go_enter Try.func69, Try.ntmps69
    go_wp2_with fail
    refine HCC.out.mono ?_
    rintro e w' ⟨rfl, hb⟩
    have HBW := Lib.hid hb
    clear hb
    go_wp2_with fail
    go_ret
    exact ⟨by rw [HH.out]; rfl, HBW.out⟩
  · have HH : Hid (nameB s = false) := by show nameB s = false; rw [HB2.out]; rfl
    go_enter Try.func69, Try.ntmps69
    go_wp2_with fail
    go_ret
    exact ⟨by rw [HH.out]; rfl, Below.refl _ _⟩

end Go.Proofs.Ytmkbojhnbkdalaa
