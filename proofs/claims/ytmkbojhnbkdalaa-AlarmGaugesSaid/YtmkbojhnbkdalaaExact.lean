/- The walks of exact.Add, and sort.Search. -/
import Derived.Test.YtmkbojhnbkdalaaBasA
import Derived.IntWalk
set_option linter.unusedSimpArgs false
set_option linter.unusedVariables false
namespace Go.Proofs.Ytmkbojhnbkdalaa
open Go.RowKit

def satI (n : Int) : Int := if n < -9223372036854775808 then -9223372036854775808 else if 9223372036854775807 < n then 9223372036854775807 else n
theorem end_any (b : Bool) (w : World) : Calls Try.prog 50 #[.bool b] w fun e w' => e = .returned (.int .i64 (if b then -9223372036854775808 else 9223372036854775807)) ∧ w = w' := by
  cases b
  all_goals
    go_enter Try.func50, Try.ntmps50
    go_wp2
    go_ret
    exact ⟨rfl, rfl⟩

theorem satI_in {n : Int} (h1 : -9223372036854775808 ≤ n) (h2 : n ≤ 9223372036854775807) : satI n = n := by
  unfold satI; rw [if_neg (by omega), if_neg (by omega)]
theorem satI_lo {n : Int} (h1 : n < -9223372036854775808) : satI n = -9223372036854775808 := by
  unfold satI; rw [if_pos h1]
theorem satI_hi {n : Int} (h1 : 9223372036854775807 < n) : satI n = 9223372036854775807 := by
  unfold satI; rw [if_neg (by omega), if_pos h1]
theorem satI_bd (n : Int) : -9223372036854775808 ≤ satI n ∧ satI n ≤ 9223372036854775807 := by
  unfold satI; split
  · omega
  · split <;> omega

set_option maxHeartbeats 1000000 in
theorem addE_any (a b : Int) (w : World) (ha : -9223372036854775808 ≤ a ∧ a ≤ 9223372036854775807) (hb : -9223372036854775808 ≤ b ∧ b ≤ 9223372036854775807) :
    Calls Try.prog 18 #[.int .i64 a, .int .i64 b] w fun e w' => e = .returned (.int .i64 (satI (a + b))) ∧ w = w' := by
  have h6 : (a < 0 ∧ b < 0 ∧ -9223372036854775808 ≤ a + b) ∨ (a < 0 ∧ b < 0 ∧ a + b < -9223372036854775808) ∨ (0 ≤ a ∧ 0 ≤ b ∧ a + b ≤ 9223372036854775807) ∨ (0 ≤ a ∧ 0 ≤ b ∧ 9223372036854775807 < a + b) ∨ (a < 0 ∧ 0 ≤ b) ∨ (0 ≤ a ∧ b < 0) := by omega
  have hda : a < 0 → decide (a < 0) = true := fun h => by simpa using h
  have hda' : 0 ≤ a → decide (a < 0) = false := fun h => by simpa using h
  have hdb : b < 0 → decide (b < 0) = true := fun h => by simpa using h
  have hdb' : 0 ≤ b → decide (b < 0) = false := fun h => by simpa using h
  rcases h6 with ⟨h1, h2, h3⟩ | ⟨h1, h2, h3⟩ | ⟨h1, h2, h3⟩ | ⟨h1, h2, h3⟩ | ⟨h1, h2⟩ | ⟨h1, h2⟩
  · have hs := satI_in h3 (by omega)
    have HS := Lib.hid hs
    have h4 : a + b < 0 := by omega
    have h5 : a + b ≤ 9223372036854775807 := by omega
    first | have hD1 := hda h1 | have hD1 := hda' h1
    first | have hD2 := hdb h2 | have hD2 := hdb' h2
    clear hda hda' hdb hdb'
    clear hs
    go_enter Try.func18, Try.ntmps18
    go_wp2
    go_ret
    exact ⟨ret_int HS.out.symm, rfl⟩
  · have hs := satI_lo h3
    have HS := Lib.hid hs
    have h4 : 0 ≤ wrap64 (a + b) := by unfold wrap64; omega
    have h5 : decide (wrap64 (a + b) < 0) = false := by simpa using h4
    first | have hD1 := hda h1 | have hD1 := hda' h1
    first | have hD2 := hdb h2 | have hD2 := hdb' h2
    clear hda hda' hdb hdb'
    clear hs h3 h4
    go_enter Try.func18, Try.ntmps18
    go_wp2_with fail
    refine (end_any _ _).mono ?_
    rintro e w1 ⟨rfl, rfl⟩
    go_wp2
    go_ret
    exact ⟨ret_int (by rw [HS.out]), rfl⟩
  · have hs := satI_in (by omega) h3
    have HS := Lib.hid hs
    have h4 : 0 ≤ a + b := by omega
    have h5 : -9223372036854775808 ≤ a + b := by omega
    first | have hD1 := hda h1 | have hD1 := hda' h1
    first | have hD2 := hdb h2 | have hD2 := hdb' h2
    clear hda hda' hdb hdb'
    clear hs
    go_enter Try.func18, Try.ntmps18
    go_wp2
    go_ret
    exact ⟨ret_int HS.out.symm, rfl⟩
  · have hs := satI_hi h3
    have HS := Lib.hid hs
    have h4 : wrap64 (a + b) < 0 := by unfold wrap64; omega
    have h5 : decide (wrap64 (a + b) < 0) = true := by simpa using h4
    have h6 : ¬ a < 0 := by omega
    first | have hD1 := hda h1 | have hD1 := hda' h1
    first | have hD2 := hdb h2 | have hD2 := hdb' h2
    clear hda hda' hdb hdb'
    clear hs h3 h4
    go_enter Try.func18, Try.ntmps18
    go_wp2_with fail
    refine (end_any _ _).mono ?_
    rintro e w1 ⟨rfl, rfl⟩
    go_wp2
    go_ret
    exact ⟨ret_int (by rw [HS.out]), rfl⟩
  all_goals
    have hs := satI_in (n := a + b) (by omega) (by omega)
    have HS := Lib.hid hs
    have h4 : a + b ≤ 9223372036854775807 := by omega
    have h5 : -9223372036854775808 ≤ a + b := by omega
    first | have hD1 := hda h1 | have hD1 := hda' h1
    first | have hD2 := hdb h2 | have hD2 := hdb' h2
    clear hda hda' hdb hdb'
    clear hs
    go_enter Try.func18, Try.ntmps18
    go_wp2
    go_ret
    exact ⟨ret_int HS.out.symm, rfl⟩

theorem i64_id (n : Nat) (h : n ≤ 9223372036854775807) : IntKind.i64.wrap (n : Int) = (n : Int) := by rw [IntKind.wrap_i64]; omega
theorem u64_id (n : Nat) (h : n ≤ 9223372036854775807) : IntKind.u64.wrap (n : Int) = (n : Int) := by rw [IntKind.wrap_u64]; omega
/-- Go's binary search. -/
def srchF (p : Nat → Bool) : Nat → Nat → Nat → Nat
  | 0, lo, _ => lo
  | f + 1, lo, hi => if lo < hi then (if p ((lo + hi) / 2) then srchF p f lo ((lo + hi) / 2) else srchF p f ((lo + hi) / 2 + 1) hi) else lo
def searchI (p : Nat → Bool) (n : Nat) : Nat := srchF p n 0 n
theorem srchF_prop (p : Nat → Bool) (n : Nat) : ∀ (f lo hi : Nat), lo ≤ hi → hi ≤ n → hi - lo ≤ f → (lo = 0 ∨ p (lo - 1) = false) → (hi = n ∨ p hi = true) →
    srchF p f lo hi ≤ n ∧ (srchF p f lo hi = 0 ∨ p (srchF p f lo hi - 1) = false) ∧ (srchF p f lo hi = n ∨ p (srchF p f lo hi) = true)
  | 0, lo, hi, h1, h2, h3, h4, h5 => by
    obtain rfl : lo = hi := by omega
    exact ⟨h2, h4, h5⟩
  | f + 1, lo, hi, h1, h2, h3, h4, h5 => by
    unfold srchF
    by_cases hl : lo < hi
    · rw [if_pos hl]
      cases hp : p ((lo + hi) / 2)
      · rw [if_neg (by simp)]
        exact srchF_prop p n f _ _ (by omega) h2 (by omega) (.inr (by simpa using hp)) h5
      · rw [if_pos rfl]
        exact srchF_prop p n f _ _ (by omega) (by omega) (by omega) h4 (.inr hp)
    · rw [if_neg hl]
      obtain rfl : lo = hi := by omega
      exact ⟨h2, h4, h5⟩
theorem searchI_prop (p : Nat → Bool) (n : Nat) : searchI p n ≤ n ∧ (searchI p n = 0 ∨ p (searchI p n - 1) = false) ∧ (searchI p n = n ∨ p (searchI p n) = true) :=
  srchF_prop p n n 0 n (Nat.zero_le _) (Nat.le_refl _) (by omega) (.inl rfl) (.inl rfl)
theorem srchF_same (p : Nat → Bool) (f lo : Nat) : srchF p f lo lo = lo := by
  cases f with
  | zero => rfl
  | succ f => unfold srchF; rw [if_neg (Nat.lt_irrefl _)]

set_option maxRecDepth 100000 in
set_option maxHeartbeats 1000000 in
theorem search_any (n : Nat) (p : Nat → Bool) (fid : Nat) (cp : Array Value) (w : World) (hn : n ≤ 4611686018427387903)
    (hcf : ∀ (args : Array Value) (W : World), (callFunc fid args).run Try.prog W = .ok (.enter fid args) W) (hp : ∀ W i, i < n → Below w.heap.size w W → Calls Try.prog fid (#[.int .i64 (i : Int)] ++ cp) W (fun e w' => e = .returned (.bool (p i)) ∧ Below W.heap.size W w')) :
    Calls Try.prog 64 #[.int .i64 (n : Int), .func (.func fid) #[] cp] w fun e w' => e = .returned (.int .i64 (searchI p n : Nat)) ∧ Below w.heap.size w w' := by
  have HP := Lib.hid hp
  clear hp
  go_enter Try.func64, Try.ntmps64
  go_wp2
  go_loopw [5, 6] (fun x y wr => ∃ f lo hi : Nat, x = .int .i64 (lo : Int) ∧ y = .int .i64 (hi : Int) ∧ lo ≤ hi ∧ hi ≤ n ∧ hi - lo ≤ f ∧ srchF p f lo hi = searchI p n ∧ Below w.heap.size w wr) (fun x y _ => (intOf y).toNat - (intOf x).toNat)
  case atStart => exact ⟨n, 0, n, rfl, rfl, by omega, by omega, by omega, rfl, Below.refl _ _⟩
  case round =>
    obtain ⟨f, lo, hi, rfl, rfl, hlh, hhn, hf, hs, hb⟩ := hrel
    have HB := Lib.hid hb
    have hsz := hb.size
    clear hb
    by_cases hlt : lo < hi
    · obtain ⟨f', rfl⟩ : ∃ f', f = f' + 1 := ⟨f - 1, by omega⟩
      unfold srchF at hs
      rw [if_pos hlt] at hs
      obtain ⟨h, hh⟩ : ∃ z, z = (lo + hi) / 2 := ⟨_, rfl⟩
      rw [← hh] at hs
      have hli : (lo : Int) < (hi : Int) := by omega
      obtain ⟨sm, hsm⟩ : ∃ z, z = lo + hi := ⟨_, rfl⟩
      have e1 : (lo : Int) + (hi : Int) = (sm : Int) := by omega
      have e4 : (sm : Int) / 2 = (h : Int) := by omega
      have hsb : sm ≤ 9223372036854775807 := by omega
      have hhb : h ≤ 9223372036854775807 := by omega
      have hsm0 : (0 : Int) ≤ (sm : Int) := by omega
      have hh0 : (0 : Int) ≤ (h : Int) := by omega
      have hhn : (h : Int) < (n : Int) := by omega
      have hh1 : lo ≤ h := by omega
      have hh2 : h < hi := by omega
      have CP := Lib.hid (HP.out wr h (by omega) HB.out)
      have HS := Lib.hid hs
      have HF := Lib.hid hf
      obtain ⟨r, hr⟩ : ∃ r, p h = r := ⟨_, rfl⟩
      rw [hr] at CP HS
      have e3 := u64_id sm hsb
      have e5 := i64_id h hhb
      clear hs hh hsm hr hf hsb hhb
      go_wp2_with fail
      refine CP.out.mono ?_
      rintro e W ⟨rfl, hbW⟩
      have HBW := Lib.hid (HB.out.trans (hbW.mono hsz))
      clear hbW
      clear e3 e5
      cases r
      · go_wp2_with fail
        go_roundw
        case rel => exact ⟨f', h + 1, hi, by go_num, rfl, by omega, by omega, by have := HF.out; omega, HS.out, HBW.out⟩
        case measure => simp [intOf]; omega
      · go_wp2_with fail
        go_roundw
        case rel => exact ⟨f', lo, h, rfl, rfl, by omega, by omega, by have := HF.out; omega, HS.out, HBW.out⟩
        case measure => simp [intOf]; omega
    · obtain rfl : lo = hi := by omega
      have HE := Lib.hid (show searchI p n = lo by rw [← hs, srchF_same])
      clear hs
      go_wp2
      go_ret
      exact ⟨by rw [HE.out]; rfl, HB.out⟩

end Go.Proofs.Ytmkbojhnbkdalaa
