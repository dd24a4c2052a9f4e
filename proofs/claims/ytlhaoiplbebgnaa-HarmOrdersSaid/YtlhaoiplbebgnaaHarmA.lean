/- The walks of harm: compare, Less, Add, and of exact.Add. -/
import Derived.Test.YtlhaoiplbebgnaaRegionM
import Derived.IntWalk
set_option linter.unusedSimpArgs false
set_option linter.unusedVariables false
namespace Go.Proofs.Ytlhaoiplbebgnaa
open Go.RowKit

structure Hm where
  fl : Int
  sp : Int
  sh : Int
  mv : Int
def harmC (x : Hm) : List Value := [.int .i64 x.fl, .int .i64 x.sp, .int .i64 x.sh, .int .i64 x.mv]

def cmpI (x y : Int) : Int := if x < y then -1 else if y < x then 1 else 0
def orL : List Int → Int
  | [] => 0
  | a :: r => if a = 0 then orL r else a
def cmpH (x y : Hm) : Int := orL [cmpI x.fl y.fl, cmpI x.sp y.sp, cmpI x.sh y.sh, cmpI x.mv y.mv]
def lessB (x y : Hm) : Bool := decide (cmpH x y < 0)
def satI (n : Int) : Int := if n < -9223372036854775808 then -9223372036854775808 else if 9223372036854775807 < n then 9223372036854775807 else n
def addH (x y : Hm) : Hm := ⟨satI (x.fl + y.fl), satI (x.sp + y.sp), satI (x.sh + y.sh), satI (x.mv + y.mv)⟩

theorem isNaN_any (x : Int) (w : World) : Calls Try.prog 56 #[.int .i64 x] w fun e w' => e = .returned (.bool false) ∧ w = w' := by
  go_enter Try.func56, Try.ntmps56
  go_wp2
  go_ret
  simp

set_option maxHeartbeats 400000 in
theorem compareI_any (x y : Int) (w : World) : Calls Try.prog 53 #[.int .i64 x, .int .i64 y] w fun e w' => e = .returned (.int .i64 (cmpI x y)) ∧ w = w' := by
  have h3 : x < y ∨ (¬ x < y ∧ y < x) ∨ (¬ x < y ∧ ¬ y < x) := by omega
  rcases h3 with h | ⟨h1, h⟩ | ⟨h1, h⟩
  all_goals
    go_enter Try.func53, Try.ntmps53
    go_wp2_with fail
    refine (isNaN_any _ _).mono ?_
    rintro e w1 ⟨rfl, rfl⟩
    go_wp2_with fail
    refine (isNaN_any _ _).mono ?_
    rintro e w1 ⟨rfl, rfl⟩
    go_wp2
    go_ret
    refine ⟨ret_int ?_, rfl⟩
    unfold cmpI
    (repeat' split) <;> omega

set_option maxRecDepth 100000 in
set_option maxHeartbeats 400000 in
theorem or4_any (a b c d : Int) (B : Nat) (w : World) (hB : Bk w B 3 #[.int .i64 a, .int .i64 b, .int .i64 c, .int .i64 d]) :
    Calls Try.prog 52 #[.slice (some ⟨B, 0, none⟩) 4 4] w fun e w' => e = .returned (.int .i64 (orL [a, b, c, d])) ∧ w = w' := by
  have hc := hB.cell
  go_enter Try.func52, Try.ntmps52
  go_wp2
  go_loop [8] (fun i => ∃ k : Nat, k ≤ 4 ∧ i = .int .i64 k ∧ orL [a, b, c, d] = orL ([a, b, c, d].drop k)) (fun i => 4 - (intOf i).toNat)
  case atStart => exact ⟨0, by omega, rfl, rfl⟩
  case round =>
    obtain ⟨k, hk, rfl, hl⟩ := hrel
    by_cases hlt : k < 4
    · obtain ⟨x, hx⟩ : ∃ x, [a, b, c, d][k]? = some x := ⟨_, List.getElem?_eq_getElem (by simpa using hlt)⟩
      have e0 : w.cell? ⟨B, k, none⟩ = some (.int .i64 x) := by
        rw [hc k]
        match k, hlt, hx with
        | 0, _, hx => simp at hx; subst hx; rfl
        | 1, _, hx => simp at hx; subst hx; rfl
        | 2, _, hx => simp at hx; subst hx; rfl
        | 3, _, hx => simp at hx; subst hx; rfl
      have hdr : [a, b, c, d].drop k = x :: [a, b, c, d].drop (k + 1) := by
        obtain ⟨hh, he⟩ := List.getElem?_eq_some_iff.1 hx
        rw [List.drop_eq_getElem_cons hh, he]
      have hst : orL ([a, b, c, d].drop k) = if x = 0 then orL ([a, b, c, d].drop (k + 1)) else x := by rw [hdr]; rfl
      have hk4 : (k : Int) < 4 := by omega
      have HL := Lib.hid hl
      have HST := Lib.hid hst
      clear hl hst hdr hx hc
      by_cases hx0 : x = 0
      · have hxb : (x != 0) = false := by simp [hx0]
        have HX := Lib.hid hx0
        clear hx0
        go_wp2
        go_round
        case rel => exact ⟨k + 1, by omega, by go_num, by rw [HL.out, HST.out, if_pos HX.out]⟩
        case measure => simp [intOf]; omega
      · have hxb : (x != 0) = true := by simp [hx0]
        have HX := Lib.hid hx0
        clear hx0
        go_wp2
        go_ret
        exact ⟨ret_int (by rw [HL.out, HST.out, if_neg HX.out]), rfl⟩
    · have hk4 : k = 4 := by omega
      subst hk4
      have HL := Lib.hid hl
      clear hl
      go_wp2
      go_ret
      exact ⟨ret_int (by rw [HL.out]; rfl), rfl⟩

set_option maxRecDepth 100000 in
set_option maxHeartbeats 1000000 in
theorem compareH_any (x y : Hm) (w : World) : Calls Try.prog 43 #[.agg #[.int .i64 x.fl, .int .i64 x.sp, .int .i64 x.sh, .int .i64 x.mv], .agg #[.int .i64 y.fl, .int .i64 y.sp, .int .i64 y.sh, .int .i64 y.mv]] w fun e w' => e = .returned (.int .i64 (cmpH x y)) ∧ Below w.heap.size w w' := by
  go_enter Try.func43, Try.ntmps43
  go_wp2_with fail
  have hb1 := (Bk.new w 61 #[.int .i64 x.fl, .int .i64 x.sp, .int .i64 x.sh, .int .i64 x.mv]).alloc (.cells #[.int .i64 y.fl, .int .i64 y.sp, .int .i64 y.sh, .int .i64 y.mv] 61)
  have hb2 := Bk.newAt (w.alloc (.cells #[.int .i64 x.fl, .int .i64 x.sp, .int .i64 x.sh, .int .i64 x.mv] 61)) (k := w.heap.size + 1) (by simp) 61 #[.int .i64 y.fl, .int .i64 y.sp, .int .i64 y.sh, .int .i64 y.mv]
  have hbw : Below w.heap.size w ((w.alloc (.cells #[.int .i64 x.fl, .int .i64 x.sp, .int .i64 x.sh, .int .i64 x.mv] 61)).alloc (.cells #[.int .i64 y.fl, .int .i64 y.sp, .int .i64 y.sh, .int .i64 y.mv] 61)) := ((Below.refl _ _).alloc (Nat.le_refl _) _).alloc (by simp) _
  generalize (w.alloc (.cells #[.int .i64 x.fl, .int .i64 x.sp, .int .i64 x.sh, .int .i64 x.mv] 61)).alloc (.cells #[.int .i64 y.fl, .int .i64 y.sp, .int .i64 y.sh, .int .i64 y.mv] 61) = w2 at *
  obtain ⟨B1, hB1⟩ : ∃ B1, B1 = w.heap.size := ⟨_, rfl⟩
  obtain ⟨B2, hB2⟩ : ∃ B2, B2 = w.heap.size + 1 := ⟨_, rfl⟩
  rw [← hB1] at hb1
  rw [← hB2] at hb2
  rw [← hB2, ← hB1]
  have HB1 := Lib.hid hb1
  have HB2 := Lib.hid hb2
  have HBW := Lib.hid hbw
  have HE1 := Lib.hid hB1
  have HE2 := Lib.hid hB2
  have hz2 := hbw.size
  have c1 : ∀ j, w2.drew.cell? ⟨B1, j, none⟩ = #[.int .i64 x.fl, .int .i64 x.sp, .int .i64 x.sh, .int .i64 x.mv][j]? := hb1.cell
  have c2 : ∀ j, w2.drew.cell? ⟨B2, j, none⟩ = #[.int .i64 y.fl, .int .i64 y.sp, .int .i64 y.sh, .int .i64 y.mv][j]? := hb2.cell
  clear hb1 hb2 hbw hB1 hB2
  refine wp_region_M [0, 1, 2, 3, 5, 6, 7, 8, 10, 11, 12, 13, 15, 16, 17, 18, 4, 9, 14, 19, 20, 21, 22] [4, 9, 14, 19, 20, 21] (fun w' => (∀ j, w'.cell? ⟨B1, j, none⟩ = #[.int .i64 x.fl, .int .i64 x.sp, .int .i64 x.sh, .int .i64 x.mv][j]?) ∧ (∀ j, w'.cell? ⟨B2, j, none⟩ = #[.int .i64 y.fl, .int .i64 y.sp, .int .i64 y.sh, .int .i64 y.mv][j]?)) (by kernel_rfl) (by kernel_rfl) ⟨c1, c2⟩ ?_
  iterate 16 (refine M_pure (by rfl) (by rfl) ?_; apply Exists.intro; apply And.intro; (case left => (intro w hSw; (try dsimp only at hSw); go_simp; try with_reducible rfl)); (try simp only [Act.put, List.setIfInBounds_toArray, List.set_cons_zero, List.set_cons_succ]))
  (refine M_call (by rfl) (by rfl) ?_; apply Exists.intro; apply Exists.intro; apply And.intro; (case left => (go_simp; exact ⟨rfl, rfl⟩)))
  refine (compareI_any x.fl y.fl _).mono ?_
  rintro e W ⟨rfl, rfl⟩
  refine ⟨_, rfl, ⟨c1, c2⟩, ?_⟩
  (try simp only [Act.put, List.setIfInBounds_toArray, List.set_cons_zero, List.set_cons_succ])
  (refine M_call (by rfl) (by rfl) ?_; apply Exists.intro; apply Exists.intro; apply And.intro; (case left => (go_simp; exact ⟨rfl, rfl⟩)))
  refine (compareI_any x.sp y.sp _).mono ?_
  rintro e W ⟨rfl, rfl⟩
  refine ⟨_, rfl, ⟨c1, c2⟩, ?_⟩
  (try simp only [Act.put, List.setIfInBounds_toArray, List.set_cons_zero, List.set_cons_succ])
  (refine M_call (by rfl) (by rfl) ?_; apply Exists.intro; apply Exists.intro; apply And.intro; (case left => (go_simp; exact ⟨rfl, rfl⟩)))
  refine (compareI_any x.sh y.sh _).mono ?_
  rintro e W ⟨rfl, rfl⟩
  refine ⟨_, rfl, ⟨c1, c2⟩, ?_⟩
  (try simp only [Act.put, List.setIfInBounds_toArray, List.set_cons_zero, List.set_cons_succ])
  (refine M_call (by rfl) (by rfl) ?_; apply Exists.intro; apply Exists.intro; apply And.intro; (case left => (go_simp; exact ⟨rfl, rfl⟩)))
  refine (compareI_any x.mv y.mv _).mono ?_
  rintro e W ⟨rfl, rfl⟩
  refine ⟨_, rfl, ⟨c1, c2⟩, ?_⟩
  (try simp only [Act.put, List.setIfInBounds_toArray, List.set_cons_zero, List.set_cons_succ])
  refine M_do (by rfl) (by rfl) ?_
  refine ⟨.slice (some ⟨w2.heap.size, 0, none⟩) 4 4, w2.drew.alloc (.cells #[.int .i64 (cmpI x.fl y.fl), .int .i64 (cmpI x.sp y.sp), .int .i64 (cmpI x.sh y.sh), .int .i64 (cmpI x.mv y.mv)] 3), (by go_simp), ⟨(Bk.alloc (t := 61) HB1.out.drew _).cell, (Bk.alloc (t := 61) HB2.out.drew _).cell⟩, ?_⟩
  (try simp only [Act.put, List.setIfInBounds_toArray, List.set_cons_zero, List.set_cons_succ])
  (refine M_call (by rfl) (by rfl) ?_; apply Exists.intro; apply Exists.intro; apply And.intro; (case left => (go_simp; exact ⟨rfl, rfl⟩)))
  refine (or4_any _ _ _ _ w2.heap.size _ (Bk.new w2.drew _ _)).mono ?_
  rintro e W ⟨rfl, rfl⟩
  refine ⟨_, rfl, ⟨(Bk.alloc (t := 61) HB1.out.drew _).cell, (Bk.alloc (t := 61) HB2.out.drew _).cell⟩, ?_⟩
  (try simp only [Act.put, List.setIfInBounds_toArray, List.set_cons_zero, List.set_cons_succ])
  iterate 1 (refine M_pure (by rfl) (by rfl) ?_; apply Exists.intro; apply And.intro; (case left => (intro w hSw; (try dsimp only at hSw); go_simp; try with_reducible rfl)); (try simp only [Act.put, List.setIfInBounds_toArray, List.set_cons_zero, List.set_cons_succ]))
  refine M_nil ?_
  try dsimp only
  go_wp2
  go_ret
  refine ⟨rfl, ?_⟩
  rw [← HE1.out]
  have hb := HBW.out
  rw [← HE1.out] at hb
  exact hb.drew.alloc (by rw [HE1.out]; exact hz2) _

theorem less_any (x y : Hm) (w : World) : Calls Try.prog 37 #[.agg #[.int .i64 x.fl, .int .i64 x.sp, .int .i64 x.sh, .int .i64 x.mv], .agg #[.int .i64 y.fl, .int .i64 y.sp, .int .i64 y.sh, .int .i64 y.mv]] w fun e w' => e = .returned (.bool (lessB x y)) ∧ Below w.heap.size w w' := by
  go_enter Try.func37, Try.ntmps37
  go_wp2_with fail
  refine (compareH_any x y _).mono ?_
  rintro e w1 ⟨rfl, hb1⟩
  go_wp2
  go_ret
  exact ⟨rfl, (((Below.refl _ _).alloc (Nat.le_refl _) _).alloc (by simp) _).trans (hb1.mono (by simp; omega))⟩

theorem end_any (b : Bool) (w : World) : Calls Try.prog 54 #[.bool b] w fun e w' => e = .returned (.int .i64 (if b then -9223372036854775808 else 9223372036854775807)) ∧ w = w' := by
  cases b
  all_goals
    go_enter Try.func54, Try.ntmps54
    go_wp2
    go_ret
    exact ⟨rfl, rfl⟩

theorem satI_in {n : Int} (h1 : -9223372036854775808 ≤ n) (h2 : n ≤ 9223372036854775807) : satI n = n := by
  unfold satI; rw [if_neg (by omega), if_neg (by omega)]
theorem satI_lo {n : Int} (h1 : n < -9223372036854775808) : satI n = -9223372036854775808 := by
  unfold satI; rw [if_pos h1]
theorem satI_hi {n : Int} (h1 : 9223372036854775807 < n) : satI n = 9223372036854775807 := by
  unfold satI; rw [if_neg (by omega), if_pos h1]
theorem satI_bd (n : Int) : -9223372036854775808 ≤ satI n ∧ satI n ≤ 9223372036854775807 := by
  unfold satI; split
  · omega
  · split <;> omega

set_option maxHeartbeats 1000000 in
theorem addE_any (a b : Int) (w : World) (ha : -9223372036854775808 ≤ a ∧ a ≤ 9223372036854775807) (hb : -9223372036854775808 ≤ b ∧ b ≤ 9223372036854775807) :
    Calls Try.prog 44 #[.int .i64 a, .int .i64 b] w fun e w' => e = .returned (.int .i64 (satI (a + b))) ∧ w = w' := by
  have h6 : (a < 0 ∧ b < 0 ∧ -9223372036854775808 ≤ a + b) ∨ (a < 0 ∧ b < 0 ∧ a + b < -9223372036854775808) ∨ (0 ≤ a ∧ 0 ≤ b ∧ a + b ≤ 9223372036854775807) ∨ (0 ≤ a ∧ 0 ≤ b ∧ 9223372036854775807 < a + b) ∨ (a < 0 ∧ 0 ≤ b) ∨ (0 ≤ a ∧ b < 0) := by omega
  have hda : a < 0 → decide (a < 0) = true := fun h => by simpa using h
  have hda' : 0 ≤ a → decide (a < 0) = false := fun h => by simpa using h
  have hdb : b < 0 → decide (b < 0) = true := fun h => by simpa using h
  have hdb' : 0 ≤ b → decide (b < 0) = false := fun h => by simpa using h
  rcases h6 with ⟨h1, h2, h3⟩ | ⟨h1, h2, h3⟩ | ⟨h1, h2, h3⟩ | ⟨h1, h2, h3⟩ | ⟨h1, h2⟩ | ⟨h1, h2⟩
  · have hs := satI_in h3 (by omega)
    have HS := Lib.hid hs
    have h4 : a + b < 0 := by omega
    have h5 : a + b ≤ 9223372036854775807 := by omega
    first | have hD1 := hda h1 | have hD1 := hda' h1
    first | have hD2 := hdb h2 | have hD2 := hdb' h2
    clear hda hda' hdb hdb'
    clear hs
    go_enter Try.func44, Try.ntmps44
    go_wp2
    go_ret
    exact ⟨ret_int HS.out.symm, rfl⟩
  · have hs := satI_lo h3
    have HS := Lib.hid hs
    have h4 : 0 ≤ wrap64 (a + b) := by unfold wrap64; omega
    have h5 : decide (wrap64 (a + b) < 0) = false := by simpa using h4
    first | have hD1 := hda h1 | have hD1 := hda' h1
    first | have hD2 := hdb h2 | have hD2 := hdb' h2
    clear hda hda' hdb hdb'
    clear hs h3 h4
    go_enter Try.func44, Try.ntmps44
    go_wp2_with fail
    refine (end_any _ _).mono ?_
    rintro e w1 ⟨rfl, rfl⟩
    go_wp2
    go_ret
    exact ⟨ret_int (by rw [HS.out]), rfl⟩
  · have hs := satI_in (by omega) h3
    have HS := Lib.hid hs
    have h4 : 0 ≤ a + b := by omega
    have h5 : -9223372036854775808 ≤ a + b := by omega
    first | have hD1 := hda h1 | have hD1 := hda' h1
    first | have hD2 := hdb h2 | have hD2 := hdb' h2
    clear hda hda' hdb hdb'
    clear hs
    go_enter Try.func44, Try.ntmps44
    go_wp2
    go_ret
    exact ⟨ret_int HS.out.symm, rfl⟩
  · have hs := satI_hi h3
    have HS := Lib.hid hs
    have h4 : wrap64 (a + b) < 0 := by unfold wrap64; omega
    have h5 : decide (wrap64 (a + b) < 0) = true := by simpa using h4
    have h6 : ¬ a < 0 := by omega
    first | have hD1 := hda h1 | have hD1 := hda' h1
    first | have hD2 := hdb h2 | have hD2 := hdb' h2
    clear hda hda' hdb hdb'
    clear hs h3 h4
    go_enter Try.func44, Try.ntmps44
    go_wp2_with fail
    refine (end_any _ _).mono ?_
    rintro e w1 ⟨rfl, rfl⟩
    go_wp2
    go_ret
    exact ⟨ret_int (by rw [HS.out]), rfl⟩
  all_goals
    have hs := satI_in (n := a + b) (by omega) (by omega)
    have HS := Lib.hid hs
    have h4 : a + b ≤ 9223372036854775807 := by omega
    have h5 : -9223372036854775808 ≤ a + b := by omega
    first | have hD1 := hda h1 | have hD1 := hda' h1
    first | have hD2 := hdb h2 | have hD2 := hdb' h2
    clear hda hda' hdb hdb'
    clear hs
    go_enter Try.func44, Try.ntmps44
    go_wp2
    go_ret
    exact ⟨ret_int HS.out.symm, rfl⟩

end Go.Proofs.Ytlhaoiplbebgnaa
