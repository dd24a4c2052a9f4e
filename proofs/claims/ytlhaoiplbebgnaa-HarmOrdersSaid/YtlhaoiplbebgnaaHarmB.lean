/- The walks of harm: Add, and of slices.MaxFunc with compare, Worst. -/
import Derived.Test.YtlhaoiplbebgnaaHarmA
set_option linter.unusedSimpArgs false
set_option linter.unusedVariables false
namespace Go.Proofs.Ytlhaoiplbebgnaa
open Go.RowKit

def R64 (n : Int) : Prop := -9223372036854775808 ≤ n ∧ n ≤ 9223372036854775807
structure HmOk (x : Hm) : Prop where
  fl : R64 x.fl
  sp : R64 x.sp
  sh : R64 x.sh
  mv : R64 x.mv
theorem addH_ok (x y : Hm) : HmOk (addH x y) := ⟨satI_bd _, satI_bd _, satI_bd _, satI_bd _⟩

set_option maxRecDepth 100000 in
set_option maxHeartbeats 1000000 in
theorem addH_any (x y : Hm) (w : World) (hx : HmOk x) (hy : HmOk y) : Calls Try.prog 38 #[.agg #[.int .i64 x.fl, .int .i64 x.sp, .int .i64 x.sh, .int .i64 x.mv], .agg #[.int .i64 y.fl, .int .i64 y.sp, .int .i64 y.sh, .int .i64 y.mv]] w fun e w' => e = .returned (.agg #[.int .i64 (addH x y).fl, .int .i64 (addH x y).sp, .int .i64 (addH x y).sh, .int .i64 (addH x y).mv]) ∧ Below w.heap.size w w' := by
  go_enter Try.func38, Try.ntmps38
  go_wp2_with fail
  have hb1 := ((Bk.new w 61 #[.int .i64 x.fl, .int .i64 x.sp, .int .i64 x.sh, .int .i64 x.mv]).alloc (.cells #[.int .i64 y.fl, .int .i64 y.sp, .int .i64 y.sh, .int .i64 y.mv] 61)).alloc (.cells #[.int .i64 0, .int .i64 0, .int .i64 0, .int .i64 0] 61)
  have hb2 := (Bk.newAt (w.alloc (.cells #[.int .i64 x.fl, .int .i64 x.sp, .int .i64 x.sh, .int .i64 x.mv] 61)) (k := w.heap.size + 1) (by simp) 61 #[.int .i64 y.fl, .int .i64 y.sp, .int .i64 y.sh, .int .i64 y.mv]).alloc (.cells #[.int .i64 0, .int .i64 0, .int .i64 0, .int .i64 0] 61)
  have hb3 := Bk.newAt ((w.alloc (.cells #[.int .i64 x.fl, .int .i64 x.sp, .int .i64 x.sh, .int .i64 x.mv] 61)).alloc (.cells #[.int .i64 y.fl, .int .i64 y.sp, .int .i64 y.sh, .int .i64 y.mv] 61)) (k := w.heap.size + 1 + 1) (by simp) 61 #[.int .i64 0, .int .i64 0, .int .i64 0, .int .i64 0]
  have hbw : Below w.heap.size w (((w.alloc (.cells #[.int .i64 x.fl, .int .i64 x.sp, .int .i64 x.sh, .int .i64 x.mv] 61)).alloc (.cells #[.int .i64 y.fl, .int .i64 y.sp, .int .i64 y.sh, .int .i64 y.mv] 61)).alloc (.cells #[.int .i64 0, .int .i64 0, .int .i64 0, .int .i64 0] 61)) := (((Below.refl _ _).alloc (Nat.le_refl _) _).alloc (by simp) _).alloc (by simp; omega) _
  generalize ((w.alloc (.cells #[.int .i64 x.fl, .int .i64 x.sp, .int .i64 x.sh, .int .i64 x.mv] 61)).alloc (.cells #[.int .i64 y.fl, .int .i64 y.sp, .int .i64 y.sh, .int .i64 y.mv] 61)).alloc (.cells #[.int .i64 0, .int .i64 0, .int .i64 0, .int .i64 0] 61) = w2 at *
  obtain ⟨B1, hB1⟩ : ∃ B1, B1 = w.heap.size := ⟨_, rfl⟩
  obtain ⟨B2, hB2⟩ : ∃ B2, B2 = w.heap.size + 1 := ⟨_, rfl⟩
  obtain ⟨B3, hB3⟩ : ∃ B3, B3 = w.heap.size + 1 + 1 := ⟨_, rfl⟩
  rw [← hB1] at hb1
  rw [← hB2] at hb2
  rw [← hB3] at hb3
  rw [← hB3, ← hB2, ← hB1]
  have h13 : B1 ≠ B3 := by omega
  have h23 : B2 ≠ B3 := by omega
  have hlo : w.heap.size ≤ B3 := by omega
  have HB1 := Lib.hid hb1
  have HB2 := Lib.hid hb2
  have HB3 := Lib.hid hb3
  have HBW := Lib.hid hbw
  have HH := Lib.hid (And.intro h13 (And.intro h23 hlo))
  have c1 : ∀ j, w2.drew.cell? ⟨B1, j, none⟩ = #[.int .i64 x.fl, .int .i64 x.sp, .int .i64 x.sh, .int .i64 x.mv][j]? := hb1.cell
  have c2 : ∀ j, w2.drew.cell? ⟨B2, j, none⟩ = #[.int .i64 y.fl, .int .i64 y.sp, .int .i64 y.sh, .int .i64 y.mv][j]? := hb2.cell
  have c3 : ∀ j, w2.drew.cell? ⟨B3, j, none⟩ = #[.int .i64 0, .int .i64 0, .int .i64 0, .int .i64 0][j]? := hb3.cell
  have f3 : ∀ j, w2.drew.frozen? ⟨B3, j, none⟩ = false := hb3.frozen
  have c3' : ∀ j, w2.cell? ⟨B3, j, none⟩ = #[.int .i64 0, .int .i64 0, .int .i64 0, .int .i64 0][j]? := hb3.cell
  have f3' : ∀ j, w2.frozen? ⟨B3, j, none⟩ = false := hb3.frozen
  have hl3 : B3 < w2.heap.size := hb3.lt
  clear hb1 hb2 hbw hB1 hB2 hB3 hb3
  refine wp_region_M [0, 1, 2, 3, 5, 6, 7, 8, 10, 11, 12, 13, 15, 16, 17, 18, 4, 9, 14, 19, 20, 21] [4, 9, 14, 19, 21] (fun w' => (∀ j, w'.cell? ⟨B1, j, none⟩ = #[.int .i64 x.fl, .int .i64 x.sp, .int .i64 x.sh, .int .i64 x.mv][j]?) ∧ (∀ j, w'.cell? ⟨B2, j, none⟩ = #[.int .i64 y.fl, .int .i64 y.sp, .int .i64 y.sh, .int .i64 y.mv][j]?)) (by kernel_rfl) (by kernel_rfl) ⟨c1, c2⟩ ?_
  iterate 16 (refine M_pure (by rfl) (by rfl) ?_; apply Exists.intro; apply And.intro; (case left => (intro w hSw; (try dsimp only at hSw); go_simp; try with_reducible rfl)); (try simp only [Act.put, List.setIfInBounds_toArray, List.set_cons_zero, List.set_cons_succ]))
  (refine M_call (by rfl) (by rfl) ?_; apply Exists.intro; apply Exists.intro; apply And.intro; (case left => (go_simp; exact ⟨rfl, rfl⟩)))
  refine (addE_any x.fl y.fl _ hx.fl hy.fl).mono ?_
  rintro e W ⟨rfl, rfl⟩
  refine ⟨_, rfl, ⟨c1, c2⟩, ?_⟩
  (try simp only [Act.put, List.setIfInBounds_toArray, List.set_cons_zero, List.set_cons_succ])
  (refine M_call (by rfl) (by rfl) ?_; apply Exists.intro; apply Exists.intro; apply And.intro; (case left => (go_simp; exact ⟨rfl, rfl⟩)))
  refine (addE_any x.sp y.sp _ hx.sp hy.sp).mono ?_
  rintro e W ⟨rfl, rfl⟩
  refine ⟨_, rfl, ⟨c1, c2⟩, ?_⟩
  (try simp only [Act.put, List.setIfInBounds_toArray, List.set_cons_zero, List.set_cons_succ])
  (refine M_call (by rfl) (by rfl) ?_; apply Exists.intro; apply Exists.intro; apply And.intro; (case left => (go_simp; exact ⟨rfl, rfl⟩)))
  refine (addE_any x.sh y.sh _ hx.sh hy.sh).mono ?_
  rintro e W ⟨rfl, rfl⟩
  refine ⟨_, rfl, ⟨c1, c2⟩, ?_⟩
  (try simp only [Act.put, List.setIfInBounds_toArray, List.set_cons_zero, List.set_cons_succ])
  (refine M_call (by rfl) (by rfl) ?_; apply Exists.intro; apply Exists.intro; apply And.intro; (case left => (go_simp; exact ⟨rfl, rfl⟩)))
  refine (addE_any x.mv y.mv _ hx.mv hy.mv).mono ?_
  rintro e W ⟨rfl, rfl⟩
  refine ⟨_, rfl, ⟨c1, c2⟩, ?_⟩
  (try simp only [Act.put, List.setIfInBounds_toArray, List.set_cons_zero, List.set_cons_succ])
  iterate 1 (refine M_pure (by rfl) (by rfl) ?_; apply Exists.intro; apply And.intro; (case left => (intro w hSw; (try dsimp only at hSw); go_simp; try with_reducible rfl)); (try simp only [Act.put, List.setIfInBounds_toArray, List.set_cons_zero, List.set_cons_succ]))
  refine M_store (by rfl) (by rfl) ?_
  refine ⟨_, (by go_simp; with_reducible rfl), ⟨?_, ?_⟩, ?_⟩
  · exact ((((HB1.out.drew.far h13 _).far h13 _).far h13 _).far h13 _).cell
  · exact ((((HB2.out.drew.far h23 _).far h23 _).far h23 _).far h23 _).cell
  (try simp only [Act.put, List.setIfInBounds_toArray, List.set_cons_zero, List.set_cons_succ])
  refine M_nil ?_
  try dsimp only
  go_wp2
  refine bodyPost_ret (v := .agg #[.int .i64 (addH x y).fl, .int .i64 (addH x y).sp, .int .i64 (addH x y).sh, .int .i64 (addH x y).mv]) ?_ rfl ⟨rfl, ?_⟩
  · simp [results, Try.results38, go_sem, *, addH]
  · exact ((((HBW.out.drew).setCell HH.out.2.2 _).setCell HH.out.2.2 _).setCell HH.out.2.2 _).setCell HH.out.2.2 _

def maxH : Hm → List Hm → Hm
  | m, [] => m
  | m, y :: r => maxH (if 0 < cmpH y m then y else m) r
def worstL (l : List Hm) : Hm := match l with
  | [] => ⟨0, 0, 0, 0⟩
  | x :: r => maxH x r
theorem maxH_snoc (m : Hm) (l : List Hm) (y : Hm) : maxH m (l ++ [y]) = if 0 < cmpH y (maxH m l) then y else maxH m l := by
  induction l generalizing m with
  | nil => rfl
  | cons a r ih => exact ih _

end Go.Proofs.Ytlhaoiplbebgnaa
