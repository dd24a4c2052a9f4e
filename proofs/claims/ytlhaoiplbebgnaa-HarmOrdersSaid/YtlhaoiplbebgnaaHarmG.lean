/- The example that each law of layer 33 checks first. -/
import Derived.Test.YtlhaoiplbebgnaaHarmF
set_option linter.unusedSimpArgs false
set_option linter.unusedVariables false
namespace Go.Proofs.Ytlhaoiplbebgnaa
open Go.RowKit

theorem Sl.of_bk {α : Type} {c : α → List Value} {sz : Nat} (hc : ∀ x, (c x).length = sz) {w : World} {g : Nat} {t : TypeId} {l : List α} (h : Bk w g t (l.flatMap c).toArray) : Sl (Pl c) sz w w.heap.size (some ⟨g, 0, none⟩) l.length l :=
  ⟨rfl, fun k x hx => ⟨g, 0, c x, rfl, h.lt, rfl, fun j u hu => by
    rw [h.cell, Nat.zero_add]
    simpa using flatMap_get c sz hc l k x hx j u hu⟩⟩

theorem less_ab : lessB ⟨0, 5, 9, 9⟩ ⟨1, 0, 0, 0⟩ = true := by decide +kernel
theorem less_ba : lessB ⟨1, 0, 0, 0⟩ ⟨0, 5, 9, 9⟩ = false := by decide +kernel
theorem worst_aba : worstL [⟨0, 5, 9, 9⟩, ⟨1, 0, 0, 0⟩, ⟨0, 5, 9, 9⟩] = ⟨1, 0, 0, 0⟩ := by kernel_rfl

set_option maxRecDepth 100000 in
set_option maxHeartbeats 4000000 in
theorem small33_any (w : World) : Calls Try.prog 35 #[] w fun e w' => e = .returned (.bool true) ∧ Below w.heap.size w w' := by
  go_enter Try.func35, Try.ntmps35
  go_wp2_with fail
  obtain ⟨w9, hw9⟩ : ∃ w9, w9 = (((((((((w.alloc (.cells #[.int .i64 0, .int .i64 5, .int .i64 9, .int .i64 9] 61)).alloc (.cells #[.int .i64 1, .int .i64 0, .int .i64 0, .int .i64 0] 61)).alloc (.cells #[.int .i64 0, .int .i64 0] 80)).alloc (.cells #[.string { data := #[] }, .int .i64 1, .int .i64 0, .int .i64 0, .slice (some ⟨w.heap.size + 1 + 1, 0, none⟩) 1 1, .slice none 0 0, .int .i64 0, .int .i64 0, .int .i64 0, .int .i64 0, .int .i64 7, .slice none 0 0] 84)).alloc (.cells #[.string { data := #[] }, .int .i64 0, .int .i64 3, .int .i64 0, .int .i64 0, .int .i64 0, .int .i64 0] 23)).alloc (.cells #[.string { data := #[] }, .slice none 0 0, .int .i64 0, .slice (some ⟨w.heap.size + 1 + 1 + 1, 0, none⟩) 1 1, .slice none 0 0, .slice (some ⟨w.heap.size + 1 + 1 + 1 + 1, 0, none⟩) 1 1, .slice none 0 0, .slice none 0 0, .slice none 0 0, .slice none 0 0, .int .i64 0] 93)).alloc (.cells #[.int .i64 5, .int .i64 9] 101)).alloc (.cells #[.int .i64 0, .int .i64 4] 101)).alloc (.cells #[.int .i64 0, .int .i64 1] 101)) := ⟨_, rfl⟩
  have k0 : Bk w9 (w.heap.size) 61 #[.int .i64 0, .int .i64 5, .int .i64 9, .int .i64 9] := by rw [hw9]; exact (((((((((Bk.new w _ _).alloc _).alloc _).alloc _).alloc _).alloc _).alloc _).alloc _).alloc _)
  have k1 : Bk w9 (w.heap.size + 1) 61 #[.int .i64 1, .int .i64 0, .int .i64 0, .int .i64 0] := by rw [hw9]; exact ((((((((Bk.newAt _ (by simp) _ _).alloc _).alloc _).alloc _).alloc _).alloc _).alloc _).alloc _)
  have k3 : Bk w9 (w.heap.size + 1 + 1 + 1) 84 #[.string { data := #[] }, .int .i64 1, .int .i64 0, .int .i64 0, .slice (some ⟨w.heap.size + 1 + 1, 0, none⟩) 1 1, .slice none 0 0, .int .i64 0, .int .i64 0, .int .i64 0, .int .i64 0, .int .i64 7, .slice none 0 0] := by rw [hw9]; exact ((((((Bk.newAt _ (by simp) _ _).alloc _).alloc _).alloc _).alloc _).alloc _)
  have k4 : Bk w9 (w.heap.size + 1 + 1 + 1 + 1) 23 #[.string { data := #[] }, .int .i64 0, .int .i64 3, .int .i64 0, .int .i64 0, .int .i64 0, .int .i64 0] := by rw [hw9]; exact (((((Bk.newAt _ (by simp) _ _).alloc _).alloc _).alloc _).alloc _)
  have k6 : Bk w9 (w.heap.size + 1 + 1 + 1 + 1 + 1 + 1) 101 #[.int .i64 5, .int .i64 9] := by rw [hw9]; exact (((Bk.newAt _ (by simp) _ _).alloc _).alloc _)
  have k7 : Bk w9 (w.heap.size + 1 + 1 + 1 + 1 + 1 + 1 + 1) 101 #[.int .i64 0, .int .i64 4] := by rw [hw9]; exact ((Bk.newAt _ (by simp) _ _).alloc _)
  have k8 : Bk w9 (w.heap.size + 1 + 1 + 1 + 1 + 1 + 1 + 1 + 1) 101 #[.int .i64 0, .int .i64 1] := by rw [hw9]; exact (Bk.newAt _ (by simp) _ _)
  have hbw : Below w.heap.size w w9 := by rw [hw9]; exact ((((((((((Below.refl _ _).alloc (Nat.le_refl _) _).alloc (by simp) _).alloc (by simp; omega) _).alloc (by simp; omega) _).alloc (by simp; omega) _).alloc (by simp; omega) _).alloc (by simp; omega) _).alloc (by simp; omega) _).alloc (by simp; omega) _)
  rw [← hw9]
  clear hw9
  have hp : Sl (Pl plcC) 12 w9 w9.heap.size (some ⟨w.heap.size + 1 + 1 + 1, 0, none⟩) 1 [⟨{ data := #[] }, 1, 0, 0, ⟨some ⟨w.heap.size + 1 + 1, 0, none⟩, 1, 1⟩, ⟨none, 0, 0⟩, 0, 0, 0, 0, 7, ⟨none, 0, 0⟩⟩] := Sl.of_bk (c := plcC) (sz := 12) (l := [⟨{ data := #[] }, 1, 0, 0, ⟨some ⟨w.heap.size + 1 + 1, 0, none⟩, 1, 1⟩, ⟨none, 0, 0⟩, 0, 0, 0, 0, 7, ⟨none, 0, 0⟩⟩]) (fun _ => rfl) k3
  have ht : Sl (Pl townC) 7 w9 w9.heap.size (some ⟨w.heap.size + 1 + 1 + 1 + 1, 0, none⟩) 1 [⟨{ data := #[] }, 0, 3, 0, 0, 0, 0⟩] := Sl.of_bk (c := townC) (sz := 7) (l := [⟨{ data := #[] }, 0, 3, 0, 0, 0, 0⟩]) (fun _ => rfl) k4
  have hv : Sl (Pl spanC) 2 w9 w9.heap.size (some ⟨w.heap.size + 1 + 1 + 1 + 1 + 1 + 1, 0, none⟩) 1 [(5, 9)] := Sl.of_bk (c := spanC) (sz := 2) (l := [(5, 9)]) (fun _ => rfl) k6
  have hk : Sl (Pl spanC) 2 w9 w9.heap.size (some ⟨w.heap.size + 1 + 1 + 1 + 1 + 1 + 1 + 1, 0, none⟩) 1 [(0, 4)] := Sl.of_bk (c := spanC) (sz := 2) (l := [(0, 4)]) (fun _ => rfl) k7
  have hs : Sl (Pl spanC) 2 w9 w9.heap.size (some ⟨w.heap.size + 1 + 1 + 1 + 1 + 1 + 1 + 1 + 1, 0, none⟩) 1 [(0, 1)] := Sl.of_bk (c := spanC) (sz := 2) (l := [(0, 1)]) (fun _ => rfl) k8
  refine (hour0_any _ _ _ _ _ _ _ _ _ _ _ _ _ _ _ _ _ _ _ _ _ _ _ _ _ _ _ _ _ _ _ _ _ _ [⟨{ data := #[] }, 1, 0, 0, ⟨some ⟨w.heap.size + 1 + 1, 0, none⟩, 1, 1⟩, ⟨none, 0, 0⟩, 0, 0, 0, 0, 7, ⟨none, 0, 0⟩⟩] [⟨{ data := #[] }, 0, 3, 0, 0, 0, 0⟩] [(5, 9)] [(0, 4)] [(0, 1)] w9 (by decide) (by decide) (by decide) (by decide) (by decide) (by decide) hp ht hv hk hs (by simp [R64]) (by simp [R64])).mono ?_
  rintro e w10 ⟨rfl, hb10⟩
  rw [show floodN [(⟨{ data := #[] }, 0, 3, 0, 0, 0, 0⟩ : Town)] ((1 : Nat) : Int) (hiL [(0, 4)]) = 1 from by kernel_rfl]
  rw [show spillK [(⟨{ data := #[] }, 1, 0, 0, ⟨some ⟨w.heap.size + 1 + 1, 0, none⟩, 1, 1⟩, ⟨none, 0, 0⟩, 0, 0, 0, 0, 7, ⟨none, 0, 0⟩⟩ : Plc)] ((1 : Nat) : Int) (hiL [(0, 1)]) [(⟨{ data := #[] }, 1, 0, 0, ⟨some ⟨w.heap.size + 1 + 1, 0, none⟩, 1, 1⟩, ⟨none, 0, 0⟩, 0, 0, 0, 0, 7, ⟨none, 0, 0⟩⟩ : Plc)].length = 1 from by kernel_rfl]
  rw [show shortK [(⟨{ data := #[] }, 1, 0, 0, ⟨some ⟨w.heap.size + 1 + 1, 0, none⟩, 1, 1⟩, ⟨none, 0, 0⟩, 0, 0, 0, 0, 7, ⟨none, 0, 0⟩⟩ : Plc)] ((1 : Nat) : Int) (loL [(5, 9)]) [(⟨{ data := #[] }, 1, 0, 0, ⟨some ⟨w.heap.size + 1 + 1, 0, none⟩, 1, 1⟩, ⟨none, 0, 0⟩, 0, 0, 0, 0, 7, ⟨none, 0, 0⟩⟩ : Plc)].length = 2 from by kernel_rfl]
  have j0 := k0.below hb10 k0.lt
  have j1 := k1.below hb10 k1.lt
  have hb := hbw.trans (hb10.mono hbw.size)
  have hz := hb.size
  obtain ⟨X1, hX1⟩ : ∃ X, X = w.heap.size := ⟨_, rfl⟩
  obtain ⟨X2, hX2⟩ : ∃ X, X = w.heap.size + 1 := ⟨_, rfl⟩
  rw [← hX1] at j0
  rw [← hX2] at j1
  rw [← hX2, ← hX1]
  have HB := Lib.hid hb
  have HJ0 := Lib.hid j0
  have HJ1 := Lib.hid j1
  clear k0 k1 k3 k4 k6 k7 k8 hbw hp ht hv hk hs hb10 hb hX1 hX2 j0 j1
  go_wp2_with fail
  have hk0 := HJ0.out.alloc (.cells #[.int .i64 1, .int .i64 1, .int .i64 2, .int .i64 0] 61)
  have hk1 := HJ1.out.alloc (.cells #[.int .i64 1, .int .i64 1, .int .i64 2, .int .i64 0] 61)
  have hk5 := Bk.new w10 61 #[.int .i64 1, .int .i64 1, .int .i64 2, .int .i64 0]
  have hbB := HB.out.alloc hz (.cells #[.int .i64 1, .int .i64 1, .int .i64 2, .int .i64 0] 61)
  obtain ⟨X5, hX5⟩ : ∃ X, X = w10.heap.size := ⟨_, rfl⟩
  rw [← hX5] at hk5
  rw [← hX5]
  generalize w10.alloc (.cells #[.int .i64 1, .int .i64 1, .int .i64 2, .int .i64 0] 61) = wb at *
  have hkeep : ∀ W, Below wb.heap.size wb W → (∀ j, W.cell? ⟨X1, j, none⟩ = #[.int .i64 0, .int .i64 5, .int .i64 9, .int .i64 9][j]?) ∧ (∀ j, W.cell? ⟨X2, j, none⟩ = #[.int .i64 1, .int .i64 0, .int .i64 0, .int .i64 0][j]?) ∧ (∀ j, W.cell? ⟨X5, j, none⟩ = #[.int .i64 1, .int .i64 1, .int .i64 2, .int .i64 0][j]?) := fun W h => ⟨(hk0.below h hk0.lt).cell, (hk1.below h hk1.lt).cell, (hk5.below h hk5.lt).cell⟩
  have HK := Lib.hid hkeep
  have HBB := Lib.hid hbB
  have HD := Lib.hid (show Below wb.heap.size wb wb.drew from (Below.refl _ _).drew)
  clear hk0 hk1 hk5 hbB hX5 hkeep
  refine wp_region_M [0, 1, 2, 3, 4, 5, 6, 7, 8, 9, 10, 11, 12, 15, 13, 14, 16, 17, 18, 20, 19, 21, 22, 23, 24, 25, 26, 27, 28] [2, 6, 13, 14, 19] (fun w' => (∀ j, w'.cell? ⟨X1, j, none⟩ = #[.int .i64 0, .int .i64 5, .int .i64 9, .int .i64 9][j]?) ∧ (∀ j, w'.cell? ⟨X2, j, none⟩ = #[.int .i64 1, .int .i64 0, .int .i64 0, .int .i64 0][j]?) ∧ (∀ j, w'.cell? ⟨X5, j, none⟩ = #[.int .i64 1, .int .i64 1, .int .i64 2, .int .i64 0][j]?)) (by kernel_rfl) (by kernel_rfl) (HK.out _ HD.out) ?_
  iterate 2 (refine M_pure (by rfl) (by rfl) ?_; apply Exists.intro; apply And.intro; (case left => (intro w hSw; (try dsimp only at hSw); go_simp; try with_reducible rfl)); (try simp only [Act.put, List.setIfInBounds_toArray, List.set_cons_zero, List.set_cons_succ]))
  (refine M_call (by rfl) (by rfl) ?_; apply Exists.intro; apply Exists.intro; apply And.intro; (case left => (go_simp; first | exact ⟨rfl, rfl⟩ | rfl)))
  refine (less_any ⟨0, 5, 9, 9⟩ ⟨1, 0, 0, 0⟩ _).mono ?_
  rintro e W1 ⟨rfl, hb1⟩
  rw [less_ab]
  have HB1 := Lib.hid (HD.out.trans (hb1.mono HD.out.size))
  clear hb1
  refine ⟨_, rfl, HK.out W1 HB1.out, ?_⟩
  (try simp only [Act.put, List.setIfInBounds_toArray, List.set_cons_zero, List.set_cons_succ])
  iterate 3 (refine M_pure (by rfl) (by rfl) ?_; apply Exists.intro; apply And.intro; (case left => (intro w hSw; (try dsimp only at hSw); go_simp; try with_reducible rfl)); (try simp only [Act.put, List.setIfInBounds_toArray, List.set_cons_zero, List.set_cons_succ]))
  (refine M_call (by rfl) (by rfl) ?_; apply Exists.intro; apply Exists.intro; apply And.intro; (case left => (go_simp; first | exact ⟨rfl, rfl⟩ | rfl)))
  refine (less_any ⟨1, 0, 0, 0⟩ ⟨0, 5, 9, 9⟩ _).mono ?_
  rintro e W2 ⟨rfl, hb2⟩
  rw [less_ba]
  have HB2 := Lib.hid (HB1.out.trans (hb2.mono HB1.out.size))
  clear hb2
  refine ⟨_, rfl, HK.out W2 HB2.out, ?_⟩
  (try simp only [Act.put, List.setIfInBounds_toArray, List.set_cons_zero, List.set_cons_succ])
  iterate 7 (refine M_pure (by rfl) (by rfl) ?_; apply Exists.intro; apply And.intro; (case left => (intro w hSw; (try dsimp only at hSw); go_simp; try with_reducible rfl)); (try simp only [Act.put, List.setIfInBounds_toArray, List.set_cons_zero, List.set_cons_succ]))
  refine M_do (by rfl) (by rfl) ?_
  have hb3 := HB2.out.alloc HB2.out.size (.cells #[.int .i64 0, .int .i64 5, .int .i64 9, .int .i64 9, .int .i64 1, .int .i64 0, .int .i64 0, .int .i64 0, .int .i64 0, .int .i64 5, .int .i64 9, .int .i64 9] 61)
  have HB3 := Lib.hid hb3
  have hs3 : Sl (Pl harmC) 4 (W2.alloc (.cells #[.int .i64 0, .int .i64 5, .int .i64 9, .int .i64 9, .int .i64 1, .int .i64 0, .int .i64 0, .int .i64 0, .int .i64 0, .int .i64 5, .int .i64 9, .int .i64 9] 61)) (W2.alloc (.cells #[.int .i64 0, .int .i64 5, .int .i64 9, .int .i64 9, .int .i64 1, .int .i64 0, .int .i64 0, .int .i64 0, .int .i64 0, .int .i64 5, .int .i64 9, .int .i64 9] 61)).heap.size (some ⟨W2.heap.size, 0, none⟩) 3 [⟨0, 5, 9, 9⟩, ⟨1, 0, 0, 0⟩, ⟨0, 5, 9, 9⟩] := Sl.of_bk (c := harmC) (sz := 4) (fun _ => rfl) (Bk.new W2 61 (([⟨0, 5, 9, 9⟩, ⟨1, 0, 0, 0⟩, ⟨0, 5, 9, 9⟩] : List Hm).flatMap harmC).toArray)
  have HS3 := Lib.hid hs3
  clear hb3 hs3
  refine ⟨.slice (some ⟨W2.heap.size, 0, none⟩) 3 3, W2.alloc (.cells #[.int .i64 0, .int .i64 5, .int .i64 9, .int .i64 9, .int .i64 1, .int .i64 0, .int .i64 0, .int .i64 0, .int .i64 0, .int .i64 5, .int .i64 9, .int .i64 9] 61), (by go_simp; try with_reducible rfl), HK.out _ HB3.out, ?_⟩
  (try simp only [Act.put, List.setIfInBounds_toArray, List.set_cons_zero, List.set_cons_succ])
  (refine M_call (by rfl) (by rfl) ?_; apply Exists.intro; apply Exists.intro; apply And.intro; (case left => (go_simp; first | exact ⟨rfl, rfl⟩ | rfl)))
  refine (worst_any _ 3 3 _ _ (by decide) HS3.out).mono ?_
  rintro e W4 ⟨rfl, hb4⟩
  have HB4 := Lib.hid (HB3.out.trans (hb4.mono HB3.out.size))
  clear hb4
  rw [worst_aba]
  refine ⟨_, rfl, HK.out W4 HB4.out, ?_⟩
  simp only [harmC]
  (try simp only [Act.put, List.setIfInBounds_toArray, List.set_cons_zero, List.set_cons_succ])
  iterate 4 (refine M_pure (by rfl) (by rfl) ?_; apply Exists.intro; apply And.intro; (case left => (intro w hSw; (try dsimp only at hSw); go_simp; try with_reducible rfl)); (try simp only [Act.put, List.setIfInBounds_toArray, List.set_cons_zero, List.set_cons_succ]))
  (refine M_call (by rfl) (by rfl) ?_; apply Exists.intro; apply Exists.intro; apply And.intro; (case left => (go_simp; first | exact ⟨rfl, rfl⟩ | rfl)))
  refine (worst_any none 0 0 [] _ (by decide) (Sl.nil_ _ _ _ _ _)).mono ?_
  rintro e W5 ⟨rfl, hb5⟩
  have HB5 := Lib.hid (HB4.out.trans (hb5.mono HB4.out.size))
  clear hb5
  rw [show worstL [] = ⟨0, 0, 0, 0⟩ from rfl]
  refine ⟨_, rfl, HK.out W5 HB5.out, ?_⟩
  simp only [harmC]
  (try simp only [Act.put, List.setIfInBounds_toArray, List.set_cons_zero, List.set_cons_succ])
  iterate 8 (refine M_pure (by rfl) (by rfl) ?_; apply Exists.intro; apply And.intro; (case left => (intro w hSw; (try dsimp only at hSw); go_simp; try with_reducible rfl)); (try simp only [Act.put, List.setIfInBounds_toArray, List.set_cons_zero, List.set_cons_succ]))
  refine M_nil ?_
  try dsimp only
  go_wp2
  go_ret
  exact ⟨rfl, HBB.out.trans (HB5.out.mono HBB.out.size)⟩

end Go.Proofs.Ytlhaoiplbebgnaa
