/- The walks of slices.MaxFunc with compare, and of Worst. -/
import Derived.Test.YtlhaoiplbebgnaaHarmB
set_option linter.unusedSimpArgs false
set_option linter.unusedVariables false
namespace Go.Proofs.Ytlhaoiplbebgnaa
open Go.RowKit

theorem take_snocH {α : Type} {l : List α} {k : Nat} {x : α} (h : l[k]? = some x) : l.take (k + 1) = l.take k ++ [x] := by
  rw [List.take_add_one, h]; rfl
theorem worst_take {l : List Hm} {k : Nat} {y : Hm} (h1 : 1 ≤ k) (h : l[k]? = some y) : worstL (l.take (k + 1)) = if 0 < cmpH y (worstL (l.take k)) then y else worstL (l.take k) := by
  rw [take_snocH h]
  match l, h with
  | x :: r, h =>
    obtain ⟨k', rfl⟩ : ∃ k', k = k' + 1 := ⟨k - 1, by omega⟩
    rw [List.take_succ_cons, List.cons_append]
    exact maxH_snoc _ _ _

def MxInv (w wr : World) (M R : Nat) (l : List Hm) (k : Nat) : Prop :=
  Below w.heap.size w wr ∧ Bk wr M 61 (harmC (worstL (l.take k))).toArray ∧ Bk wr R 61 #[.int .i64 0, .int .i64 0, .int .i64 0, .int .i64 0]

set_option maxRecDepth 100000 in
set_option maxHeartbeats 2000000 in
theorem maxFunc_any (A : Option Addr) (n cap : Nat) (l : List Hm) (w : World) (hn : n ≤ maxLen) (h1 : 1 ≤ n) (hs : Sl (Pl harmC) 4 w w.heap.size A n l) :
    Calls Try.prog 42 #[.slice A n cap, .func (.func 43) #[] #[]] w fun e w' =>
      e = .returned (.agg (harmC (worstL l)).toArray) ∧ Below w.heap.size w w' := by
  unfold maxLen at hn
  obtain ⟨b1, o1, x0, rfl, hl1, hx0, hc0⟩ := hs.at_ (k := 0) (by omega)
  have e0 := hc0 w (Below.refl _ _) 0 _ rfl
  have e1 := hc0 w (Below.refl _ _) 1 _ rfl
  have e2 := hc0 w (Below.refl _ _) 2 _ rfl
  have e3 := hc0 w (Below.refl _ _) 3 _ rfl
  simp only [Nat.zero_mul, Nat.add_zero] at e0 e1 e2 e3
  have hw1 : worstL (l.take 1) = x0 := by
    match l, hx0 with
    | x :: r, hx0 => simp at hx0; subst hx0; rfl
  have HW1 := Lib.hid hw1
  have hn1 : (1 : Int) ≤ (n : Int) := by omega
  clear hx0 hc0 hw1
  go_enter Try.func42, Try.ntmps42
  have hI0 : MxInv w ((w.alloc (.cells #[.int .i64 0, .int .i64 0, .int .i64 0, .int .i64 0] 61)).alloc (.cells #[.int .i64 x0.fl, .int .i64 x0.sp, .int .i64 x0.sh, .int .i64 x0.mv] 61)) (w.heap.size + 1) w.heap.size l 1 := by
    refine ⟨((Below.refl _ _).alloc (Nat.le_refl _) _).alloc (by simp) _, ?_, (Bk.new w _ _).alloc _⟩
    rw [HW1.out]
    exact Bk.newAt _ (by simp) _ _
  have HI0 := Lib.hid hI0
  clear hI0
  go_wp2
  go_loopw [6] (fun i wr => ∃ k : Nat, 1 ≤ k ∧ k ≤ n ∧ i = .int .i64 k ∧ MxInv w wr (w.heap.size + 1) w.heap.size l k) (fun i _ => n - (intOf i).toNat)
  case atStart => exact ⟨1, by omega, by omega, rfl, HI0.out⟩
  case round =>
    obtain ⟨k, hk1, hk, rfl, hb, hm, hr⟩ := hrel
    obtain ⟨wo, rfl⟩ : ∃ wo : World, wo = wr := ⟨_, rfl⟩
    obtain ⟨M, hM⟩ : ∃ M, M = w.heap.size + 1 := ⟨_, rfl⟩
    obtain ⟨R, hR⟩ : ∃ R, R = w.heap.size := ⟨_, rfl⟩
    rw [← hM] at hm
    rw [← hR] at hr
    rw [← hM, ← hR]
    have hMR : M ≠ R := by omega
    have hMl := hm.lt
    have hRl := hr.lt
    have hlM : w.heap.size ≤ M := by omega
    have hlR : w.heap.size ≤ R := by omega
    have hlM' : b1 < M := by omega
    have HMM := Lib.hid hM
    have HRR := Lib.hid hR
    have HLM := Lib.hid hlM
    have HLR := Lib.hid hlR
    clear hM hR hlM hlR e0 e1 e2 e3
    by_cases hlt : k < n
    · obtain ⟨b1', o1', y, hA, _, hy, hc⟩ := hs.at_ hlt
      obtain ⟨rfl, rfl⟩ : b1 = b1' ∧ o1 = o1' := by injection hA with h; injection h with h1 h2 _; exact ⟨h1, h2⟩
      have hst := worst_take hk1 hy
      generalize worstL (l.take k) = m at *
      have hK : ∀ W, Below wo.heap.size wo W → ((∀ j, W.cell? ⟨M, j, none⟩ = #[.int .i64 m.fl, .int .i64 m.sp, .int .i64 m.sh, .int .i64 m.mv][j]?) ∧ W.cell? ⟨b1, o1 + k * 4, none⟩ = some (.int .i64 y.fl) ∧ W.cell? ⟨b1, o1 + k * 4 + 1, none⟩ = some (.int .i64 y.sp) ∧ W.cell? ⟨b1, o1 + k * 4 + 2, none⟩ = some (.int .i64 y.sh) ∧ W.cell? ⟨b1, o1 + k * 4 + 3, none⟩ = some (.int .i64 y.mv)) := fun W h => by
        have hB := hb.trans (h.mono hb.size)
        exact ⟨(hm.below h hMl).cell, hc W hB 0 _ rfl, hc W hB 1 _ rfl, hc W hB 2 _ rfl, hc W hB 3 _ rfl⟩
      have HK := Lib.hid hK
      have HD := Lib.hid (show Below wo.heap.size wo wo.drew from (Below.refl _ _).drew)
      have HB := Lib.hid hb
      have HM := Lib.hid hm
      have HR := Lib.hid hr
      have HST := Lib.hid hst
      have hkn : (k : Int) < (n : Int) := by omega
      have hk0 : (0 : Int) ≤ (k : Int) := by omega
      clear hA hy hc hK hb hm hr hst
      go_wp2_with fail
      refine wp_region_M [0, 1, 2, 3, 4, 5, 6, 7] [6] (fun w' => (∀ j, w'.cell? ⟨M, j, none⟩ = #[.int .i64 m.fl, .int .i64 m.sp, .int .i64 m.sh, .int .i64 m.mv][j]?) ∧ w'.cell? ⟨b1, o1 + k * 4, none⟩ = some (.int .i64 y.fl) ∧ w'.cell? ⟨b1, o1 + k * 4 + 1, none⟩ = some (.int .i64 y.sp) ∧ w'.cell? ⟨b1, o1 + k * 4 + 2, none⟩ = some (.int .i64 y.sh) ∧ w'.cell? ⟨b1, o1 + k * 4 + 3, none⟩ = some (.int .i64 y.mv)) (by kernel_rfl) (by kernel_rfl) (HK.out _ HD.out) ?_
      iterate 6 (refine M_pure (by rfl) (by rfl) ?_; apply Exists.intro; apply And.intro; (case left => (intro w hSw; (try dsimp only at hSw); go_simp; try with_reducible rfl)); (try simp only [Act.put, List.setIfInBounds_toArray, List.set_cons_zero, List.set_cons_succ]))
      (refine M_call (by rfl) (by rfl) ?_; apply Exists.intro; apply Exists.intro; apply And.intro; (case left => (go_simp; exact ⟨rfl, rfl⟩)))
      refine (compareH_any y m _).mono ?_
      rintro e W ⟨rfl, hbW⟩
      refine ⟨_, rfl, HK.out W (HD.out.trans (hbW.mono HD.out.size)), ?_⟩
      have HBW := Lib.hid (HD.out.trans (hbW.mono HD.out.size))
      clear hbW
      (try simp only [Act.put, List.setIfInBounds_toArray, List.set_cons_zero, List.set_cons_succ])
      iterate 1 (refine M_pure (by rfl) (by rfl) ?_; apply Exists.intro; apply And.intro; (case left => (intro w hSw; (try dsimp only at hSw); go_simp; try with_reducible rfl)); (try simp only [Act.put, List.setIfInBounds_toArray, List.set_cons_zero, List.set_cons_succ]))
      refine M_nil ?_
      try dsimp only
      obtain ⟨cM, y0, y1, y2, y3⟩ := HK.out W HBW.out
      have hMf : ∀ j, W.frozen? ⟨M, j, none⟩ = false := (HM.out.below HBW.out hMl).frozen
      by_cases hgt : 0 < cmpH y m
      · have hbt : decide (0 < cmpH y m) = true := by simpa using hgt
        have hst2 := HST.out
        rw [if_pos hgt] at hst2
        have HS2 := Lib.hid hst2
        clear hst2
        have hfin : Hid (MxInv w ((((W.setCell ⟨M, 0, none⟩ (.int .i64 y.fl)).setCell ⟨M, 1, none⟩ (.int .i64 y.sp)).setCell ⟨M, 2, none⟩ (.int .i64 y.sh)).setCell ⟨M, 3, none⟩ (.int .i64 y.mv)) M R l (k + 1)) := by
          have hbW := HB.out.trans (HBW.out.mono HB.out.size)
          refine ⟨(((hbW.setCell HLM.out _).setCell HLM.out _).setCell HLM.out _).setCell HLM.out _, ?_, ?_⟩
          · rw [HS2.out]
            exact ((((HM.out.below HBW.out hMl).set_ 0 _).set_ 1 _).set_ 2 _).set_ 3 _
          · exact (((((HR.out.below HBW.out hRl).far (Ne.symm hMR) _).far (Ne.symm hMR) _).far (Ne.symm hMR) _).far (Ne.symm hMR) _)
        go_wp2
        go_roundw
        case rel => exact ⟨k + 1, by omega, by omega, by go_num, hfin.out⟩
        case measure => simp [intOf]; omega
      · have hbt : decide (0 < cmpH y m) = false := by simpa using hgt
        have hst2 := HST.out
        rw [if_neg hgt] at hst2
        have HS2 := Lib.hid hst2
        have hfin : Hid (MxInv w W M R l (k + 1)) := by
          have hbW := HB.out.trans (HBW.out.mono HB.out.size)
          refine ⟨hbW, ?_, ?_⟩
          · rw [HS2.out]
            exact HM.out.below HBW.out hMl
          · exact HR.out.below HBW.out hRl
        clear hst2
        go_wp2
        go_roundw
        case rel => exact ⟨k + 1, by omega, by omega, by go_num, hfin.out⟩
        case measure => simp [intOf]; omega
    · have hkn : k = n := by omega
      subst hkn
      have hlen : l.length = k := hs.1
      rw [List.take_of_length_le (by omega)] at hm
      have cM := hm.cell
      have cR := hr.cell
      have fR := hr.frozen
      simp only [harmC] at cM
      have HB := Lib.hid hb
      clear hm hr hb hs hlen
      go_wp2
      refine bodyPost_ret (v := .agg (harmC (worstL l)).toArray) ?_ rfl ⟨rfl, ?_⟩
      · simp [results, Try.results42, go_sem, *, harmC]
      · exact (((HB.out.setCell HLR.out _).setCell HLR.out _).setCell HLR.out _).setCell HLR.out _

set_option maxRecDepth 100000 in
set_option maxHeartbeats 1000000 in
theorem worst_any (A : Option Addr) (n cap : Nat) (l : List Hm) (w : World) (hn : n ≤ maxLen) (hs : Sl (Pl harmC) 4 w w.heap.size A n l) :
    Calls Try.prog 36 #[.slice A n cap] w fun e w' => e = .returned (.agg (harmC (worstL l)).toArray) ∧ Below w.heap.size w w' := by
  have hmx := fun (h1 : 1 ≤ n) (W : World) (hb : Below w.heap.size w W) (hz : w.heap.size ≤ W.heap.size) => maxFunc_any A n cap l W hn h1 (hs.keep (Pl.lasts _) hb hz)
  have HMX := Lib.hid hmx
  unfold maxLen at hn
  clear hmx
  by_cases h0 : n = 0
  · subst h0
    have hl : l = [] := List.length_eq_zero_iff.1 hs.1
    subst hl
    clear hs
    go_enter Try.func36, Try.ntmps36
    go_wp2
    refine bodyPost_ret (v := .agg #[.int .i64 0, .int .i64 0, .int .i64 0, .int .i64 0]) (by simp [results, Try.results36, go_sem]) rfl ⟨rfl, ?_⟩
    exact (Below.refl _ _).alloc (Nat.le_refl _) _
  · have hnb : ((n : Int) == 0) = false := by simp; omega
    have h1 : 1 ≤ n := by omega
    clear hs h0
    go_enter Try.func36, Try.ntmps36
    go_wp2_with fail
    refine (HMX.out h1 _ ((Below.refl _ _).alloc (Nat.le_refl _) _) (by simp)).mono ?_
    rintro e w1 ⟨rfl, hb1⟩
    have hk := (Bk.new w 61 #[.int .i64 0, .int .i64 0, .int .i64 0, .int .i64 0]).below hb1 (by simp)
    have cR := hk.cell
    have fR := hk.frozen
    have HB1 := Lib.hid hb1
    obtain ⟨m, hm⟩ : ∃ m, m = worstL l := ⟨_, rfl⟩
    rw [← hm]
    have HM := Lib.hid hm
    clear hm
    simp only [harmC]
    clear hk hb1
    go_wp2
    refine bodyPost_ret (v := .agg (harmC m).toArray) ?_ rfl ⟨by rw [HM.out], ?_⟩
    · simp [results, Try.results36, go_sem, *, harmC]
    · have hbw : Below w.heap.size w w1 := ((Below.refl _ _).alloc (Nat.le_refl _) _).trans (HB1.out.mono (by simp))
      exact (((hbw.setCell (Nat.le_refl _) _).setCell (Nat.le_refl _) _).setCell (Nat.le_refl _) _).setCell (Nat.le_refl _) _

end Go.Proofs.Ytlhaoiplbebgnaa
