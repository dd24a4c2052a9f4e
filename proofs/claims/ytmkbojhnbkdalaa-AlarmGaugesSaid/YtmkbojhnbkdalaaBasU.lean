/- The walk of curve.Under. -/
import Derived.Test.YtmkbojhnbkdalaaBasG2
import Derived.Test.YtmkbojhnbkdalaaRightB
set_option linter.unusedSimpArgs false
set_option linter.unusedVariables false
namespace Go.Proofs.Ytmkbojhnbkdalaa
open Go.RowKit

theorem all_no {α : Type} {l : List α} {f : α → Bool} {k : Nat} {x : α} (h : l[k]? = some x) (hf : f x = false) : l.all f = false := by
  cases hc : l.all f with
  | false => rfl
  | true =>
    have := List.all_eq_true.1 hc x (List.mem_iff_getElem?.2 ⟨k, h⟩)
    rw [hf] at this
    cases this
theorem all_yes {α : Type} {l : List α} {f : α → Bool} (h : ∀ (j : Nat) x, l[j]? = some x → f x = true) : l.all f = true := by
  refine List.all_eq_true.2 fun x hx => ?_
  obtain ⟨j, hj⟩ := List.mem_iff_getElem?.1 hx
  exact h j x hj

set_option maxRecDepth 100000 in
set_option maxHeartbeats 2000000 in
theorem under_any (s r : SlR Pt) (w w0 : World) (B : Nat) (hM : SlR.Mem (Rw cPt MPt) 2 w0 B s) (hM2 : SlR.Mem (Rw cPt MPt) 2 w0 B r) (hw : Below B w0 w) (hB : B ≤ w.heap.size) :
    Calls Try.prog 53 #[.slice s.a s.n s.c, .slice r.a r.n r.c] w fun e w' => e = .returned (.bool (underB s.l r.l)) ∧ Below w.heap.size w w' := by
  have hn := two_byte hM.le
  have hm := two_byte hM2.le
  have HS := Lib.hid hM
  have HR := Lib.hid hM2
  have HW := Lib.hid hw
  have HU := Lib.hid (show underB s.l r.l = (curveB s.l && (curveB r.l && (s.l.all (fun p => decide (p.y ≤ atD r.l p.x)) && r.l.all (fun p => decide (atU s.l p.x ≤ p.y))))) from rfl)
  have C1 := Lib.hid (curveRight_any s w w0 B hM hw hB)
  have C2 := Lib.hid (fun W (hW : Below w.heap.size w W) => curveRight_any r W w0 B hM2 (hw.trans (hW.mono hB)) (Nat.le_trans hB hW.size))
  obtain ⟨v1, hv1⟩ : ∃ z, curveB s.l = z := ⟨_, rfl⟩
  obtain ⟨v2, hv2⟩ : ∃ z, curveB r.l = z := ⟨_, rfl⟩
  rw [hv1, hv2] at HU
  rw [hv1] at C1
  rw [hv2] at C2
  have HV1 := Lib.hid hv1
  have HV2 := Lib.hid hv2
  obtain ⟨A, hA⟩ : ∃ z, s.a = z := ⟨_, rfl⟩
  obtain ⟨A2, hA2⟩ : ∃ z, r.a = z := ⟨_, rfl⟩
  obtain ⟨n, hsn⟩ : ∃ z, s.n = z := ⟨_, rfl⟩
  obtain ⟨m, hrn⟩ : ∃ z, r.n = z := ⟨_, rfl⟩
  rw [hA, hA2, hsn, hrn]
  rw [hA, hsn] at C1
  rw [hA2, hrn] at C2
  rw [hsn] at hn
  rw [hrn] at hm
  have HA := Lib.hid hA
  have HA2 := Lib.hid hA2
  have HSN := Lib.hid hsn
  have HRN := Lib.hid hrn
  clear hM hM2 hw hA hA2 hsn hrn hv1 hv2
  go_enter Try.func53, Try.ntmps53
  go_wp2_with fail
  refine C1.out.mono ?_
  rintro e W1 ⟨rfl, hb1⟩
  have HB1 := Lib.hid hb1
  clear hb1
  cases v1
  · go_wp2_with fail
    go_ret
    exact ⟨by rw [HU.out]; rfl, HB1.out⟩
  go_wp2_with fail
  refine (C2.out W1 HB1.out).mono ?_
  rintro e W2 ⟨rfl, hb2⟩
  have HB2 := Lib.hid (HB1.out.trans (hb2.mono HB1.out.size))
  clear hb2
  cases v2
  · go_wp2_with fail
    go_ret
    exact ⟨by rw [HU.out]; rfl, HB2.out⟩
  go_wp2_with fail
  go_loopw [23] (fun i wr => ∃ k : Nat, k ≤ n ∧ i = .int .i64 (k : Int) ∧ Hid (∀ j x, j < k → s.l[j]? = some x → decide (x.y ≤ atD r.l x.x) = true) ∧ Below w.heap.size w wr) (fun i _ => n - (intOf i).toNat)
  case atStart => exact ⟨0, by omega, rfl, Lib.hid (fun j x h => absurd h (Nat.not_lt_zero _)), HB2.out⟩
  case round =>
    obtain ⟨k, hk, rfl, HALL, hb⟩ := hrel
    have HB := Lib.hid hb
    have hsz := hb.size
    clear hb
    by_cases hlt : k < n
    · have hk0 : (0 : Int) ≤ (k : Int) := by omega
      have hki : (k : Int) < (n : Int) := by omega
      obtain ⟨pb, po, p, hpa, hpb, hx, _, hc⟩ := HS.out.at_ (k := k) (by rw [HSN.out]; exact hlt)
      obtain rfl : A = some ⟨pb, po, none⟩ := HA.out.symm.trans hpa
      have hbw := HW.out.trans (HB.out.mono hB)
      have e0 := hc _ hbw 0 _ rfl
      have e1 := hc _ hbw 1 _ rfl
      simp only [Nat.add_zero] at e0
      obtain ⟨px, hpx⟩ : ∃ z, p.x = z := ⟨_, rfl⟩
      obtain ⟨py, hpy⟩ : ∃ z, p.y = z := ⟨_, rfl⟩
      rw [hpx] at e0
      rw [hpy] at e1
      obtain ⟨W3, hW3⟩ : ∃ z, z = wr.alloc (.cells #[.int .i64 px, .int .i64 py] 133) := ⟨_, rfl⟩
      have hb3 : Below w.heap.size w W3 := by rw [hW3]; exact HB.out.alloc hsz _
      have c3 : ∀ j, W3.cell? ⟨wr.heap.size, j, none⟩ = (#[.int .i64 px, .int .i64 py] : Array Value)[j]? := by rw [hW3]; exact (Bk.new wr _ _).cell
      have hz3 : wr.heap.size < W3.heap.size := by rw [hW3]; simp
      have CA := Lib.hid (curveAt_any r px W3 w0 B HR.out (HW.out.trans (hb3.mono hB)) (Nat.le_trans hB hb3.size) HV2.out)
      obtain ⟨yd, hyd⟩ : ∃ z, atD r.l px = z := ⟨_, rfl⟩
      obtain ⟨yu, hyu⟩ : ∃ z, atU r.l px = z := ⟨_, rfl⟩
      rw [hyd, hyu, HA2.out, HRN.out] at CA
      have HF := Lib.hid (show decide (p.y ≤ atD r.l p.x) = decide (py ≤ yd) by rw [hpx, hpy, hyd])
      have HB3 := Lib.hid hb3
      have HW3 := Lib.hid hW3
      have HX := Lib.hid hx
      clear hpa hx hc hbw hpx hpy hW3 hb3 hyd hyu
      go_upto_region 6 with fail
      rw [← HW3.out]
      clear e0 e1
      go_wp2_with fail
      refine CA.out.mono ?_
      rintro e W4 ⟨rfl, hb4⟩
      have c4 : W4.cell? ⟨wr.heap.size, 1, none⟩ = some (.int .i64 py) := (hb4.cell (p := ⟨wr.heap.size, 1, none⟩) hz3).trans (c3 1)
      have HB4 := Lib.hid (HB3.out.trans (hb4.mono HB3.out.size))
      clear hb4 c3 hz3
      cases hd : decide (py ≤ yd) with
      | true =>
        have hd2 : decide (yd < py) = false := decide_eq_false (by have := of_decide_eq_true hd; omega)
        have HD := Lib.hid hd
        clear hd
        go_wp2_with fail
        go_roundw
        case rel =>
          refine ⟨k + 1, by omega, by go_num, Lib.hid (fun j x hj hx => ?_), HB4.out⟩
          by_cases hjk : j < k
          · exact HALL.out j x hjk hx
          · obtain rfl : j = k := by omega
            rw [HX.out] at hx
            injection hx with hx
            rw [← hx, HF.out, HD.out]
        case measure => simp [intOf]; omega
      | false =>
        have hd2 : decide (yd < py) = true := decide_eq_true (by have := of_decide_eq_false hd; omega)
        have HD := Lib.hid (all_no (f := fun p : Pt => decide (p.y ≤ atD r.l p.x)) HX.out (HF.out.trans hd))
        clear hd
        go_wp2_with fail
        go_ret
        exact ⟨by rw [HU.out, HD.out]; rfl, HB4.out⟩
    · obtain rfl : k = n := by omega
      have HALL2 := Lib.hid (all_yes (l := s.l) (f := fun p : Pt => decide (p.y ≤ atD r.l p.x)) fun j x hx => HALL.out j x (by have := (List.getElem?_eq_some_iff.1 hx).1; rw [HS.out.len, HSN.out] at this; exact this) hx)
      go_wp2_with fail
      go_loopw [41] (fun i wr => ∃ k : Nat, k ≤ m ∧ i = .int .i64 (k : Int) ∧ Hid (∀ j x, j < k → r.l[j]? = some x → decide (atU s.l x.x ≤ x.y) = true) ∧ Below w.heap.size w wr) (fun i _ => m - (intOf i).toNat)
      case atStart => exact ⟨0, by omega, rfl, Lib.hid (fun j x h => absurd h (Nat.not_lt_zero _)), HB.out⟩
      case round =>
        obtain ⟨q, hq, rfl, HALLQ, hb'⟩ := hrel
        have HBQ := Lib.hid hb'
        have hszq := hb'.size
        clear hb'
        by_cases hlq : q < m
        · have hk0 : (0 : Int) ≤ (q : Int) := by omega
          have hki : (q : Int) < (m : Int) := by omega
          obtain ⟨pb, po, p, hpa, hpb, hx, _, hc⟩ := HR.out.at_ (k := q) (by rw [HRN.out]; exact hlq)
          obtain rfl : A2 = some ⟨pb, po, none⟩ := HA2.out.symm.trans hpa
          have hbw := HW.out.trans (HBQ.out.mono hB)
          have e0 := hc _ hbw 0 _ rfl
          have e1 := hc _ hbw 1 _ rfl
          simp only [Nat.add_zero] at e0
          obtain ⟨px, hpx⟩ : ∃ z, p.x = z := ⟨_, rfl⟩
          obtain ⟨py, hpy⟩ : ∃ z, p.y = z := ⟨_, rfl⟩
          rw [hpx] at e0
          rw [hpy] at e1
          obtain ⟨W3, hW3⟩ : ∃ z, z = wr.alloc (.cells #[.int .i64 px, .int .i64 py] 133) := ⟨_, rfl⟩
          have hb3 : Below w.heap.size w W3 := by rw [hW3]; exact HBQ.out.alloc hszq _
          have c3 : ∀ j, W3.cell? ⟨wr.heap.size, j, none⟩ = (#[.int .i64 px, .int .i64 py] : Array Value)[j]? := by rw [hW3]; exact (Bk.new wr _ _).cell
          have hz3 : wr.heap.size < W3.heap.size := by rw [hW3]; simp
          have CA := Lib.hid (curveAt_any s px W3 w0 B HS.out (HW.out.trans (hb3.mono hB)) (Nat.le_trans hB hb3.size) HV1.out)
          obtain ⟨yd, hyd⟩ : ∃ z, atD s.l px = z := ⟨_, rfl⟩
          obtain ⟨yu, hyu⟩ : ∃ z, atU s.l px = z := ⟨_, rfl⟩
          rw [hyd, hyu, HA.out, HSN.out] at CA
          have HF := Lib.hid (show decide (atU s.l p.x ≤ p.y) = decide (yu ≤ py) by rw [hpx, hpy, hyu])
          have HB3 := Lib.hid hb3
          have HW3 := Lib.hid hW3
          have HX := Lib.hid hx
          clear hpa hx hc hbw hpx hpy hW3 hb3 hyd hyu
          go_upto_region 13 with fail
          rw [← HW3.out]
          clear e0 e1
          go_wp2_with fail
          refine CA.out.mono ?_
          rintro e W4 ⟨rfl, hb4⟩
          have c4 : W4.cell? ⟨wr.heap.size, 1, none⟩ = some (.int .i64 py) := (hb4.cell (p := ⟨wr.heap.size, 1, none⟩) hz3).trans (c3 1)
          have HB4 := Lib.hid (HB3.out.trans (hb4.mono HB3.out.size))
          clear hb4 c3 hz3
          cases hd : decide (yu ≤ py) with
          | true =>
            have hd2 : decide (py < yu) = false := decide_eq_false (by have := of_decide_eq_true hd; omega)
            have HD := Lib.hid hd
            clear hd
            go_wp2_with fail
            go_roundw
            case rel =>
              refine ⟨q + 1, by omega, by go_num, Lib.hid (fun j x hj hx => ?_), HB4.out⟩
              by_cases hjk : j < q
              · exact HALLQ.out j x hjk hx
              · obtain rfl : j = q := by omega
                rw [HX.out] at hx
                injection hx with hx
                rw [← hx, HF.out, HD.out]
            case measure => simp [intOf]; omega
          | false =>
            have hd2 : decide (py < yu) = true := decide_eq_true (by have := of_decide_eq_false hd; omega)
            have HD := Lib.hid (all_no (f := fun p : Pt => decide (atU s.l p.x ≤ p.y)) HX.out (HF.out.trans hd))
            clear hd
            go_wp2_with fail
            go_ret
            exact ⟨by rw [HU.out, HALL2.out, HD.out]; rfl, HB4.out⟩
        · obtain rfl : q = m := by omega
          have HALL3 := Lib.hid (all_yes (l := r.l) (f := fun p : Pt => decide (atU s.l p.x ≤ p.y)) fun j x hx => HALLQ.out j x (by have := (List.getElem?_eq_some_iff.1 hx).1; rw [HR.out.len, HRN.out] at this; exact this) hx)
          go_wp2_with fail
          go_ret
          exact ⟨by rw [HU.out, HALL2.out, HALL3.out]; rfl, HBQ.out⟩

end Go.Proofs.Ytmkbojhnbkdalaa
