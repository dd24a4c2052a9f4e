/- The walks of basin's slope and steepest. -/
import Derived.Test.YtmkbojhnbkdalaaBasE
import Derived.Test.YtmkbojhnbkdalaaRegionA
import Derived.Test.YtmkbojhnbkdalaaCallA
set_option linter.unusedSimpArgs false
set_option linter.unusedVariables false
namespace Go.Proofs.Ytmkbojhnbkdalaa
open Go.RowKit

def slopeI (num den : Int) : Int := if den = 0 then 0 else if scaleB num 1099511627776 den then scaleQ num 1099511627776 den + min (scaleR num 1099511627776 den) 1 else 1125899906842624
theorem scaleQ_bd (a num den : Int) : 0 ≤ scaleQ a num den ∧ scaleQ a num den ≤ 1125899906842624 := by
  unfold scaleQ
  split
  · rename_i h
    unfold scaleB at h
    simp only [Bool.and_eq_true, decide_eq_true_eq] at h
    obtain ⟨⟨⟨h1, h2⟩, h3⟩, h4⟩ := h
    have a1 := wthB_true h1
    have a2 := wthB_true h2
    have a3 := wthB_true h3
    refine ⟨Int.ediv_nonneg (Int.mul_nonneg a1.1 a2.1) (by omega), h4⟩
  · omega
theorem scaleR_bd (a num den : Int) : 0 ≤ scaleR a num den := by
  unfold scaleR
  split
  · rename_i h
    unfold scaleB at h
    simp only [Bool.and_eq_true, decide_eq_true_eq] at h
    have a3 := wthB_true h.1.2
    exact Int.emod_nonneg _ (by omega)
  · omega
theorem slopeI_bd (num den : Int) : 0 ≤ slopeI num den ∧ slopeI num den ≤ 1125899906842625 := by
  have h1 := scaleQ_bd num 1099511627776 den
  have h2 := scaleR_bd num 1099511627776 den
  unfold slopeI
  split
  · omega
  · split
    · omega
    · omega

set_option maxRecDepth 100000 in
set_option maxHeartbeats 400000 in
theorem slope_any (num den : Int) (w : World) : Calls Try.prog 54 #[.int .i64 num, .int .i64 den] w fun e w' => e = .returned (.int .i64 (slopeI num den)) ∧ Below w.heap.size w w' := by
  by_cases hd : den = 0
  · subst hd
    have HS := Lib.hid (show slopeI num 0 = 0 by unfold slopeI; rw [if_pos rfl])
    go_enter Try.func54, Try.ntmps54
    go_wp2
    go_ret
    exact ⟨by rw [HS.out]; rfl, Below.refl _ _⟩
  have h1 := scaleQ_bd num 1099511627776 den
  have h2 := scaleR_bd num 1099511627776 den
  have cs := scale_any num 1099511627776 den w
  have HS := Lib.hid (show slopeI num den = if scaleB num 1099511627776 den then scaleQ num 1099511627776 den + min (scaleR num 1099511627776 den) 1 else 1125899906842624 by unfold slopeI; rw [if_neg hd])
  obtain ⟨b, hb⟩ : ∃ z, z = scaleB num 1099511627776 den := ⟨_, rfl⟩
  obtain ⟨q, hq⟩ : ∃ z, z = scaleQ num 1099511627776 den := ⟨_, rfl⟩
  obtain ⟨r, hr⟩ : ∃ z, z = scaleR num 1099511627776 den := ⟨_, rfl⟩
  rw [← hb, ← hq, ← hr] at cs HS
  rw [← hq] at h1
  rw [← hr] at h2
  obtain ⟨m, hm⟩ : ∃ z, z = min r 1 := ⟨_, rfl⟩
  have hmm := hm.symm
  have hw1 : IntKind.i64.wrap (q + m) = q + m := by rw [IntKind.wrap_i64]; omega
  have hw2 : wrap64 (q + m) = q + m := by unfold wrap64; omega
  rw [hmm] at HS
  have CS := Lib.hid cs
  have hd' : (den == 0) = false := by simpa using hd
  have HM := Lib.hid hmm
  clear cs hb hq hr h1 h2 hd hm
  go_enter Try.func54, Try.ntmps54
  go_wp2_with fail
  refine CS.out.mono ?_
  rintro e w' ⟨rfl, hbw⟩
  have HB := Lib.hid hbw
  clear hbw
  cases b
  · go_wp2_with fail
    go_ret
    exact ⟨by rw [HS.out]; rfl, HB.out⟩
  · go_wp2_with fail
    go_ret
    exact ⟨by rw [HS.out]; rfl, HB.out⟩

def steepN (l : List Pt) : Nat → Int
  | 0 => 0
  | k + 1 => match l[k]?, l[k + 1]? with
    | some p, some q => max (steepN l k) (slopeI (IntKind.i64.wrap (q.y - p.y)) (IntKind.i64.wrap (q.x - p.x)))
    | _, _ => steepN l k
def steepI (l : List Pt) : Int := steepN l (l.length - 1)
theorem steepN_succ {l : List Pt} {k : Nat} {p q : Pt} (h : l[k]? = some p) (h' : l[k + 1]? = some q) : steepN l (k + 1) = max (steepN l k) (slopeI (IntKind.i64.wrap (q.y - p.y)) (IntKind.i64.wrap (q.x - p.x))) := by
  show (match l[k]?, l[k + 1]? with | some p, some q => _ | _, _ => _) = _
  rw [h, h']
theorem steepN_bd (l : List Pt) : ∀ k, 0 ≤ steepN l k ∧ steepN l k ≤ 1125899906842625
  | 0 => by simp [steepN]
  | k + 1 => by
    have ih := steepN_bd l k
    unfold steepN
    split
    · rename_i p q _ _
      have := slopeI_bd (IntKind.i64.wrap (q.y - p.y)) (IntKind.i64.wrap (q.x - p.x))
      omega
    · exact ih

set_option maxRecDepth 100000 in
set_option maxHeartbeats 1000000 in
theorem steepest_any (s : SlR Pt) (w w0 : World) (B : Nat) (hM : SlR.Mem (Rw cPt MPt) 2 w0 B s) (hw : Below B w0 w) (hB : B ≤ w.heap.size) :
    Calls Try.prog 55 #[.slice s.a s.n s.c] w fun e w' => e = .returned (.int .i64 (steepI s.l)) ∧ Below w.heap.size w w' := by
  have hn := two_byte hM.le
  have HLEN := Lib.hid hM.len
  have HMM := Lib.hid hM
  have HW := Lib.hid hw
  obtain ⟨A, hA⟩ : ∃ A, s.a = A := ⟨_, rfl⟩
  obtain ⟨n, hn'⟩ : ∃ n, s.n = n := ⟨_, rfl⟩
  rw [hA, hn']
  rw [hn'] at hn
  have HA := Lib.hid hA
  have HN := Lib.hid hn'
  obtain ⟨m, hm⟩ : ∃ m : Nat, m = n - 1 := ⟨_, rfl⟩
  have hmx : max 0 ((n : Int) - 1) = (m : Int) := by omega
  have HM := Lib.hid hm
  clear hM hw hA hn' hm
  go_enter Try.func55, Try.ntmps55
  go_wp2
  go_loopw [3, 9] (fun v i wr => ∃ k : Nat, k ≤ m ∧ i = .int .i64 (k : Int) ∧ v = .int .i64 (steepN s.l k) ∧ Below w.heap.size w wr) (fun _ i _ => m - (intOf i).toNat)
  case atStart => exact ⟨0, by omega, rfl, rfl, Below.refl _ _⟩
  case round =>
    obtain ⟨k, hk, rfl, rfl, hb⟩ := hrel
    have HB := Lib.hid hb
    have hsz := hb.size
    clear hb
    by_cases hlt : k < m
    · have hk0 : (0 : Int) ≤ (k : Int) := by omega
      have hki : (k : Int) < (m : Int) := by omega
      have hmn := HM.out
      have hkn : (k : Int) < (n : Int) := by omega
      obtain ⟨k1, hk1⟩ : ∃ z, z = k + 1 := ⟨_, rfl⟩
      have e1 : (k : Int) + 1 = (k1 : Int) := by omega
      have e2 : IntKind.i64.wrap (k1 : Int) = (k1 : Int) := by rw [IntKind.wrap_i64]; omega
      have e3 : IntKind.i64.wrap ((k : Int) + 1) = (k1 : Int) := by rw [e1]; exact e2
      have e4 : IntKind.i64.wrap (k : Int) = (k : Int) := by rw [IntKind.wrap_i64]; omega
      have hk10 : (0 : Int) ≤ (k1 : Int) := by omega
      have hk1n : (k1 : Int) < (n : Int) := by omega
      obtain ⟨pb, po, p, hpa, hpb, hx, _, hc⟩ := HMM.out.at_ (k := k) (by rw [HN.out]; omega)
      obtain ⟨qb, qo, q, hqa, hqb, hqx, _, hqc⟩ := HMM.out.at_ (k := k1) (by rw [HN.out]; omega)
      obtain rfl : A = some ⟨pb, po, none⟩ := HA.out.symm.trans hpa
      obtain ⟨rfl, rfl⟩ : pb = qb ∧ po = qo := by
        have := HA.out.symm.trans hqa
        simpa using this
      have hst := steepN_succ hx (by rw [← hk1]; exact hqx)
      rw [← hk1] at hst
      obtain ⟨px, hpx⟩ : ∃ z, p.x = z := ⟨_, rfl⟩
      obtain ⟨py, hpy⟩ : ∃ z, p.y = z := ⟨_, rfl⟩
      obtain ⟨qx, hqxx⟩ : ∃ z, q.x = z := ⟨_, rfl⟩
      obtain ⟨qy, hqyy⟩ : ∃ z, q.y = z := ⟨_, rfl⟩
      have HS := Lib.hid (show ∀ W, Below w.heap.size w W → (fun W => Below w.heap.size w W ∧ W.cell? ⟨pb, po + k * 2, none⟩ = some (.int .i64 px) ∧ W.cell? ⟨pb, po + k * 2 + 1, none⟩ = some (.int .i64 py) ∧ W.cell? ⟨pb, po + k1 * 2, none⟩ = some (.int .i64 qx) ∧ W.cell? ⟨pb, po + k1 * 2 + 1, none⟩ = some (.int .i64 qy)) W from fun W hW => by
        have hbw := HW.out.trans (hW.mono hB)
        have a0 := hc W hbw 0 _ rfl
        have a1 := hc W hbw 1 _ rfl
        have b0 := hqc W hbw 0 _ rfl
        have b1 := hqc W hbw 1 _ rfl
        rw [hpx] at a0
        rw [hpy] at a1
        rw [hqxx] at b0
        rw [hqyy] at b1
        exact ⟨hW, a0, a1, b0, b1⟩)
      rw [hpx, hpy, hqxx, hqyy] at hst
      obtain ⟨dy, hdy⟩ : ∃ z, IntKind.i64.wrap (qy - py) = z := ⟨_, rfl⟩
      obtain ⟨dx, hdx⟩ : ∃ z, IntKind.i64.wrap (qx - px) = z := ⟨_, rfl⟩
      rw [hdy, hdx] at hst
      have CS := Lib.hid (slope_any dy dx)
      obtain ⟨sl, hsl⟩ : ∃ z, slopeI dy dx = z := ⟨_, rfl⟩
      rw [hsl] at CS hst
      obtain ⟨st, hst0⟩ : ∃ z, steepN s.l k = z := ⟨_, rfl⟩
      rw [hst0] at hst
      rw [hst0]
      have HST := Lib.hid hst
      have HK1 := Lib.hid hk1
      clear hpa hqa hx hqx hc hqc hpx hpy hqxx hqyy hst hsl hst0 hmn hk1
      go_wp2_with fail
      refine wp_region_headA 28 [] (fun _ => (fun W => Below w.heap.size w W ∧ W.cell? ⟨pb, po + k * 2, none⟩ = some (.int .i64 px) ∧ W.cell? ⟨pb, po + k * 2 + 1, none⟩ = some (.int .i64 py) ∧ W.cell? ⟨pb, po + k1 * 2, none⟩ = some (.int .i64 qx) ∧ W.cell? ⟨pb, po + k1 * 2 + 1, none⟩ = some (.int .i64 qy))) (by kernel_rfl) (by kernel_rfl) (by kernel_rfl) (HS.out _ HB.out.drew) ?_
      iterate 25 (refine chain_pureA (by decide) (by rfl) ?_; apply Exists.intro; apply And.intro; (case left => (intro β w hSw; (try dsimp only at hSw); go_simp; try with_reducible rfl)); (try simp only [Act.put, List.setIfInBounds_toArray, List.set_cons_zero, List.set_cons_succ]))
      (refine chain_callA (by decide) (by rfl) ?_; apply Exists.intro; apply Exists.intro; apply And.intro; (case left => (intro w; go_simp; exact ⟨rfl, rfl⟩)))
      refine ⟨(.int .i64 sl), (fun β W hSW => ?_), ?_⟩
      · refine (CS.out W).mono ?_
        rintro e W' ⟨rfl, hbW⟩
        exact ⟨rfl, HS.out _ (hSW.1.trans (hbW.mono hSW.1.size))⟩
      (try simp only [Act.put, List.setIfInBounds_toArray, List.set_cons_zero, List.set_cons_succ])
      iterate 2 (refine chain_pureA (by decide) (by rfl) ?_; apply Exists.intro; apply And.intro; (case left => (intro β w hSw; (try dsimp only at hSw); go_simp; try with_reducible rfl)); (try simp only [Act.put, List.setIfInBounds_toArray, List.set_cons_zero, List.set_cons_succ]))
      intro W hW
      have HWW := Lib.hid hW.1
      clear hW
      go_wp2
      go_roundw
      case rel => exact ⟨k + 1, by omega, by rw [← e1]; go_num, by rw [show k + 1 = k1 from HK1.out.symm, HST.out], HWW.out⟩
      case measure => (have := HK1.out; simp [intOf]; omega)
    · obtain rfl : k = m := by omega
      have HE := Lib.hid (show steepI s.l = steepN s.l k by unfold steepI; rw [HLEN.out, HN.out, HM.out])
      go_wp2
      go_ret
      exact ⟨by rw [HE.out]; rfl, HB.out⟩

end Go.Proofs.Ytmkbojhnbkdalaa
