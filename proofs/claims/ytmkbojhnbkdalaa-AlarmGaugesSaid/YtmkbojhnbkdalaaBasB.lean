/- The walks of curve.Right. -/
import Derived.Test.YtmkbojhnbkdalaaBasA
import Derived.Test.YtmkbojhnbkdalaaRegion
set_option linter.unusedSimpArgs false
set_option linter.unusedVariables false
namespace Go.Proofs.Ytmkbojhnbkdalaa
open Go.RowKit

/-- Is a point in range, and right behind the one before it? -/
def inB (p : Pt) : Bool := volB p.x && volB p.y
def okP (l : List Pt) (k : Nat) : Bool := match l[k]? with
  | none => true
  | some p => inB p && (match k with
    | 0 => true
    | j + 1 => match l[j]? with
      | none => true
      | some q => decide (q.x < p.x) && decide (q.y ≤ p.y))
def curveB (l : List Pt) : Bool := (List.range l.length).all (okP l) && (decide (0 < l.length) && decide (l.length ≤ 32))
theorem okP_zero {l : List Pt} {p : Pt} (h : l[0]? = some p) : okP l 0 = inB p := by
  unfold okP
  rw [h]
  simp
theorem okP_succ {l : List Pt} {k : Nat} {p q : Pt} (h : l[k + 1]? = some p) (h' : l[k]? = some q) : okP l (k + 1) = (inB p && (decide (q.x < p.x) && decide (q.y ≤ p.y))) := by
  unfold okP
  rw [h]
  simp only [h']
theorem curveB_false {l : List Pt} {k : Nat} (hk : k < l.length) (h : okP l k = false) : curveB l = false := by
  unfold curveB
  have : (List.range l.length).all (okP l) = false := by
    rw [List.all_eq_false]
    exact ⟨k, List.mem_range.2 hk, by simpa using h⟩
  rw [this]
  rfl
theorem curveB_end {l : List Pt} (h : ∀ j, j < l.length → okP l j = true) : curveB l = (decide (0 < l.length) && decide (l.length ≤ 32)) := by
  unfold curveB
  have : (List.range l.length).all (okP l) = true := by
    rw [List.all_eq_true]
    exact fun k hk => h k (List.mem_range.1 hk)
  rw [this]
  rfl
theorem inB_false {p : Pt} (h : p.x < 0 ∨ p.y < 0 ∨ maxVolI < p.x ∨ maxVolI < p.y) : inB p = false := by
  unfold inB volB wthB
  simp only [Bool.and_eq_false_iff, decide_eq_false_iff_not]
  omega
theorem inB_true {p : Pt} (h : ¬ (p.x < 0 ∨ p.y < 0 ∨ maxVolI < p.x ∨ maxVolI < p.y)) : inB p = true := by
  unfold inB volB wthB
  simp only [Bool.and_eq_true, decide_eq_true_eq]
  omega

set_option maxRecDepth 100000 in
set_option maxHeartbeats 1000000 in
theorem curveRight_any (s : SlR Pt) (w w0 : World) (B : Nat) (hM : SlR.Mem (Rw cPt MPt) 2 w0 B s) (hw : Below B w0 w) (hB : B ≤ w.heap.size) :
    Calls Try.prog 45 #[.slice s.a s.n s.c] w fun e w' => e = .returned (.bool (curveB s.l)) ∧ Below w.heap.size w w' := by
  have hn := two_byte hM.le
  have HLEN := Lib.hid hM.len
  have HMM := Lib.hid hM
  have HW := Lib.hid hw
  obtain ⟨A, hA⟩ : ∃ A, s.a = A := ⟨_, rfl⟩
  obtain ⟨n, hn'⟩ : ∃ n, s.n = n := ⟨_, rfl⟩
  rw [hA, hn']
  rw [hn'] at hn
  have HA := Lib.hid hA
  have HN := Lib.hid hn'
  obtain ⟨M, hMv⟩ : ∃ M : Int, M = maxVolI := ⟨_, rfl⟩
  have HMV := Lib.hid hMv
  clear hM hw hA hn' hMv
  go_enter Try.func45, Try.ntmps45
  go_wp2
  go_loopw [7] (fun i wr => ∃ k : Nat, k ≤ n ∧ i = .int .i64 (k : Int) ∧ Below w.heap.size w wr ∧ ∀ j, j < k → okP s.l j = true) (fun i _ => n - (intOf i).toNat)
  case atStart => exact ⟨0, by omega, rfl, Below.refl _ _, fun j hj => absurd hj (Nat.not_lt_zero _)⟩
  case round =>
    obtain ⟨k, hk, rfl, hb, hall⟩ := hrel
    have HB := Lib.hid hb
    have hsz := hb.size
    have HALL := Lib.hid hall
    clear hb hall
    by_cases hlt : k < n
    · have hk0 : (0 : Int) ≤ (k : Int) := by omega
      have hki : (k : Int) < (n : Int) := by omega
      obtain ⟨pb, po, p, hpa, hpb, hx, _, hc⟩ := HMM.out.at_ (k := k) (by rw [HN.out]; exact hlt)
      obtain rfl : A = some ⟨pb, po, none⟩ := HA.out.symm.trans hpa
      have hbw := HW.out.trans (HB.out.mono hB)
      have e0 := hc wr hbw 0 _ rfl
      have e1 := hc wr hbw 1 _ rfl
      simp only [Nat.add_zero] at e0
      have HPX := Lib.hid hx
      have hkl : k < s.l.length := by rw [HLEN.out, HN.out]; exact hlt
      clear hpa hbw
      by_cases h1 : p.x < 0
      · have HF := Lib.hid (show curveB s.l = false from curveB_false hkl (by
          rcases k with _ | k
          · rw [okP_zero hx, inB_false (.inl h1)]
          · unfold okP; rw [hx]; simp [inB_false (.inl h1)]))
        clear hx hc hkl
        go_wp2_with fail
        go_ret
        exact ⟨by rw [HF.out]; rfl, HB.out.alloc hsz _⟩
      by_cases h2 : p.y < 0
      · have HF := Lib.hid (show curveB s.l = false from curveB_false hkl (by
          unfold okP; rw [hx]; simp [inB_false (.inr (.inl h2))]))
        clear hx hc hkl
        go_wp2_with fail
        go_ret
        exact ⟨by rw [HF.out]; rfl, HB.out.alloc hsz _⟩
      by_cases h3 : 1125899906842624 < p.x
      · have HF := Lib.hid (show curveB s.l = false from curveB_false hkl (by
          unfold okP; rw [hx]; simp [inB_false (.inr (.inr (.inl h3)))]))
        have d3 : decide (1125899906842624 < p.x) = true := decide_eq_true h3
        clear hx hc hkl h3
        go_wp2_with fail
        go_ret
        exact ⟨by rw [HF.out]; rfl, HB.out.alloc hsz _⟩
      by_cases h4 : 1125899906842624 < p.y
      · have HF := Lib.hid (show curveB s.l = false from curveB_false hkl (by
          unfold okP; rw [hx]; simp [inB_false (.inr (.inr (.inr h4)))]))
        have d3 : decide (1125899906842624 < p.x) = false := decide_eq_false h3
        have d4 : decide (1125899906842624 < p.y) = true := decide_eq_true h4
        clear hx hc hkl h3 h4
        go_wp2_with fail
        go_ret
        exact ⟨by rw [HF.out]; rfl, HB.out.alloc hsz _⟩
      have hin : inB p = true := inB_true (by unfold maxVolI; omega)
      have d3 : decide (1125899906842624 < p.x) = false := decide_eq_false h3
      have d4 : decide (1125899906842624 < p.y) = false := decide_eq_false h4
      have HIN := Lib.hid hin
      clear h3 h4 hin
      obtain ⟨px, hpx⟩ : ∃ z, p.x = z := ⟨_, rfl⟩
      obtain ⟨py, hpy⟩ : ∃ z, p.y = z := ⟨_, rfl⟩
      rw [hpx] at e0 d3 h1
      rw [hpy] at e1 d4 h2
      have HPXX := Lib.hid hpx
      have HPYY := Lib.hid hpy
      clear hpx hpy
      rcases k with _ | k
      · simp only [Nat.zero_mul, Nat.add_zero] at e0 e1
        have HO := Lib.hid (show okP s.l 0 = true by rw [okP_zero hx]; exact HIN.out)
        clear hx hc hkl
        go_wp2_with fail
        obtain ⟨W0, hW0⟩ : ∃ W, W = wr.alloc (.cells #[.int .i64 px, .int .i64 py] 133) := ⟨_, rfl⟩
        rw [← hW0]
        have HBN := Lib.hid (show Below w.heap.size w W0 by rw [hW0]; exact HB.out.alloc hsz _)
        clear hW0
        refine wp_region_head 24 (fun w' => w' = W0.drew) (by kernel_rfl) (by kernel_rfl) rfl ?_
        iterate 3 (refine chain_pure (by rfl) ?_; apply Exists.intro; apply And.intro; (case left => (intro w hSw; (try dsimp only at hSw); go_simp; try with_reducible rfl)); (try simp only [Act.put, List.setIfInBounds_toArray, List.set_cons_zero, List.set_cons_succ]))
        iterate 20 (refine chain_off (by rfl) ?_; (try simp only [Act.put, List.setIfInBounds_toArray, List.set_cons_zero, List.set_cons_succ]))
        iterate 1 (refine chain_pure (by rfl) ?_; apply Exists.intro; apply And.intro; (case left => (intro w hSw; (try dsimp only at hSw); go_simp; try with_reducible rfl)); (try simp only [Act.put, List.setIfInBounds_toArray, List.set_cons_zero, List.set_cons_succ]))
        intro W hSW
        subst hSW
        go_wp2
        go_roundw
        case rel => exact ⟨1, by omega, by go_num, HBN.out.drew, fun j hj => (show j = 0 by omega) ▸ HO.out⟩
        case measure => simp [intOf]; omega
      · obtain ⟨qb, qo, q, hqa, hqb, hqx, _, hqc⟩ := HMM.out.at_ (k := k) (by rw [HN.out]; omega)
        obtain ⟨rfl, rfl⟩ : pb = qb ∧ po = qo := by
          have := HA.out.symm.trans hqa
          simpa using this
        obtain ⟨W0, hW0⟩ : ∃ W, W = wr.alloc (.cells #[.int .i64 px, .int .i64 py] 133) := ⟨_, rfl⟩
        have hBN : Below w.heap.size w W0 := by rw [hW0]; exact HB.out.alloc hsz _
        have g0 := hqc W0 (HW.out.trans (hBN.mono hB)) 0 _ rfl
        have g1 := hqc W0 (HW.out.trans (hBN.mono hB)) 1 _ rfl
        simp only [Nat.add_zero] at g0
        have b0 : W0.cell? ⟨wr.heap.size, 0, none⟩ = some (.int .i64 px) := by rw [hW0]; exact (Bk.new wr 133 #[.int .i64 px, .int .i64 py]).cell 0
        have b1 : W0.cell? ⟨wr.heap.size, 1, none⟩ = some (.int .i64 py) := by rw [hW0]; exact (Bk.new wr 133 #[.int .i64 px, .int .i64 py]).cell 1
        have HBN := Lib.hid hBN
        have HW0 := Lib.hid hW0
        have HOK := Lib.hid (okP_succ hx hqx)
        obtain ⟨qx, hqxx⟩ : ∃ z, q.x = z := ⟨_, rfl⟩
        obtain ⟨qy, hqyy⟩ : ∃ z, q.y = z := ⟨_, rfl⟩
        rw [hqxx] at g0
        rw [hqyy] at g1
        have HQX := Lib.hid hqxx
        have HQY := Lib.hid hqyy
        have hj1 : ((k + 1 : Nat) : Int) - 1 = (k : Int) := by omega
        have hj2 : IntKind.i64.wrap (((k + 1 : Nat) : Int) - 1) = (k : Int) := by rw [hj1, IntKind.wrap_i64]; omega
        have hj3 : ((k : Int) + 1) - 1 = (k : Int) := by omega
        have hj4 : IntKind.i64.wrap ((k : Int) + 1 - 1) = (k : Int) := by rw [hj3, IntKind.wrap_i64]; omega
        have hj5 : IntKind.i64.wrap (k : Int) = (k : Int) := by rw [IntKind.wrap_i64]; omega
        have hkz : (0 : Int) ≤ (k : Int) := by omega
        have hkn2 : (k : Int) < (n : Int) := by omega
        clear hx hqx hqa hqc hqxx hqyy hBN hW0
        by_cases h5 : px ≤ qx
        · have HF := Lib.hid (show curveB s.l = false from curveB_false hkl (by
            rw [HOK.out, HPXX.out, HQX.out, show decide (qx < px) = false by simp; omega]; simp))
          have d5 : decide (px ≤ qx) = true := decide_eq_true h5
          clear hkl h5
          go_wp2_with fail
          rw [← HW0.out]
          refine wp_region_head 24 (fun w' => w' = W0.drew) (by kernel_rfl) (by kernel_rfl) rfl ?_
          iterate 13 (refine chain_pure (by rfl) ?_; apply Exists.intro; apply And.intro; (case left => (intro w hSw; (try dsimp only at hSw); go_simp; try with_reducible rfl)); (try simp only [Act.put, List.setIfInBounds_toArray, List.set_cons_zero, List.set_cons_succ]))
          iterate 9 (refine chain_off (by rfl) ?_; (try simp only [Act.put, List.setIfInBounds_toArray, List.set_cons_zero, List.set_cons_succ]))
          iterate 2 (refine chain_pure (by rfl) ?_; apply Exists.intro; apply And.intro; (case left => (intro w hSw; (try dsimp only at hSw); go_simp; try with_reducible rfl)); (try simp only [Act.put, List.setIfInBounds_toArray, List.set_cons_zero, List.set_cons_succ]))
          intro W hSW
          subst hSW
          go_wp2
          go_ret
          exact ⟨by rw [HF.out]; rfl, HBN.out.drew⟩
        have d5 : decide (px ≤ qx) = false := decide_eq_false h5
        by_cases h6 : py < qy
        · have HF := Lib.hid (show curveB s.l = false from curveB_false hkl (by
            rw [HOK.out, HPYY.out, HQY.out, show decide (qy ≤ py) = false by simp; omega]; simp))
          have d6 : decide (py < qy) = true := decide_eq_true h6
          clear hkl h5 h6
          go_wp2_with fail
          rw [← HW0.out]
          refine wp_region_head 24 (fun w' => w' = W0.drew) (by kernel_rfl) (by kernel_rfl) rfl ?_
          iterate 24 (refine chain_pure (by rfl) ?_; apply Exists.intro; apply And.intro; (case left => (intro w hSw; (try dsimp only at hSw); go_simp; try with_reducible rfl)); (try simp only [Act.put, List.setIfInBounds_toArray, List.set_cons_zero, List.set_cons_succ]))
          intro W hSW
          subst hSW
          go_wp2
          go_ret
          exact ⟨by rw [HF.out]; rfl, HBN.out.drew⟩
        have d6 : decide (py < qy) = false := decide_eq_false h6
        have HO := Lib.hid (show okP s.l (k + 1) = true by rw [HOK.out, HIN.out, HPXX.out, HQX.out, HPYY.out, HQY.out, show decide (qx < px) = true by simp; omega, show decide (qy ≤ py) = true by simp; omega]; rfl)
        clear hkl h5 h6
        go_wp2_with fail
        rw [← HW0.out]
        refine wp_region_head 24 (fun w' => w' = W0.drew) (by kernel_rfl) (by kernel_rfl) rfl ?_
        iterate 24 (refine chain_pure (by rfl) ?_; apply Exists.intro; apply And.intro; (case left => (intro w hSw; (try dsimp only at hSw); go_simp; try with_reducible rfl)); (try simp only [Act.put, List.setIfInBounds_toArray, List.set_cons_zero, List.set_cons_succ]))
        intro W hSW
        subst hSW
        go_wp2
        go_roundw
        case rel => exact ⟨k + 2, by omega, by go_num, HBN.out.drew, fun j hj => by
          by_cases hjk : j = k + 1
          · subst hjk; exact HO.out
          · exact HALL.out j (by omega)⟩
        case measure => simp [intOf]; omega
    · obtain rfl : k = n := by omega
      have HE := Lib.hid (show curveB s.l = (decide (0 < k) && decide (k ≤ 32)) by
        rw [curveB_end (fun j hj => HALL.out j (by rw [HLEN.out, HN.out] at hj; exact hj)), HLEN.out, HN.out])
      by_cases h7 : 0 < k
      · have h7i : (0 : Int) < (k : Int) := by omega
        go_wp2
        go_ret
        exact ⟨by rw [HE.out, decide_eq_true h7]; simp; omega, HB.out⟩
      · obtain rfl : k = 0 := by omega
        go_wp2
        go_ret
        exact ⟨by rw [HE.out]; simp, HB.out⟩

end Go.Proofs.Ytmkbojhnbkdalaa
