/- The walk of basin's distinct. -/
import Derived.Test.YtmkbojhnbkdalaaBasL
import Derived.Test.YtmkbojhnbkdalaaBasH
import Derived.Test.YtmkbojhnbkdalaaRegionA
import Derived.Test.YtmkbojhnbkdalaaCallA
import Derived.Test.YtmkbojhnbkdalaaMapS
set_option linter.unusedSimpArgs false
set_option linter.unusedVariables false
namespace Go.Proofs.Ytmkbojhnbkdalaa
open Go.RowKit Go.Lib

def distinctB : List ByteArray → List ByteArray → Bool
  | _, [] => true
  | p, x :: r => !(p.contains x) && (nameB x && distinctB (p ++ [x]) r)
def seenF (l : List ByteArray) : ByteArray → Option Value := fun k => if l.contains k then some (.bool true) else none
theorem seenF_put (l : List ByteArray) (x : ByteArray) : putS (seenF l) x (.bool true) = seenF (l ++ [x]) := by
  funext k
  unfold putS seenF
  by_cases h : k = x
  · subst h; simp
  · simp [h]
theorem distinctB_drop {l : List ByteArray} {k : Nat} {x : ByteArray} (hx : l[k]? = some x) : distinctB (l.take k) (l.drop k) = (!((l.take k).contains x) && (nameB x && distinctB (l.take (k + 1)) (l.drop (k + 1)))) := by
  have hl := (List.getElem?_eq_some_iff.1 hx).1
  have hkx := (List.getElem?_eq_some_iff.1 hx).2
  rw [List.drop_eq_getElem_cons hl, hkx, List.take_succ_eq_append_getElem hl, hkx]
  rfl
theorem zero_bool (w : World) : (zeroValue 4).run Try.prog w = .ok (.bool false) w := by kernel_rfl

set_option maxRecDepth 100000 in
set_option maxHeartbeats 1000000 in
theorem distinct_any (s : SlR ByteArray) (w w0 : World) (B : Nat) (hM : SlR.Mem (Rw strC mem0) 1 w0 B s) (hw : Below B w0 w) (hB : B ≤ w.heap.size) (hs : s.n ≤ 100000) (hl : ∀ x ∈ s.l, x.size ≤ maxLen) :
    Calls Try.prog 35 #[.slice s.a s.n s.c] w fun e w' => e = .returned (.bool (distinctB [] s.l)) ∧ Below w.heap.size w w' := by
  have hmm := @run_makeMap Try.prog
  have HLEN := Lib.hid hM.len
  have HMM := Lib.hid hM
  have HW := Lib.hid hw
  have HL := Lib.hid hl
  obtain ⟨A, hA⟩ : ∃ A, s.a = A := ⟨_, rfl⟩
  obtain ⟨n, hn'⟩ : ∃ n, s.n = n := ⟨_, rfl⟩
  rw [hA, hn']
  rw [hn'] at hs
  have HA := Lib.hid hA
  have HN := Lib.hid hn'
  clear hM hw hA hn' hl
  obtain ⟨r0, hr0⟩ : ∃ r0, distinctB [] s.l = r0 := ⟨_, rfl⟩
  rw [hr0]
  have HR0 := Lib.hid hr0
  clear hr0
  go_enter Try.func35, Try.ntmps35
  go_wp2
  go_loopw [9] (fun i wr => ∃ k : Nat, k ≤ n ∧ i = .int .i64 (k : Int) ∧ distinctB (s.l.take k) (s.l.drop k) = r0 ∧ MpS wr w.heap.size (seenF (s.l.take k)) ∧ Below w.heap.size w wr) (fun i _ => n - (intOf i).toNat)
  case atStart => exact ⟨0, by omega, rfl, HR0.out, MpS.new w, (Below.refl _ _).alloc (Nat.le_refl _) _⟩
  case round =>
    obtain ⟨k, hk, rfl, hd, hm, hb⟩ := hrel
    have HB := Lib.hid hb
    have HM2 := Lib.hid hm
    have HD := Lib.hid hd
    have hsz := hb.size
    clear hb hm hd hmm
    by_cases hlt : k < n
    · have hk0 : (0 : Int) ≤ (k : Int) := by omega
      have hki : (k : Int) < (n : Int) := by omega
      obtain ⟨pb, po, x, hpa, hpb, hx, hmx, hc⟩ := HMM.out.at_ (k := k) (by rw [HN.out]; exact hlt)
      obtain rfl : A = some ⟨pb, po, none⟩ := HA.out.symm.trans hpa
      have hbw := HW.out.trans (HB.out.mono hB)
      have e0 := hc wr hbw 0 _ rfl
      simp only [Nat.add_zero, Nat.mul_one] at e0
      have HX := Lib.hid (HL.out x (List.mem_iff_getElem?.2 ⟨k, hx⟩))
      have HST := Lib.hid (distinctB_drop hx)
      have HTK := Lib.hid (show s.l.take (k + 1) = s.l.take k ++ [x] by
        rw [List.take_succ_eq_append_getElem (List.getElem?_eq_some_iff.1 hx).1, (List.getElem?_eq_some_iff.1 hx).2])
      cases hc2 : (s.l.take k).contains x with
      | true =>
        have HLK := Lib.hid (show ∀ w', (MpS w' w.heap.size (seenF (s.l.take k)) ∧ Below w.heap.size w w') → (Instr.lookup 138 (.map (some w.heap.size)) (.string x) false).run Try.prog w' = .ok (.bool true) w' from fun w' h => by
          have := h.1.run_lookup (P := Try.prog) (t := 138) Try.underlying138 Try.underlying9 (zero_bool _) x false
          rw [show seenF (s.l.take k) x = some (.bool true) by unfold seenF; rw [hc2]; rfl] at this
          exact this)
        have HRR := Lib.hid (show r0 = false by rw [← HD.out, HST.out, hc2]; rfl)
        clear hpa hbw hx hc hmx hc2
        have hl := HLK.out wr ⟨HM2.out, HB.out⟩
        go_wp2_with fail
        go_ret
        exact ⟨by rw [HRR.out]; rfl, HB.out⟩
      | false =>
        have HLK := Lib.hid (show ∀ w', (MpS w' w.heap.size (seenF (s.l.take k)) ∧ Below w.heap.size w w') → (Instr.lookup 138 (.map (some w.heap.size)) (.string x) false).run Try.prog w' = .ok (.bool false) w' from fun w' h => by
          have := h.1.run_lookup (P := Try.prog) (t := 138) Try.underlying138 Try.underlying9 (zero_bool _) x false
          rw [show seenF (s.l.take k) x = none by unfold seenF; rw [hc2]; rfl] at this
          exact this)
        have HRR := Lib.hid (show r0 = (nameB x && distinctB (s.l.take (k + 1)) (s.l.drop (k + 1))) by rw [← HD.out, HST.out, hc2]; rfl)
        clear hpa hbw hx hc hmx hc2
        have hl := HLK.out wr ⟨HM2.out, HB.out⟩
        go_wp2_with fail
        clear hl
        refine (isName_any x _ HX.out).mono ?_
        rintro e W ⟨rfl, hbb⟩
        have HSW := Lib.hid (show MpS W w.heap.size (seenF (s.l.take k)) ∧ Below w.heap.size w W from ⟨HM2.out.below hbb HM2.out.lt, HB.out.trans (hbb.mono hsz)⟩)
        clear hbb
        obtain ⟨bn, hbn⟩ : ∃ bn, nameB x = bn := ⟨_, rfl⟩
        rw [hbn] at HRR ⊢
        clear hbn
        cases bn with
        | false =>
          go_wp2_with fail
          go_ret
          exact ⟨by rw [HRR.out]; rfl, HSW.out.2⟩
        | true =>
          obtain ⟨w2, hup, hput⟩ := HSW.out.1.run_update (P := Try.prog) (t := 138) Try.underlying138 Try.underlying9 x (.bool true)
          have HPUT := Lib.hid hput
          clear hput
          go_wp2_with fail
          go_roundw
          case rel =>
            have hb2 : Below w.heap.size w w2 := ⟨HPUT.out.os.trans HSW.out.2.os, HPUT.out.tape.trans HSW.out.2.tape, HPUT.out.output.trans HSW.out.2.output, Nat.le_trans HSW.out.2.size (Nat.le_of_eq HPUT.out.size.symm), fun j hj => (HPUT.out.block j (by omega)).trans (HSW.out.2.block j hj)⟩
            have hm2 := HPUT.out.map
            rw [seenF_put, ← HTK.out] at hm2
            exact ⟨k + 1, by omega, by go_num, by rw [HRR.out]; simp, hm2, hb2⟩
          case measure => simp [intOf]; omega
    · obtain rfl : k = n := by omega
      have HRR := Lib.hid (show r0 = true by
        rw [← HD.out, List.drop_of_length_le (by rw [HLEN.out, HN.out]; exact Nat.le_refl _)]; rfl)
      go_wp2
      go_ret
      exact ⟨by rw [HRR.out]; rfl, HB.out⟩

end Go.Proofs.Ytmkbojhnbkdalaa
