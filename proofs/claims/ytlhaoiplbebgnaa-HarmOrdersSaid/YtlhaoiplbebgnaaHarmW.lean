/- Law HarmWorst: the walk. -/
import Derived.Test.YtlhaoiplbebgnaaHarmG
import Derived.Test.YtlhaoiplbebgnaaHarmP
import Derived.Laws.AppendOwnNone
set_option linter.unusedSimpArgs false
set_option linter.unusedVariables false
namespace Go.Proofs.Ytlhaoiplbebgnaa
open Go.RowKit

theorem oneC (l : List Hm) : ∀ u ∈ l.flatMap harmC, u.oneCell' = true := by
  intro u hu
  obtain ⟨x, _, hx⟩ := List.mem_flatMap.1 hu
  simp [harmC] at hx
  rcases hx with rfl | rfl | rfl | rfl <;> rfl
theorem info_harm : (Try.prog.info? 61).map (fun i => (i.zero, i.size, i.bytes)) = some (some (.agg #[.int .i64 0, .int .i64 0, .int .i64 0, .int .i64 0]), 4, 32) := by kernel_rfl

def FoundP (f : Bool) (n : Nat) (l : List Hm) (k : Nat) (m : Hm) : Prop := f = true ↔ (n = 0 ∨ ∃ y ∈ l.take k, y = m)
structure WInv (w1 wr : World) (m : Hm) (n : Nat) (l : List Hm) (k : Nat) (v6 : Value) (f : Bool) : Prop where
  below : Below w1.heap.size w1 wr
  own : wr.ownsRow w1.heap.size 61 4 v6 k ((l.take k).reverse.flatMap harmC)
  found : FoundP f n l k m

set_option maxRecDepth 100000 in
set_option maxHeartbeats 8000000 in
theorem harmWorst_in (A : Option Addr) (n cap : Nat) (l : List Hm) (w : World) (hn : n ≤ 10) (hs : Sl (Pl harmC) 4 w w.heap.size A n l) :
    Calls Try.prog 11 #[.slice A n cap] w fun e w' => e = .returned (.bool true) ∧ Below w.heap.size w w' := by
  obtain ⟨i0, ti0, ti1, ti2, ti3⟩ := info_parts info_harm
  go_enter Try.func11, Try.ntmps11
  go_wp2_with fail
  refine (small33_any _).mono ?_
  rintro e wa ⟨rfl, hba⟩
  have hsa := hs.keep (Pl.lasts _) hba hba.size
  have hll : l.length = n := hs.1
  clear hs
  go_wp2_with fail
  refine (worst_any A n cap l _ (by unfold maxLen; omega) hsa).mono ?_
  rintro e wb ⟨rfl, hbb⟩
  have hsb := hsa.keep (Pl.lasts _) hbb hbb.size
  have hbw := hba.trans (hbb.mono hba.size)
  obtain ⟨m, hm⟩ : ∃ m, m = worstL l := ⟨_, rfl⟩
  rw [← hm]
  simp only [harmC]
  have hbX := Bk.new wb 61 #[.int .i64 m.fl, .int .i64 m.sp, .int .i64 m.sh, .int .i64 m.mv]
  have hs1 := hsb.keep (Pl.lasts _) ((Below.refl _ _).alloc (Nat.le_refl _) (.cells #[.int .i64 m.fl, .int .i64 m.sp, .int .i64 m.sh, .int .i64 m.mv] 61)) (by simp : wb.heap.size ≤ (wb.alloc (.cells #[.int .i64 m.fl, .int .i64 m.sp, .int .i64 m.sh, .int .i64 m.mv] 61)).heap.size)
  have hbw1 : Below w.heap.size w (wb.alloc (.cells #[.int .i64 m.fl, .int .i64 m.sp, .int .i64 m.sh, .int .i64 m.mv] 61)) := hbw.alloc hbw.size _
  have HM := Lib.hid hm
  have HLL := Lib.hid hll
  clear hsa hsb hba hbb hbw hm hll
  have HST : Hid (∀ f, (f = true ↔ n = 0) → WInv (wb.alloc (.cells #[.int .i64 m.fl, .int .i64 m.sp, .int .i64 m.sh, .int .i64 m.mv] 61)) (wb.alloc (.cells #[.int .i64 m.fl, .int .i64 m.sp, .int .i64 m.sh, .int .i64 m.mv] 61)) m n l 0 (.slice none 0 0) f) := fun f hf =>
    ⟨Below.refl _ _, World.ownsRow_nil _ _ _ _, by unfold FoundP; rw [hf]; simp⟩
  obtain ⟨w1, hw1⟩ : ∃ w1, w1 = wb.alloc (.cells #[.int .i64 m.fl, .int .i64 m.sp, .int .i64 m.sh, .int .i64 m.mv] 61) := ⟨_, rfl⟩
  obtain ⟨X, hX⟩ : ∃ X, X = wb.heap.size := ⟨_, rfl⟩
  rw [← hw1] at hs1 hbw1 hbX HST
  rw [← hX] at hbX
  have hXl := hbX.lt
  have HBX := Lib.hid hbX
  have HBW1 := Lib.hid hbw1
  have HX := Lib.hid hX
  have HW1 := Lib.hid hw1
  have cX0 := hbX.cell
  clear hbX hbw1 hX hw1
  by_cases hn0 : n = 0
  · subst hn0
    have hl0 : l = [] := List.length_eq_zero_iff.1 HLL.out
    subst hl0
    have hm0 : m = ⟨0, 0, 0, 0⟩ := HM.out
    subst hm0
    go_wp2_with fail
    rw [← HW1.out, ← HX.out]
    go_loopw [5, 6, 7] (fun v5 v6 v7 wr => v5 = .bool true ∧ v6 = .slice none 0 0 ∧ v7 = .int .i64 0 ∧ wr = w1) (fun _ _ _ _ => 0)
    case atStart => exact ⟨rfl, rfl, rfl, rfl⟩
    case round =>
      obtain ⟨rfl, rfl, rfl, rfl⟩ := hrel
      go_wp2_with fail
      refine wp_region_M [0, 1, 2, 3, 4, 5, 7, 6, 8, 9, 10] [6] (fun w' => ∀ j, w'.cell? ⟨X, j, none⟩ = #[.int .i64 0, .int .i64 0, .int .i64 0, .int .i64 0][j]?) (by kernel_rfl) (by kernel_rfl) cX0 ?_
      iterate 7 (refine M_pure (by rfl) (by rfl) ?_; apply Exists.intro; apply And.intro; (case left => (intro w hSw; (try dsimp only at hSw); go_simp; try with_reducible rfl)); (try simp only [Act.put, List.setIfInBounds_toArray, List.set_cons_zero, List.set_cons_succ]))
      (refine M_call (by rfl) (by rfl) ?_; apply Exists.intro; apply Exists.intro; apply And.intro; (case left => (go_simp; first | exact ⟨rfl, rfl⟩ | rfl)))
      refine (worst_any none 0 0 [] _ (by decide) (Sl.nil_ _ _ _ _ _)).mono ?_
      rintro e W ⟨rfl, hbz⟩
      rw [show worstL [] = ⟨0, 0, 0, 0⟩ from rfl]
      have HBZ := Lib.hid (show Below wr.heap.size wr W from (Below.refl _ _).drew.trans hbz)
      have HCZ := Lib.hid (HBX.out.below HBZ.out hXl).cell
      clear hbz
      refine ⟨_, rfl, HCZ.out, ?_⟩
      simp only [harmC]
      (try simp only [Act.put, List.setIfInBounds_toArray, List.set_cons_zero, List.set_cons_succ])
      iterate 3 (refine M_pure (by rfl) (by rfl) ?_; apply Exists.intro; apply And.intro; (case left => (intro w hSw; (try dsimp only at hSw); go_simp; try with_reducible rfl)); (try simp only [Act.put, List.setIfInBounds_toArray, List.set_cons_zero, List.set_cons_succ]))
      refine M_nil ?_
      try dsimp only
      go_wp2
      go_ret
      exact ⟨rfl, HBW1.out.trans (HBZ.out.mono HBW1.out.size)⟩
  · have hnb : ((n : Int) == 0) = false := by simp; omega
    have hne : l ≠ [] := fun h => by have := HLL.out; rw [h] at this; exact hn0 this.symm
    have hmem : m ∈ l ∧ ∀ y ∈ l, ¬ ltH m y := by rw [HM.out]; exact worst_spec hne
    have HMEM := Lib.hid hmem
    have hst := HST.out false (by simp [hn0])
    have HS0 := Lib.hid hst
    have HN0 := Lib.hid hn0
    clear hmem hst hne hn0 cX0
    go_wp2_with fail
    rw [← HW1.out, ← HX.out]
    go_loopw [5, 6, 7] (fun v5 v6 v7 wr => ∃ (k : Nat) (f : Bool), k ≤ n ∧ v7 = .int .i64 (k : Int) ∧ v5 = .bool f ∧ WInv w1 wr m n l k v6 f) (fun _ _ v7 _ => n - (intOf v7).toNat)
    case atStart => exact ⟨0, false, Nat.zero_le _, rfl, rfl, HS0.out⟩
    case round =>
      obtain ⟨k, f, hk, rfl, rfl, hb, ho, hf⟩ := hrel
      obtain ⟨wo, rfl⟩ : ∃ wo : World, wo = wr := ⟨_, rfl⟩
      have HB := Lib.hid hb
      have HO := Lib.hid ho
      have HF := Lib.hid hf
      clear hb ho hf
      by_cases hlt : k < n
      · obtain ⟨b1, o1, y, rfl, hl1, hy, hc⟩ := hs1.at_ hlt
        have hK : ∀ W, Below wo.heap.size wo W → ((∀ j, W.cell? ⟨X, j, none⟩ = #[.int .i64 m.fl, .int .i64 m.sp, .int .i64 m.sh, .int .i64 m.mv][j]?) ∧ W.cell? ⟨b1, o1 + k * 4, none⟩ = some (.int .i64 y.fl) ∧ W.cell? ⟨b1, o1 + k * 4 + 1, none⟩ = some (.int .i64 y.sp) ∧ W.cell? ⟨b1, o1 + k * 4 + 2, none⟩ = some (.int .i64 y.sh) ∧ W.cell? ⟨b1, o1 + k * 4 + 3, none⟩ = some (.int .i64 y.mv)) := fun W h => by
          have hB := HB.out.trans (h.mono HB.out.size)
          exact ⟨(HBX.out.below hB hXl).cell, hc W hB 0 _ rfl, hc W hB 1 _ rfl, hc W hB 2 _ rfl, hc W hB 3 _ rfl⟩
        have HK := Lib.hid hK
        have HD := Lib.hid (show Below wo.heap.size wo wo.drew from (Below.refl _ _).drew)
        have HD2 := Lib.hid (show Below wo.heap.size wo wo.drew.drew from (Below.refl _ _).drew.drew)
        have HTK := Lib.hid (take_snocH hy)
        have hyl := List.mem_of_getElem? hy
        have HLF := Lib.hid ((lessB_false m y).2 (HMEM.out.2 y hyl))
        have hkn : (k : Int) < (n : Int) := by omega
        have hk0 : (0 : Int) ≤ (k : Int) := by omega
        clear hc hK hy hyl
        cases f with
        | true =>
          have hpf : FoundP true n l (k + 1) m := by
            refine ⟨fun _ => ?_, fun _ => rfl⟩
            rcases HF.out.1 rfl with h | ⟨z, hz, he⟩
            · exact .inl h
            · exact .inr ⟨z, by rw [HTK.out]; exact List.mem_append_left _ hz, he⟩
          have HPF := Lib.hid hpf
          clear hpf
          go_wp2_with fail
          refine wp_region_M [0, 1, 2, 3, 4, 5, 6, 7, 8, 9] [] (fun w' => (∀ j, w'.cell? ⟨X, j, none⟩ = #[.int .i64 m.fl, .int .i64 m.sp, .int .i64 m.sh, .int .i64 m.mv][j]?) ∧ w'.cell? ⟨b1, o1 + k * 4, none⟩ = some (.int .i64 y.fl) ∧ w'.cell? ⟨b1, o1 + k * 4 + 1, none⟩ = some (.int .i64 y.sp) ∧ w'.cell? ⟨b1, o1 + k * 4 + 2, none⟩ = some (.int .i64 y.sh) ∧ w'.cell? ⟨b1, o1 + k * 4 + 3, none⟩ = some (.int .i64 y.mv)) (by kernel_rfl) (by kernel_rfl) (HK.out _ HD.out) ?_
          iterate 2 (refine M_pure (by rfl) (by rfl) ?_; apply Exists.intro; apply And.intro; (case left => (intro w hSw; (try dsimp only at hSw); go_simp; try with_reducible rfl)); (try simp only [Act.put, List.setIfInBounds_toArray, List.set_cons_zero, List.set_cons_succ]))
          iterate 6 (refine M_off (by rfl) (by rfl) ?_; (try simp only [Act.put, List.setIfInBounds_toArray, List.set_cons_zero, List.set_cons_succ]))
          iterate 2 (refine M_pure (by rfl) (by rfl) ?_; apply Exists.intro; apply And.intro; (case left => (intro w hSw; (try dsimp only at hSw); go_simp; try with_reducible rfl)); (try simp only [Act.put, List.setIfInBounds_toArray, List.set_cons_zero, List.set_cons_succ]))
          refine M_nil ?_
          try dsimp only
          go_wp2_with fail
          refine wp_region_M [0, 1, 2, 3, 4, 5] [5] (fun w' => (∀ j, w'.cell? ⟨X, j, none⟩ = #[.int .i64 m.fl, .int .i64 m.sp, .int .i64 m.sh, .int .i64 m.mv][j]?) ∧ w'.cell? ⟨b1, o1 + k * 4, none⟩ = some (.int .i64 y.fl) ∧ w'.cell? ⟨b1, o1 + k * 4 + 1, none⟩ = some (.int .i64 y.sp) ∧ w'.cell? ⟨b1, o1 + k * 4 + 2, none⟩ = some (.int .i64 y.sh) ∧ w'.cell? ⟨b1, o1 + k * 4 + 3, none⟩ = some (.int .i64 y.mv)) (by kernel_rfl) (by kernel_rfl) (HK.out _ HD2.out) ?_
          iterate 5 (refine M_pure (by rfl) (by rfl) ?_; apply Exists.intro; apply And.intro; (case left => (intro w hSw; (try dsimp only at hSw); go_simp; try with_reducible rfl)); (try simp only [Act.put, List.setIfInBounds_toArray, List.set_cons_zero, List.set_cons_succ]))
          (refine M_call (by rfl) (by rfl) ?_; apply Exists.intro; apply Exists.intro; apply And.intro; (case left => (go_simp; first | exact ⟨rfl, rfl⟩ | rfl)))
          refine (less_any m y _).mono ?_
          rintro e W ⟨rfl, hbW⟩
          rw [HLF.out]
          have HBW := Lib.hid (HD2.out.trans (hbW.mono HD2.out.size))
          clear hbW
          refine ⟨_, rfl, HK.out W HBW.out, ?_⟩
          (try simp only [Act.put, List.setIfInBounds_toArray, List.set_cons_zero, List.set_cons_succ])
          refine M_nil ?_
          try dsimp only
          obtain ⟨cX, y0, y1, y2, y3⟩ := HK.out W HBW.out
          have hoW := own_below HO.out (HBW.out.mono (Nat.le_refl _))
          have HOW := Lib.hid hoW
          clear hoW
          rcases HO.out.2 with ⟨hv6, hk00⟩ | ⟨g, cap6, cur, hv6, hg6, _⟩
          · subst hv6
            have hk0' : k = 0 := hk00
            subst hk0'
            have hlit := World.ownsRow_lit (base := w1.heap.size) (e := 61) (size := 4) W (harmC y).toArray 1 (by have := HBW.out.size; have := HB.out.size; omega) (by decide) (by simp [harmC])
            have HLIT := Lib.hid hlit
            clear hlit
            simp only [Nat.zero_mul, Nat.add_zero] at y0 y1 y2 y3
            go_wp2_with (at_builtin; go_must (refine wpList_append_own_none rfl (.tmp 48) (.tmp 49) _ rfl w1.heap.size 61 i0 4 Try.underlying59 ti0 (.slice (some ⟨W.heap.size, 0, none⟩) 1 1) 1 (harmC y) rfl HLIT.out rfl ?_))
            have hfin : Hid (∃ (k' : Nat) (f' : Bool), k' ≤ n ∧ Value.int .i64 (0 + 1) = .int .i64 (k' : Int) ∧ Value.bool true = .bool f' ∧ WInv w1 (W.alloc (.cells (harmC y).toArray 61)) m n l k' (.slice (some ⟨W.heap.size, 0, none⟩) 1 1) f') :=
              ⟨0 + 1, true, by omega, rfl, rfl, (HB.out.trans (HBW.out.mono HB.out.size)).alloc (by have := HBW.out.size; have := HB.out.size; omega) _, by rw [HTK.out]; simpa using HLIT.out, HPF.out⟩
            clear cX y0 y1 y2 y3
            go_wp2
            go_roundw
            case rel => exact hfin.out
            case measure => simp [intOf]; omega
          · subst hv6
            have hlit := World.ownsRow_lit (base := w1.heap.size) (e := 61) (size := 4) W (harmC y).toArray 1 (by have := HBW.out.size; have := HB.out.size; omega) (by decide) (by simp [harmC])
            have HLIT := Lib.hid hlit
            have hnews : ∀ j u, ((l.take k).reverse.flatMap harmC)[j]? = some u → (W.alloc (.cells (harmC y).toArray 61)).cell? ((⟨g, 0, none⟩ : Addr).add j) = some u := (HOW.out.alloc _).cells (g := g) rfl
            have HNEWS := Lib.hid hnews
            have hlen : ((l.take k).reverse.flatMap harmC).length = k * 4 := HO.out.1
            have HLEN := Lib.hid hlen
            clear hlit hnews hlen
            go_wp2_with (at_builtin; go_must (refine wpList_append_own _ rfl (.tmp 48) (.tmp 49) _ rfl w1.heap.size 61 i0 (.agg #[.int .i64 0, .int .i64 0, .int .i64 0, .int .i64 0]) 4 32 Try.underlying59 ti0 ti1 ti2 ti3 rfl (by decide) (.slice (some ⟨W.heap.size, 0, none⟩) 1 1) 1 (harmC y) rfl HLIT.out ⟨g, 0, none⟩ k cap6 ((l.take k).reverse.flatMap harmC) rfl HLEN.out HNEWS.out (oneC _) (by unfold maxLen; omega) (by omega) ?c5 ?_))
            case c5 => have := HBW.out.size; have := HB.out.size; (try simp); omega
            intro v2 w2 hown2 hg2 _
            have hfin : Hid (∃ (k' : Nat) (f' : Bool), k' ≤ n ∧ Value.int .i64 ((k : Int) + 1) = .int .i64 (k' : Int) ∧ Value.bool true = .bool f' ∧ WInv w1 w2 m n l k' v2 f') :=
              ⟨k + 1, true, by omega, by go_num, rfl, ((HB.out.trans (HBW.out.mono HB.out.size)).alloc (by have := HBW.out.size; have := HB.out.size; omega) _).grown hg2 (by simp; have := HBW.out.size; have := HB.out.size; omega) (fun j hj => by injection hj with hj; have := HBW.out.size; have := HB.out.size; have : j = W.heap.size := hj.symm; omega), by
                rw [HTK.out, List.reverse_append, List.flatMap_append, Nat.add_comm k 1]
                simpa using hown2, HPF.out⟩
            clear cX y0 y1 y2 y3 hown2 hg2
            go_wp2
            go_roundw
            case rel => exact hfin.out
            case measure => simp [intOf]; omega
        | false =>
          rcases ways5 y m with ⟨h1, h2, h3, h4, h5⟩ | ⟨h5, h1 | ⟨h1, h2⟩ | ⟨h1, h2, h3⟩ | ⟨h1, h2, h3, h4⟩⟩
          · have q1 : (y.fl == m.fl) = true := by simp [h1]
            have q2 : (y.sp == m.sp) = true := by simp [h2]
            have q3 : (y.sh == m.sh) = true := by simp [h3]
            have q4 : (y.mv == m.mv) = true := by simp [h4]
            have hpf : FoundP true n l (k + 1) m :=
              ⟨fun _ => .inr ⟨y, by rw [HTK.out]; exact List.mem_append_right _ (List.mem_singleton.2 rfl), h5⟩, fun _ => rfl⟩
            have HPF := Lib.hid hpf
            clear hpf h1 h2 h3 h4 h5
            go_wp2_with fail
            refine wp_region_M [0, 1, 2, 3, 4, 5, 6, 7, 8, 9] [] (fun w' => (∀ j, w'.cell? ⟨X, j, none⟩ = #[.int .i64 m.fl, .int .i64 m.sp, .int .i64 m.sh, .int .i64 m.mv][j]?) ∧ w'.cell? ⟨b1, o1 + k * 4, none⟩ = some (.int .i64 y.fl) ∧ w'.cell? ⟨b1, o1 + k * 4 + 1, none⟩ = some (.int .i64 y.sp) ∧ w'.cell? ⟨b1, o1 + k * 4 + 2, none⟩ = some (.int .i64 y.sh) ∧ w'.cell? ⟨b1, o1 + k * 4 + 3, none⟩ = some (.int .i64 y.mv)) (by kernel_rfl) (by kernel_rfl) (HK.out _ HD.out) ?_
            iterate 10 (refine M_pure (by rfl) (by rfl) ?_; apply Exists.intro; apply And.intro; (case left => (intro w hSw; (try dsimp only at hSw); go_simp; try with_reducible rfl)); (try simp only [Act.put, List.setIfInBounds_toArray, List.set_cons_zero, List.set_cons_succ]))
            refine M_nil ?_
            try dsimp only
            go_wp2_with fail
            refine wp_region_M [0, 1, 2, 3, 4, 5] [5] (fun w' => (∀ j, w'.cell? ⟨X, j, none⟩ = #[.int .i64 m.fl, .int .i64 m.sp, .int .i64 m.sh, .int .i64 m.mv][j]?) ∧ w'.cell? ⟨b1, o1 + k * 4, none⟩ = some (.int .i64 y.fl) ∧ w'.cell? ⟨b1, o1 + k * 4 + 1, none⟩ = some (.int .i64 y.sp) ∧ w'.cell? ⟨b1, o1 + k * 4 + 2, none⟩ = some (.int .i64 y.sh) ∧ w'.cell? ⟨b1, o1 + k * 4 + 3, none⟩ = some (.int .i64 y.mv)) (by kernel_rfl) (by kernel_rfl) (HK.out _ HD2.out) ?_
            iterate 5 (refine M_pure (by rfl) (by rfl) ?_; apply Exists.intro; apply And.intro; (case left => (intro w hSw; (try dsimp only at hSw); go_simp; try with_reducible rfl)); (try simp only [Act.put, List.setIfInBounds_toArray, List.set_cons_zero, List.set_cons_succ]))
            (refine M_call (by rfl) (by rfl) ?_; apply Exists.intro; apply Exists.intro; apply And.intro; (case left => (go_simp; first | exact ⟨rfl, rfl⟩ | rfl)))
            refine (less_any m y _).mono ?_
            rintro e W ⟨rfl, hbW⟩
            rw [HLF.out]
            have HBW := Lib.hid (HD2.out.trans (hbW.mono HD2.out.size))
            clear hbW
            refine ⟨_, rfl, HK.out W HBW.out, ?_⟩
            (try simp only [Act.put, List.setIfInBounds_toArray, List.set_cons_zero, List.set_cons_succ])
            refine M_nil ?_
            try dsimp only
            obtain ⟨cX, y0, y1, y2, y3⟩ := HK.out W HBW.out
            have hoW := own_below HO.out (HBW.out.mono (Nat.le_refl _))
            have HOW := Lib.hid hoW
            clear hoW
            rcases HO.out.2 with ⟨hv6, hk00⟩ | ⟨g, cap6, cur, hv6, hg6, _⟩
            · subst hv6
              have hk0' : k = 0 := hk00
              subst hk0'
              have hlit := World.ownsRow_lit (base := w1.heap.size) (e := 61) (size := 4) W (harmC y).toArray 1 (by have := HBW.out.size; have := HB.out.size; omega) (by decide) (by simp [harmC])
              have HLIT := Lib.hid hlit
              clear hlit
              simp only [Nat.zero_mul, Nat.add_zero] at y0 y1 y2 y3
              go_wp2_with (at_builtin; go_must (refine wpList_append_own_none rfl (.tmp 48) (.tmp 49) _ rfl w1.heap.size 61 i0 4 Try.underlying59 ti0 (.slice (some ⟨W.heap.size, 0, none⟩) 1 1) 1 (harmC y) rfl HLIT.out rfl ?_))
              have hfin : Hid (∃ (k' : Nat) (f' : Bool), k' ≤ n ∧ Value.int .i64 (0 + 1) = .int .i64 (k' : Int) ∧ Value.bool true = .bool f' ∧ WInv w1 (W.alloc (.cells (harmC y).toArray 61)) m n l k' (.slice (some ⟨W.heap.size, 0, none⟩) 1 1) f') :=
                ⟨0 + 1, true, by omega, rfl, rfl, (HB.out.trans (HBW.out.mono HB.out.size)).alloc (by have := HBW.out.size; have := HB.out.size; omega) _, by rw [HTK.out]; simpa using HLIT.out, HPF.out⟩
              clear cX y0 y1 y2 y3
              go_wp2
              go_roundw
              case rel => exact hfin.out
              case measure => simp [intOf]; omega
            · subst hv6
              have hlit := World.ownsRow_lit (base := w1.heap.size) (e := 61) (size := 4) W (harmC y).toArray 1 (by have := HBW.out.size; have := HB.out.size; omega) (by decide) (by simp [harmC])
              have HLIT := Lib.hid hlit
              have hnews : ∀ j u, ((l.take k).reverse.flatMap harmC)[j]? = some u → (W.alloc (.cells (harmC y).toArray 61)).cell? ((⟨g, 0, none⟩ : Addr).add j) = some u := (HOW.out.alloc _).cells (g := g) rfl
              have HNEWS := Lib.hid hnews
              have hlen : ((l.take k).reverse.flatMap harmC).length = k * 4 := HO.out.1
              have HLEN := Lib.hid hlen
              clear hlit hnews hlen
              go_wp2_with (at_builtin; go_must (refine wpList_append_own _ rfl (.tmp 48) (.tmp 49) _ rfl w1.heap.size 61 i0 (.agg #[.int .i64 0, .int .i64 0, .int .i64 0, .int .i64 0]) 4 32 Try.underlying59 ti0 ti1 ti2 ti3 rfl (by decide) (.slice (some ⟨W.heap.size, 0, none⟩) 1 1) 1 (harmC y) rfl HLIT.out ⟨g, 0, none⟩ k cap6 ((l.take k).reverse.flatMap harmC) rfl HLEN.out HNEWS.out (oneC _) (by unfold maxLen; omega) (by omega) ?c5 ?_))
              case c5 => have := HBW.out.size; have := HB.out.size; (try simp); omega
              intro v2 w2 hown2 hg2 _
              have hfin : Hid (∃ (k' : Nat) (f' : Bool), k' ≤ n ∧ Value.int .i64 ((k : Int) + 1) = .int .i64 (k' : Int) ∧ Value.bool true = .bool f' ∧ WInv w1 w2 m n l k' v2 f') :=
                ⟨k + 1, true, by omega, by go_num, rfl, ((HB.out.trans (HBW.out.mono HB.out.size)).alloc (by have := HBW.out.size; have := HB.out.size; omega) _).grown hg2 (by simp; have := HBW.out.size; have := HB.out.size; omega) (fun j hj => by injection hj with hj; have := HBW.out.size; have := HB.out.size; have : j = W.heap.size := hj.symm; omega), by
                  rw [HTK.out, List.reverse_append, List.flatMap_append, Nat.add_comm k 1]
                  simpa using hown2, HPF.out⟩
              clear cX y0 y1 y2 y3 hown2 hg2
              go_wp2
              go_roundw
              case rel => exact hfin.out
              case measure => simp [intOf]; omega
          all_goals
            have hpf : FoundP false n l (k + 1) m := by
              refine ⟨(fun h => by cases h), fun h => ?_⟩
              rcases h with h | ⟨z, hz, he⟩
              · exact HF.out.2 (.inl h)
              · rw [HTK.out] at hz
                rcases List.mem_append.1 hz with hz | hz
                · exact HF.out.2 (.inr ⟨z, hz, he⟩)
                · rw [List.mem_singleton.1 hz] at he
                  exact absurd he h5
            have HPF := Lib.hid hpf
            clear hpf h5
          · have q1 : (y.fl == m.fl) = false := by simp [h1]
            clear h1
            go_wp2_with fail
            refine wp_region_M [0, 1, 2, 3, 4, 5, 6, 7, 8, 9] [] (fun w' => (∀ j, w'.cell? ⟨X, j, none⟩ = #[.int .i64 m.fl, .int .i64 m.sp, .int .i64 m.sh, .int .i64 m.mv][j]?) ∧ w'.cell? ⟨b1, o1 + k * 4, none⟩ = some (.int .i64 y.fl) ∧ w'.cell? ⟨b1, o1 + k * 4 + 1, none⟩ = some (.int .i64 y.sp) ∧ w'.cell? ⟨b1, o1 + k * 4 + 2, none⟩ = some (.int .i64 y.sh) ∧ w'.cell? ⟨b1, o1 + k * 4 + 3, none⟩ = some (.int .i64 y.mv)) (by kernel_rfl) (by kernel_rfl) (HK.out _ HD.out) ?_
            iterate 10 (refine M_pure (by rfl) (by rfl) ?_; apply Exists.intro; apply And.intro; (case left => (intro w hSw; (try dsimp only at hSw); go_simp; try with_reducible rfl)); (try simp only [Act.put, List.setIfInBounds_toArray, List.set_cons_zero, List.set_cons_succ]))
            refine M_nil ?_
            try dsimp only
            go_wp2_with fail
            refine wp_region_M [0, 1, 2, 3, 4, 5] [5] (fun w' => (∀ j, w'.cell? ⟨X, j, none⟩ = #[.int .i64 m.fl, .int .i64 m.sp, .int .i64 m.sh, .int .i64 m.mv][j]?) ∧ w'.cell? ⟨b1, o1 + k * 4, none⟩ = some (.int .i64 y.fl) ∧ w'.cell? ⟨b1, o1 + k * 4 + 1, none⟩ = some (.int .i64 y.sp) ∧ w'.cell? ⟨b1, o1 + k * 4 + 2, none⟩ = some (.int .i64 y.sh) ∧ w'.cell? ⟨b1, o1 + k * 4 + 3, none⟩ = some (.int .i64 y.mv)) (by kernel_rfl) (by kernel_rfl) (HK.out _ HD2.out) ?_
            iterate 5 (refine M_pure (by rfl) (by rfl) ?_; apply Exists.intro; apply And.intro; (case left => (intro w hSw; (try dsimp only at hSw); go_simp; try with_reducible rfl)); (try simp only [Act.put, List.setIfInBounds_toArray, List.set_cons_zero, List.set_cons_succ]))
            (refine M_call (by rfl) (by rfl) ?_; apply Exists.intro; apply Exists.intro; apply And.intro; (case left => (go_simp; first | exact ⟨rfl, rfl⟩ | rfl)))
            refine (less_any m y _).mono ?_
            rintro e W ⟨rfl, hbW⟩
            rw [HLF.out]
            have HBW := Lib.hid (HD2.out.trans (hbW.mono HD2.out.size))
            clear hbW
            refine ⟨_, rfl, HK.out W HBW.out, ?_⟩
            (try simp only [Act.put, List.setIfInBounds_toArray, List.set_cons_zero, List.set_cons_succ])
            refine M_nil ?_
            try dsimp only
            obtain ⟨cX, y0, y1, y2, y3⟩ := HK.out W HBW.out
            have hoW := own_below HO.out (HBW.out.mono (Nat.le_refl _))
            have HOW := Lib.hid hoW
            clear hoW
            rcases HO.out.2 with ⟨hv6, hk00⟩ | ⟨g, cap6, cur, hv6, hg6, _⟩
            · subst hv6
              have hk0' : k = 0 := hk00
              subst hk0'
              have hlit := World.ownsRow_lit (base := w1.heap.size) (e := 61) (size := 4) W (harmC y).toArray 1 (by have := HBW.out.size; have := HB.out.size; omega) (by decide) (by simp [harmC])
              have HLIT := Lib.hid hlit
              clear hlit
              simp only [Nat.zero_mul, Nat.add_zero] at y0 y1 y2 y3
              go_wp2_with (at_builtin; go_must (refine wpList_append_own_none rfl (.tmp 48) (.tmp 49) _ rfl w1.heap.size 61 i0 4 Try.underlying59 ti0 (.slice (some ⟨W.heap.size, 0, none⟩) 1 1) 1 (harmC y) rfl HLIT.out rfl ?_))
              have hfin : Hid (∃ (k' : Nat) (f' : Bool), k' ≤ n ∧ Value.int .i64 (0 + 1) = .int .i64 (k' : Int) ∧ Value.bool false = .bool f' ∧ WInv w1 (W.alloc (.cells (harmC y).toArray 61)) m n l k' (.slice (some ⟨W.heap.size, 0, none⟩) 1 1) f') :=
                ⟨0 + 1, false, by omega, rfl, rfl, (HB.out.trans (HBW.out.mono HB.out.size)).alloc (by have := HBW.out.size; have := HB.out.size; omega) _, by rw [HTK.out]; simpa using HLIT.out, HPF.out⟩
              clear cX y0 y1 y2 y3
              go_wp2
              go_roundw
              case rel => exact hfin.out
              case measure => simp [intOf]; omega
            · subst hv6
              have hlit := World.ownsRow_lit (base := w1.heap.size) (e := 61) (size := 4) W (harmC y).toArray 1 (by have := HBW.out.size; have := HB.out.size; omega) (by decide) (by simp [harmC])
              have HLIT := Lib.hid hlit
              have hnews : ∀ j u, ((l.take k).reverse.flatMap harmC)[j]? = some u → (W.alloc (.cells (harmC y).toArray 61)).cell? ((⟨g, 0, none⟩ : Addr).add j) = some u := (HOW.out.alloc _).cells (g := g) rfl
              have HNEWS := Lib.hid hnews
              have hlen : ((l.take k).reverse.flatMap harmC).length = k * 4 := HO.out.1
              have HLEN := Lib.hid hlen
              clear hlit hnews hlen
              go_wp2_with (at_builtin; go_must (refine wpList_append_own _ rfl (.tmp 48) (.tmp 49) _ rfl w1.heap.size 61 i0 (.agg #[.int .i64 0, .int .i64 0, .int .i64 0, .int .i64 0]) 4 32 Try.underlying59 ti0 ti1 ti2 ti3 rfl (by decide) (.slice (some ⟨W.heap.size, 0, none⟩) 1 1) 1 (harmC y) rfl HLIT.out ⟨g, 0, none⟩ k cap6 ((l.take k).reverse.flatMap harmC) rfl HLEN.out HNEWS.out (oneC _) (by unfold maxLen; omega) (by omega) ?c5 ?_))
              case c5 => have := HBW.out.size; have := HB.out.size; (try simp); omega
              intro v2 w2 hown2 hg2 _
              have hfin : Hid (∃ (k' : Nat) (f' : Bool), k' ≤ n ∧ Value.int .i64 ((k : Int) + 1) = .int .i64 (k' : Int) ∧ Value.bool false = .bool f' ∧ WInv w1 w2 m n l k' v2 f') :=
                ⟨k + 1, false, by omega, by go_num, rfl, ((HB.out.trans (HBW.out.mono HB.out.size)).alloc (by have := HBW.out.size; have := HB.out.size; omega) _).grown hg2 (by simp; have := HBW.out.size; have := HB.out.size; omega) (fun j hj => by injection hj with hj; have := HBW.out.size; have := HB.out.size; have : j = W.heap.size := hj.symm; omega), by
                  rw [HTK.out, List.reverse_append, List.flatMap_append, Nat.add_comm k 1]
                  simpa using hown2, HPF.out⟩
              clear cX y0 y1 y2 y3 hown2 hg2
              go_wp2
              go_roundw
              case rel => exact hfin.out
              case measure => simp [intOf]; omega
          · have q1 : (y.fl == m.fl) = true := by simp [h1]
            have q2 : (y.sp == m.sp) = false := by simp [h2]
            clear h1 h2
            go_wp2_with fail
            refine wp_region_M [0, 1, 2, 3, 4, 5, 6, 7, 8, 9] [] (fun w' => (∀ j, w'.cell? ⟨X, j, none⟩ = #[.int .i64 m.fl, .int .i64 m.sp, .int .i64 m.sh, .int .i64 m.mv][j]?) ∧ w'.cell? ⟨b1, o1 + k * 4, none⟩ = some (.int .i64 y.fl) ∧ w'.cell? ⟨b1, o1 + k * 4 + 1, none⟩ = some (.int .i64 y.sp) ∧ w'.cell? ⟨b1, o1 + k * 4 + 2, none⟩ = some (.int .i64 y.sh) ∧ w'.cell? ⟨b1, o1 + k * 4 + 3, none⟩ = some (.int .i64 y.mv)) (by kernel_rfl) (by kernel_rfl) (HK.out _ HD.out) ?_
            iterate 10 (refine M_pure (by rfl) (by rfl) ?_; apply Exists.intro; apply And.intro; (case left => (intro w hSw; (try dsimp only at hSw); go_simp; try with_reducible rfl)); (try simp only [Act.put, List.setIfInBounds_toArray, List.set_cons_zero, List.set_cons_succ]))
            refine M_nil ?_
            try dsimp only
            go_wp2_with fail
            refine wp_region_M [0, 1, 2, 3, 4, 5] [5] (fun w' => (∀ j, w'.cell? ⟨X, j, none⟩ = #[.int .i64 m.fl, .int .i64 m.sp, .int .i64 m.sh, .int .i64 m.mv][j]?) ∧ w'.cell? ⟨b1, o1 + k * 4, none⟩ = some (.int .i64 y.fl) ∧ w'.cell? ⟨b1, o1 + k * 4 + 1, none⟩ = some (.int .i64 y.sp) ∧ w'.cell? ⟨b1, o1 + k * 4 + 2, none⟩ = some (.int .i64 y.sh) ∧ w'.cell? ⟨b1, o1 + k * 4 + 3, none⟩ = some (.int .i64 y.mv)) (by kernel_rfl) (by kernel_rfl) (HK.out _ HD2.out) ?_
            iterate 5 (refine M_pure (by rfl) (by rfl) ?_; apply Exists.intro; apply And.intro; (case left => (intro w hSw; (try dsimp only at hSw); go_simp; try with_reducible rfl)); (try simp only [Act.put, List.setIfInBounds_toArray, List.set_cons_zero, List.set_cons_succ]))
            (refine M_call (by rfl) (by rfl) ?_; apply Exists.intro; apply Exists.intro; apply And.intro; (case left => (go_simp; first | exact ⟨rfl, rfl⟩ | rfl)))
            refine (less_any m y _).mono ?_
            rintro e W ⟨rfl, hbW⟩
            rw [HLF.out]
            have HBW := Lib.hid (HD2.out.trans (hbW.mono HD2.out.size))
            clear hbW
            refine ⟨_, rfl, HK.out W HBW.out, ?_⟩
            (try simp only [Act.put, List.setIfInBounds_toArray, List.set_cons_zero, List.set_cons_succ])
            refine M_nil ?_
            try dsimp only
            obtain ⟨cX, y0, y1, y2, y3⟩ := HK.out W HBW.out
            have hoW := own_below HO.out (HBW.out.mono (Nat.le_refl _))
            have HOW := Lib.hid hoW
            clear hoW
            rcases HO.out.2 with ⟨hv6, hk00⟩ | ⟨g, cap6, cur, hv6, hg6, _⟩
            · subst hv6
              have hk0' : k = 0 := hk00
              subst hk0'
              have hlit := World.ownsRow_lit (base := w1.heap.size) (e := 61) (size := 4) W (harmC y).toArray 1 (by have := HBW.out.size; have := HB.out.size; omega) (by decide) (by simp [harmC])
              have HLIT := Lib.hid hlit
              clear hlit
              simp only [Nat.zero_mul, Nat.add_zero] at y0 y1 y2 y3
              go_wp2_with (at_builtin; go_must (refine wpList_append_own_none rfl (.tmp 48) (.tmp 49) _ rfl w1.heap.size 61 i0 4 Try.underlying59 ti0 (.slice (some ⟨W.heap.size, 0, none⟩) 1 1) 1 (harmC y) rfl HLIT.out rfl ?_))
              have hfin : Hid (∃ (k' : Nat) (f' : Bool), k' ≤ n ∧ Value.int .i64 (0 + 1) = .int .i64 (k' : Int) ∧ Value.bool false = .bool f' ∧ WInv w1 (W.alloc (.cells (harmC y).toArray 61)) m n l k' (.slice (some ⟨W.heap.size, 0, none⟩) 1 1) f') :=
                ⟨0 + 1, false, by omega, rfl, rfl, (HB.out.trans (HBW.out.mono HB.out.size)).alloc (by have := HBW.out.size; have := HB.out.size; omega) _, by rw [HTK.out]; simpa using HLIT.out, HPF.out⟩
              clear cX y0 y1 y2 y3
              go_wp2
              go_roundw
              case rel => exact hfin.out
              case measure => simp [intOf]; omega
            · subst hv6
              have hlit := World.ownsRow_lit (base := w1.heap.size) (e := 61) (size := 4) W (harmC y).toArray 1 (by have := HBW.out.size; have := HB.out.size; omega) (by decide) (by simp [harmC])
              have HLIT := Lib.hid hlit
              have hnews : ∀ j u, ((l.take k).reverse.flatMap harmC)[j]? = some u → (W.alloc (.cells (harmC y).toArray 61)).cell? ((⟨g, 0, none⟩ : Addr).add j) = some u := (HOW.out.alloc _).cells (g := g) rfl
              have HNEWS := Lib.hid hnews
              have hlen : ((l.take k).reverse.flatMap harmC).length = k * 4 := HO.out.1
              have HLEN := Lib.hid hlen
              clear hlit hnews hlen
              go_wp2_with (at_builtin; go_must (refine wpList_append_own _ rfl (.tmp 48) (.tmp 49) _ rfl w1.heap.size 61 i0 (.agg #[.int .i64 0, .int .i64 0, .int .i64 0, .int .i64 0]) 4 32 Try.underlying59 ti0 ti1 ti2 ti3 rfl (by decide) (.slice (some ⟨W.heap.size, 0, none⟩) 1 1) 1 (harmC y) rfl HLIT.out ⟨g, 0, none⟩ k cap6 ((l.take k).reverse.flatMap harmC) rfl HLEN.out HNEWS.out (oneC _) (by unfold maxLen; omega) (by omega) ?c5 ?_))
              case c5 => have := HBW.out.size; have := HB.out.size; (try simp); omega
              intro v2 w2 hown2 hg2 _
              have hfin : Hid (∃ (k' : Nat) (f' : Bool), k' ≤ n ∧ Value.int .i64 ((k : Int) + 1) = .int .i64 (k' : Int) ∧ Value.bool false = .bool f' ∧ WInv w1 w2 m n l k' v2 f') :=
                ⟨k + 1, false, by omega, by go_num, rfl, ((HB.out.trans (HBW.out.mono HB.out.size)).alloc (by have := HBW.out.size; have := HB.out.size; omega) _).grown hg2 (by simp; have := HBW.out.size; have := HB.out.size; omega) (fun j hj => by injection hj with hj; have := HBW.out.size; have := HB.out.size; have : j = W.heap.size := hj.symm; omega), by
                  rw [HTK.out, List.reverse_append, List.flatMap_append, Nat.add_comm k 1]
                  simpa using hown2, HPF.out⟩
              clear cX y0 y1 y2 y3 hown2 hg2
              go_wp2
              go_roundw
              case rel => exact hfin.out
              case measure => simp [intOf]; omega
          · have q1 : (y.fl == m.fl) = true := by simp [h1]
            have q2 : (y.sp == m.sp) = true := by simp [h2]
            have q3 : (y.sh == m.sh) = false := by simp [h3]
            clear h1 h2 h3
            go_wp2_with fail
            refine wp_region_M [0, 1, 2, 3, 4, 5, 6, 7, 8, 9] [] (fun w' => (∀ j, w'.cell? ⟨X, j, none⟩ = #[.int .i64 m.fl, .int .i64 m.sp, .int .i64 m.sh, .int .i64 m.mv][j]?) ∧ w'.cell? ⟨b1, o1 + k * 4, none⟩ = some (.int .i64 y.fl) ∧ w'.cell? ⟨b1, o1 + k * 4 + 1, none⟩ = some (.int .i64 y.sp) ∧ w'.cell? ⟨b1, o1 + k * 4 + 2, none⟩ = some (.int .i64 y.sh) ∧ w'.cell? ⟨b1, o1 + k * 4 + 3, none⟩ = some (.int .i64 y.mv)) (by kernel_rfl) (by kernel_rfl) (HK.out _ HD.out) ?_
            iterate 10 (refine M_pure (by rfl) (by rfl) ?_; apply Exists.intro; apply And.intro; (case left => (intro w hSw; (try dsimp only at hSw); go_simp; try with_reducible rfl)); (try simp only [Act.put, List.setIfInBounds_toArray, List.set_cons_zero, List.set_cons_succ]))
            refine M_nil ?_
            try dsimp only
            go_wp2_with fail
            refine wp_region_M [0, 1, 2, 3, 4, 5] [5] (fun w' => (∀ j, w'.cell? ⟨X, j, none⟩ = #[.int .i64 m.fl, .int .i64 m.sp, .int .i64 m.sh, .int .i64 m.mv][j]?) ∧ w'.cell? ⟨b1, o1 + k * 4, none⟩ = some (.int .i64 y.fl) ∧ w'.cell? ⟨b1, o1 + k * 4 + 1, none⟩ = some (.int .i64 y.sp) ∧ w'.cell? ⟨b1, o1 + k * 4 + 2, none⟩ = some (.int .i64 y.sh) ∧ w'.cell? ⟨b1, o1 + k * 4 + 3, none⟩ = some (.int .i64 y.mv)) (by kernel_rfl) (by kernel_rfl) (HK.out _ HD2.out) ?_
            iterate 5 (refine M_pure (by rfl) (by rfl) ?_; apply Exists.intro; apply And.intro; (case left => (intro w hSw; (try dsimp only at hSw); go_simp; try with_reducible rfl)); (try simp only [Act.put, List.setIfInBounds_toArray, List.set_cons_zero, List.set_cons_succ]))
            (refine M_call (by rfl) (by rfl) ?_; apply Exists.intro; apply Exists.intro; apply And.intro; (case left => (go_simp; first | exact ⟨rfl, rfl⟩ | rfl)))
            refine (less_any m y _).mono ?_
            rintro e W ⟨rfl, hbW⟩
            rw [HLF.out]
            have HBW := Lib.hid (HD2.out.trans (hbW.mono HD2.out.size))
            clear hbW
            refine ⟨_, rfl, HK.out W HBW.out, ?_⟩
            (try simp only [Act.put, List.setIfInBounds_toArray, List.set_cons_zero, List.set_cons_succ])
            refine M_nil ?_
            try dsimp only
            obtain ⟨cX, y0, y1, y2, y3⟩ := HK.out W HBW.out
            have hoW := own_below HO.out (HBW.out.mono (Nat.le_refl _))
            have HOW := Lib.hid hoW
            clear hoW
            rcases HO.out.2 with ⟨hv6, hk00⟩ | ⟨g, cap6, cur, hv6, hg6, _⟩
            · subst hv6
              have hk0' : k = 0 := hk00
              subst hk0'
              have hlit := World.ownsRow_lit (base := w1.heap.size) (e := 61) (size := 4) W (harmC y).toArray 1 (by have := HBW.out.size; have := HB.out.size; omega) (by decide) (by simp [harmC])
              have HLIT := Lib.hid hlit
              clear hlit
              simp only [Nat.zero_mul, Nat.add_zero] at y0 y1 y2 y3
              go_wp2_with (at_builtin; go_must (refine wpList_append_own_none rfl (.tmp 48) (.tmp 49) _ rfl w1.heap.size 61 i0 4 Try.underlying59 ti0 (.slice (some ⟨W.heap.size, 0, none⟩) 1 1) 1 (harmC y) rfl HLIT.out rfl ?_))
              have hfin : Hid (∃ (k' : Nat) (f' : Bool), k' ≤ n ∧ Value.int .i64 (0 + 1) = .int .i64 (k' : Int) ∧ Value.bool false = .bool f' ∧ WInv w1 (W.alloc (.cells (harmC y).toArray 61)) m n l k' (.slice (some ⟨W.heap.size, 0, none⟩) 1 1) f') :=
                ⟨0 + 1, false, by omega, rfl, rfl, (HB.out.trans (HBW.out.mono HB.out.size)).alloc (by have := HBW.out.size; have := HB.out.size; omega) _, by rw [HTK.out]; simpa using HLIT.out, HPF.out⟩
              clear cX y0 y1 y2 y3
              go_wp2
              go_roundw
              case rel => exact hfin.out
              case measure => simp [intOf]; omega
            · subst hv6
              have hlit := World.ownsRow_lit (base := w1.heap.size) (e := 61) (size := 4) W (harmC y).toArray 1 (by have := HBW.out.size; have := HB.out.size; omega) (by decide) (by simp [harmC])
              have HLIT := Lib.hid hlit
              have hnews : ∀ j u, ((l.take k).reverse.flatMap harmC)[j]? = some u → (W.alloc (.cells (harmC y).toArray 61)).cell? ((⟨g, 0, none⟩ : Addr).add j) = some u := (HOW.out.alloc _).cells (g := g) rfl
              have HNEWS := Lib.hid hnews
              have hlen : ((l.take k).reverse.flatMap harmC).length = k * 4 := HO.out.1
              have HLEN := Lib.hid hlen
              clear hlit hnews hlen
              go_wp2_with (at_builtin; go_must (refine wpList_append_own _ rfl (.tmp 48) (.tmp 49) _ rfl w1.heap.size 61 i0 (.agg #[.int .i64 0, .int .i64 0, .int .i64 0, .int .i64 0]) 4 32 Try.underlying59 ti0 ti1 ti2 ti3 rfl (by decide) (.slice (some ⟨W.heap.size, 0, none⟩) 1 1) 1 (harmC y) rfl HLIT.out ⟨g, 0, none⟩ k cap6 ((l.take k).reverse.flatMap harmC) rfl HLEN.out HNEWS.out (oneC _) (by unfold maxLen; omega) (by omega) ?c5 ?_))
              case c5 => have := HBW.out.size; have := HB.out.size; (try simp); omega
              intro v2 w2 hown2 hg2 _
              have hfin : Hid (∃ (k' : Nat) (f' : Bool), k' ≤ n ∧ Value.int .i64 ((k : Int) + 1) = .int .i64 (k' : Int) ∧ Value.bool false = .bool f' ∧ WInv w1 w2 m n l k' v2 f') :=
                ⟨k + 1, false, by omega, by go_num, rfl, ((HB.out.trans (HBW.out.mono HB.out.size)).alloc (by have := HBW.out.size; have := HB.out.size; omega) _).grown hg2 (by simp; have := HBW.out.size; have := HB.out.size; omega) (fun j hj => by injection hj with hj; have := HBW.out.size; have := HB.out.size; have : j = W.heap.size := hj.symm; omega), by
                  rw [HTK.out, List.reverse_append, List.flatMap_append, Nat.add_comm k 1]
                  simpa using hown2, HPF.out⟩
              clear cX y0 y1 y2 y3 hown2 hg2
              go_wp2
              go_roundw
              case rel => exact hfin.out
              case measure => simp [intOf]; omega
          · have q1 : (y.fl == m.fl) = true := by simp [h1]
            have q2 : (y.sp == m.sp) = true := by simp [h2]
            have q3 : (y.sh == m.sh) = true := by simp [h3]
            have q4 : (y.mv == m.mv) = false := by simp [h4]
            clear h1 h2 h3 h4
            go_wp2_with fail
            refine wp_region_M [0, 1, 2, 3, 4, 5, 6, 7, 8, 9] [] (fun w' => (∀ j, w'.cell? ⟨X, j, none⟩ = #[.int .i64 m.fl, .int .i64 m.sp, .int .i64 m.sh, .int .i64 m.mv][j]?) ∧ w'.cell? ⟨b1, o1 + k * 4, none⟩ = some (.int .i64 y.fl) ∧ w'.cell? ⟨b1, o1 + k * 4 + 1, none⟩ = some (.int .i64 y.sp) ∧ w'.cell? ⟨b1, o1 + k * 4 + 2, none⟩ = some (.int .i64 y.sh) ∧ w'.cell? ⟨b1, o1 + k * 4 + 3, none⟩ = some (.int .i64 y.mv)) (by kernel_rfl) (by kernel_rfl) (HK.out _ HD.out) ?_
            iterate 10 (refine M_pure (by rfl) (by rfl) ?_; apply Exists.intro; apply And.intro; (case left => (intro w hSw; (try dsimp only at hSw); go_simp; try with_reducible rfl)); (try simp only [Act.put, List.setIfInBounds_toArray, List.set_cons_zero, List.set_cons_succ]))
            refine M_nil ?_
            try dsimp only
            go_wp2_with fail
            refine wp_region_M [0, 1, 2, 3, 4, 5] [5] (fun w' => (∀ j, w'.cell? ⟨X, j, none⟩ = #[.int .i64 m.fl, .int .i64 m.sp, .int .i64 m.sh, .int .i64 m.mv][j]?) ∧ w'.cell? ⟨b1, o1 + k * 4, none⟩ = some (.int .i64 y.fl) ∧ w'.cell? ⟨b1, o1 + k * 4 + 1, none⟩ = some (.int .i64 y.sp) ∧ w'.cell? ⟨b1, o1 + k * 4 + 2, none⟩ = some (.int .i64 y.sh) ∧ w'.cell? ⟨b1, o1 + k * 4 + 3, none⟩ = some (.int .i64 y.mv)) (by kernel_rfl) (by kernel_rfl) (HK.out _ HD2.out) ?_
            iterate 5 (refine M_pure (by rfl) (by rfl) ?_; apply Exists.intro; apply And.intro; (case left => (intro w hSw; (try dsimp only at hSw); go_simp; try with_reducible rfl)); (try simp only [Act.put, List.setIfInBounds_toArray, List.set_cons_zero, List.set_cons_succ]))
            (refine M_call (by rfl) (by rfl) ?_; apply Exists.intro; apply Exists.intro; apply And.intro; (case left => (go_simp; first | exact ⟨rfl, rfl⟩ | rfl)))
            refine (less_any m y _).mono ?_
            rintro e W ⟨rfl, hbW⟩
            rw [HLF.out]
            have HBW := Lib.hid (HD2.out.trans (hbW.mono HD2.out.size))
            clear hbW
            refine ⟨_, rfl, HK.out W HBW.out, ?_⟩
            (try simp only [Act.put, List.setIfInBounds_toArray, List.set_cons_zero, List.set_cons_succ])
            refine M_nil ?_
            try dsimp only
            obtain ⟨cX, y0, y1, y2, y3⟩ := HK.out W HBW.out
            have hoW := own_below HO.out (HBW.out.mono (Nat.le_refl _))
            have HOW := Lib.hid hoW
            clear hoW
            rcases HO.out.2 with ⟨hv6, hk00⟩ | ⟨g, cap6, cur, hv6, hg6, _⟩
            · subst hv6
              have hk0' : k = 0 := hk00
              subst hk0'
              have hlit := World.ownsRow_lit (base := w1.heap.size) (e := 61) (size := 4) W (harmC y).toArray 1 (by have := HBW.out.size; have := HB.out.size; omega) (by decide) (by simp [harmC])
              have HLIT := Lib.hid hlit
              clear hlit
              simp only [Nat.zero_mul, Nat.add_zero] at y0 y1 y2 y3
              go_wp2_with (at_builtin; go_must (refine wpList_append_own_none rfl (.tmp 48) (.tmp 49) _ rfl w1.heap.size 61 i0 4 Try.underlying59 ti0 (.slice (some ⟨W.heap.size, 0, none⟩) 1 1) 1 (harmC y) rfl HLIT.out rfl ?_))
              have hfin : Hid (∃ (k' : Nat) (f' : Bool), k' ≤ n ∧ Value.int .i64 (0 + 1) = .int .i64 (k' : Int) ∧ Value.bool false = .bool f' ∧ WInv w1 (W.alloc (.cells (harmC y).toArray 61)) m n l k' (.slice (some ⟨W.heap.size, 0, none⟩) 1 1) f') :=
                ⟨0 + 1, false, by omega, rfl, rfl, (HB.out.trans (HBW.out.mono HB.out.size)).alloc (by have := HBW.out.size; have := HB.out.size; omega) _, by rw [HTK.out]; simpa using HLIT.out, HPF.out⟩
              clear cX y0 y1 y2 y3
              go_wp2
              go_roundw
              case rel => exact hfin.out
              case measure => simp [intOf]; omega
            · subst hv6
              have hlit := World.ownsRow_lit (base := w1.heap.size) (e := 61) (size := 4) W (harmC y).toArray 1 (by have := HBW.out.size; have := HB.out.size; omega) (by decide) (by simp [harmC])
              have HLIT := Lib.hid hlit
              have hnews : ∀ j u, ((l.take k).reverse.flatMap harmC)[j]? = some u → (W.alloc (.cells (harmC y).toArray 61)).cell? ((⟨g, 0, none⟩ : Addr).add j) = some u := (HOW.out.alloc _).cells (g := g) rfl
              have HNEWS := Lib.hid hnews
              have hlen : ((l.take k).reverse.flatMap harmC).length = k * 4 := HO.out.1
              have HLEN := Lib.hid hlen
              clear hlit hnews hlen
              go_wp2_with (at_builtin; go_must (refine wpList_append_own _ rfl (.tmp 48) (.tmp 49) _ rfl w1.heap.size 61 i0 (.agg #[.int .i64 0, .int .i64 0, .int .i64 0, .int .i64 0]) 4 32 Try.underlying59 ti0 ti1 ti2 ti3 rfl (by decide) (.slice (some ⟨W.heap.size, 0, none⟩) 1 1) 1 (harmC y) rfl HLIT.out ⟨g, 0, none⟩ k cap6 ((l.take k).reverse.flatMap harmC) rfl HLEN.out HNEWS.out (oneC _) (by unfold maxLen; omega) (by omega) ?c5 ?_))
              case c5 => have := HBW.out.size; have := HB.out.size; (try simp); omega
              intro v2 w2 hown2 hg2 _
              have hfin : Hid (∃ (k' : Nat) (f' : Bool), k' ≤ n ∧ Value.int .i64 ((k : Int) + 1) = .int .i64 (k' : Int) ∧ Value.bool false = .bool f' ∧ WInv w1 w2 m n l k' v2 f') :=
                ⟨k + 1, false, by omega, by go_num, rfl, ((HB.out.trans (HBW.out.mono HB.out.size)).alloc (by have := HBW.out.size; have := HB.out.size; omega) _).grown hg2 (by simp; have := HBW.out.size; have := HB.out.size; omega) (fun j hj => by injection hj with hj; have := HBW.out.size; have := HB.out.size; have : j = W.heap.size := hj.symm; omega), by
                  rw [HTK.out, List.reverse_append, List.flatMap_append, Nat.add_comm k 1]
                  simpa using hown2, HPF.out⟩
              clear cX y0 y1 y2 y3 hown2 hg2
              go_wp2
              go_roundw
              case rel => exact hfin.out
              case measure => simp [intOf]; omega
      · have hkn : k = n := by omega
        subst hkn
        have hft : f = true := HF.out.2 (.inr ⟨m, by rw [List.take_of_length_le (by rw [HLL.out]; exact Nat.le_refl _)]; exact HMEM.out.1, rfl⟩)
        subst hft
        have hown := HO.out
        rw [List.take_of_length_le (by rw [HLL.out]; exact Nat.le_refl _)] at hown
        obtain ⟨A6, cap6, rfl, hs6⟩ := Sl.of_own (sz := 4) (fun _ => rfl) (by decide) hown
        have cX := (HBX.out.below HB.out hXl).cell
        have cXd : ∀ j, wo.drew.cell? ⟨X, j, none⟩ = #[.int .i64 m.fl, .int .i64 m.sp, .int .i64 m.sh, .int .i64 m.mv][j]? := cX
        have hs6d := hs6.keep (Pl.lasts _) (show Below wo.heap.size wo wo.drew from (Below.refl _ _).drew) (Nat.le_refl _)
        have HS6 := Lib.hid hs6d
        clear hown hs6 hs6d cX
        go_wp2_with fail
        refine wp_region_M [0, 1, 2, 3, 4, 5, 7, 6, 8, 9, 10] [6] (fun w' => ∀ j, w'.cell? ⟨X, j, none⟩ = #[.int .i64 m.fl, .int .i64 m.sp, .int .i64 m.sh, .int .i64 m.mv][j]?) (by kernel_rfl) (by kernel_rfl) cXd ?_
        iterate 7 (refine M_pure (by rfl) (by rfl) ?_; apply Exists.intro; apply And.intro; (case left => (intro w hSw; (try dsimp only at hSw); go_simp; try with_reducible rfl)); (try simp only [Act.put, List.setIfInBounds_toArray, List.set_cons_zero, List.set_cons_succ]))
        (refine M_call (by rfl) (by rfl) ?_; apply Exists.intro; apply Exists.intro; apply And.intro; (case left => (go_simp; first | exact ⟨rfl, rfl⟩ | rfl)))
        refine (worst_any A6 k cap6 l.reverse _ (by unfold maxLen; omega) HS6.out).mono ?_
        rintro e W ⟨rfl, hbz⟩
        rw [worst_rev, ← HM.out]
        have hbX2 := (HBX.out.below HB.out hXl).below (show Below wo.heap.size wo W from (Below.refl _ _).drew.trans hbz) (Nat.lt_of_lt_of_le hXl HB.out.size)
        have HBZ := Lib.hid (show Below wo.heap.size wo W from (Below.refl _ _).drew.trans hbz)
        have HCZ := Lib.hid hbX2.cell
        clear hbz hbX2
        refine ⟨_, rfl, HCZ.out, ?_⟩
        simp only [harmC]
        (try simp only [Act.put, List.setIfInBounds_toArray, List.set_cons_zero, List.set_cons_succ])
        iterate 3 (refine M_pure (by rfl) (by rfl) ?_; apply Exists.intro; apply And.intro; (case left => (intro w hSw; (try dsimp only at hSw); go_simp; try with_reducible rfl)); (try simp only [Act.put, List.setIfInBounds_toArray, List.set_cons_zero, List.set_cons_succ]))
        refine M_nil ?_
        try dsimp only
        go_wp2
        go_ret
        exact ⟨rfl, HBW1.out.trans ((HB.out.trans (HBZ.out.mono HB.out.size)).mono HBW1.out.size)⟩

set_option maxRecDepth 100000 in
set_option maxHeartbeats 1000000 in
theorem harmWorst_all (A : Option Addr) (n cap : Nat) (l : List Hm) (w : World) (hnm : n ≤ maxLen) (hs : Sl (Pl harmC) 4 w w.heap.size A n l) :
    Calls Try.prog 11 #[.slice A n cap] w fun e w' => e = .returned (.bool true) ∧ Below w.heap.size w w' := by
  unfold maxLen at hnm
  by_cases hn : n ≤ 10
  · exact harmWorst_in A n cap l w hn hs
  · have hn' : (10 : Int) < (n : Int) := by omega
    go_enter Try.func11, Try.ntmps11
    go_wp2_with fail
    refine (small33_any _).mono ?_
    rintro e w0 ⟨rfl, hb0⟩
    go_wp2
    go_ret
    exact ⟨rfl, hb0⟩

end Go.Proofs.Ytlhaoiplbebgnaa
