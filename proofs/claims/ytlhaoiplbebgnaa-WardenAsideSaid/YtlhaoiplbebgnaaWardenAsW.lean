/- Law WardenAside: the walk. -/
import Derived.Test.YtlhaoiplbebgnaaWardenAs
set_option linter.unusedSimpArgs false
set_option linter.unusedVariables false
namespace Go.Proofs.Ytlhaoiplbebgnaa
open Go.RowKit

structure AsInv (w0 wr : World) (B0 g b g2 b2 : Nat) (wd town : Int) (k : Nat) (sp sq : St) (v12 v13 : Value) (f : List Int) : Prop where
  wld : AsW w0 wr B0 g b g2 b2 wd sp sq v12 v13 f (gL f.length)
  rel : AsRel sp sq town f
  gp : Good sp (k + 1000)
  gq : Good sq (k + 1000)
  len : f.length ≤ k

def InC (Wq wi : World) (C : Nat) (c : Cl) (num : Int) : Prop := Below C Wq wi ∧ Bk wi C 42 #[.int .i64 c.town, .int .i64 c.level, .int .i64 num, .int .i64 c.warden]

set_option maxRecDepth 100000 in
set_option maxHeartbeats 8000000 in
theorem aside_in (wd town hour : Int) (A : Option Addr) (n cap : Nat) (l : List Stp) (w : World) (hn : n ≤ 40) (hw0 : 1 ≤ wd) (hw1 : wd ≤ 16) (hh : -9223372036854775808 ≤ hour ∧ hour ≤ 9223372036854775807) (hs : Sl (Pl stepC) 8 w w.heap.size A n l) :
    Calls Try.prog 9 #[.int .i64 wd, .slice A n cap, .int .i64 town, .int .i64 hour] w fun e w' =>
      e = .returned (.bool true) ∧ Below w.heap.size w w' := by
  obtain ⟨i0, ti0, ti1, ti2, ti3⟩ := info_parts info_int
  go_enter Try.func9, Try.ntmps9
  go_wp2_with fail
  refine (small44_any _).mono ?_
  rintro e wa ⟨rfl, hba⟩
  have hza := hba.size
  have hsa := hs.keep (Pl.lasts _) hba (Nat.le_refl _)
  clear hs
  go_wp2_with fail
  refine (new_in wd _ hw0 hw1).mono ?_
  rintro e wb ⟨rfl, hbb, hzb, hpb⟩
  have hPb : Post wb (wa.heap.size + 1) wa.heap.size wd ⟨0, fun _ => none⟩ := ⟨hpb⟩
  have hsb := hsa.keep (Pl.lasts _) (hbb.mono (by omega)) (Nat.le_refl _)
  have hbwb := hba.trans (hbb.mono (by omega))
  clear hpb hsa hba hbb
  go_wp2_with fail
  refine (new_in wd _ hw0 hw1).mono ?_
  rintro e w0 ⟨rfl, hbc, hzc, hpc⟩
  have hQ0 : Post w0 (wb.heap.size + 1) wb.heap.size wd ⟨0, fun _ => none⟩ := ⟨hpc⟩
  have hP0 := hPb.below hbc
  have hs0 := hsb.keep (Pl.lasts _) (hbc.mono (by omega)) (Nat.le_refl _)
  have hbw0 := hbwb.trans (hbc.mono (by omega))
  obtain ⟨b, hb⟩ : ∃ b, b = wa.heap.size := ⟨_, rfl⟩
  obtain ⟨g, hg⟩ : ∃ g, g = b + 1 := ⟨_, rfl⟩
  obtain ⟨b2, hb2⟩ : ∃ b2, b2 = wb.heap.size := ⟨_, rfl⟩
  obtain ⟨g2, hg2⟩ : ∃ g2, g2 = b2 + 1 := ⟨_, rfl⟩
  obtain ⟨B0, hB0⟩ : ∃ B0, B0 = w.heap.size := ⟨_, rfl⟩
  rw [← hb, ← hg] at hP0
  rw [← hb2, ← hg2] at hQ0
  rw [← hb, ← hg, ← hb2, ← hg2]
  rw [← hB0] at hs0 hbw0
  have hST : AsInv w0 w0 B0 g b g2 b2 wd town 0 ⟨0, fun _ => none⟩ ⟨0, fun _ => none⟩ (.slice none 0 0) (.slice none 0 0) [] :=
    ⟨⟨Below.refl _ _, hP0, hQ0, World.ownsRow_nil _ _ _ _, World.ownsRow_nil _ _ _ _, fun j hj => by simp [Value.ownBlock] at hj, ⟨by omega, by omega, by omega, by omega, by omega⟩, ⟨by omega, by omega, by omega, by omega⟩⟩, AsRel.start town, Good.start.mono (by omega), Good.start.mono (by omega), Nat.zero_le _⟩
  have HST := Lib.hid hST
  have HBW := Lib.hid hbw0
  have HB0 := Lib.hid hB0
  clear hST hP0 hQ0 hPb hsb hbw0 hbwb hbc hpc hb hg hb2 hg2 hza hzb hzc hB0
  go_wp2_with fail
  go_loopw [12, 13, 14] (fun v12 v13 v14 wr => ∃ (k : Nat) (sp sq : St) (f : List Int), k ≤ n ∧ v14 = .int .i64 (k : Int) ∧ AsInv w0 wr B0 g b g2 b2 wd town k sp sq v12 v13 f) (fun _ _ v14 _ => n - (intOf v14).toNat)
  case atStart => exact ⟨0, _, _, _, Nat.zero_le _, rfl, HST.out⟩
  case round =>
    obtain ⟨k, sp, sq, f, hk, rfl, hinv⟩ := hrel
    obtain ⟨wo, rfl⟩ : ∃ wo : World, wo = wr := ⟨_, rfl⟩
    have HI := Lib.hid hinv
    have hfk := hinv.len
    have hm0 := hinv.gp.lo
    have hm1 := hinv.gp.hi
    have HMQ := Lib.hid hinv.rel.many
    have hq0 := hinv.gq.lo
    have hq1 := hinv.gq.hi
    clear hinv
    by_cases hlt : k < n
    · obtain ⟨bo, oo, x, rfl, hbl, hx, hc⟩ := hs0.at_ hlt
      have e0 := hc wo HI.out.wld.below 0 _ rfl
      have e1 := hc wo HI.out.wld.below 1 _ rfl
      have e2 := hc wo HI.out.wld.below 2 _ rfl
      have e3 := hc wo HI.out.wld.below 3 _ rfl
      have e4 := hc wo HI.out.wld.below 4 _ rfl
      have e5 := hc wo HI.out.wld.below 5 _ rfl
      have e6 := hc wo HI.out.wld.below 6 _ rfl
      have e7 := hc wo HI.out.wld.below 7 _ rfl
      simp only [Nat.add_zero] at e0
      have hkn : (k : Int) < (n : Int) := by omega
      obtain ⟨X, hX⟩ : ∃ X, X = wo.heap.size := ⟨_, rfl⟩
      have hbX := Bk.new wo 44 (stepC x).toArray
      have hI1 := HI.out.wld.on ((Below.refl _ _).alloc (Nat.le_refl _) (.cells (stepC x).toArray 44))
      have hz1 : (wo.alloc (.cells (stepC x).toArray 44)).heap.size = X + 1 := by rw [hX]; simp
      rw [← hX] at hbX
      have HBX := Lib.hid hbX
      have HI1 := Lib.hid hI1
      have HHX := Lib.hid hX
      have hgX : g < X := by have := HI.out.wld.p.rep.cells.lt; omega
      have hbX' : b < X := by have := HI.out.wld.p.rep.map.lt; omega
      have hg2X : g2 < X := by have := HI.out.wld.q.rep.cells.lt; omega
      have hb2X' : b2 < X := by have := HI.out.wld.q.rep.map.lt; omega
      clear hbX hI1 hc hx hX
      generalize hdo : doK x.kind = d
      have hb3 : bits .and .i64 x.kind 3 = d := hdo
      have HDO := Lib.hid hdo
      clear hdo
      by_cases hd0 : d = 0
      · have hd0b : (d == 0) = true := by simp [hd0]
        have hd1b : (d == 1) = false := by simp [hd0]
        clear hd0
        go_wp2_with fail
        rw [show wo.heap.size = X from HHX.out.symm]
        refine (raise_any g b wd x.town x.level x.hour sp (k + 1000) (by omega) HI.out.gp _ HI1.out.p).mono ?_
        rintro e W2 ⟨rfl, ho2, hp2⟩
        have hI2 := HI1.out.turn_p ho2 hp2
        have hbX2 : Bk W2 X 44 (stepC x).toArray := (ho2.block X (by rw [hz1]; omega) (by omega) (by omega)).trans HBX.out
        have hgp2 := HI.out.gp.raise x.town x.level x.hour
        have HI2 := Lib.hid hI2
        have HBX2 := Lib.hid hbX2
        have HGP2 := Lib.hid hgp2
        have c : ∀ i, W2.cell? ⟨X, i, none⟩ = (stepC x).toArray[i]? := hbX2.cell
        simp only [stepC] at c
        clear e0 e1 e2 e3 e4 e5 e6 e7 hz1 ho2 hp2 hI2 hbX2 hgp2
        by_cases hxt : x.town = town
        · have hxtb : (x.town == town) = true := by simp [hxt]
          by_cases hr : raiseOk x.town x.level x.hour
          · rw [show raiseN sp x.town x.level x.hour = sp.many + 1 from if_pos hr]
            have hmp : (0 : Int) < sp.many + 1 := by omega
            have HXT := Lib.hid hxt
            have HR := Lib.hid hr
            clear hr hxt
            go_wp2_with (at_builtin; go_must (refine wpList_append_own_at _ rfl (.tmp 71) (.tmp 73) _ rfl B0 3 i0 (.int .i64 0) 1 8 Try.underlying51 ti0 ti1 ti2 ti3 rfl (by decide) u12 f.length (f.flatMap fun n => [.int .i64 n]) rfl (HI2.out.o1.alloc _) ⟨_, 0, none⟩ 1 1 [.int .i64 (sp.many + 1)] rfl rfl (new_cells _ rfl _ _) (by intro u hu; simp at hu; subst hu; rfl) (by unfold maxLen; omega) (by omega) ?c5 ?_))
            case c5 => simp; have := HI2.out.big; omega
            intro v12 w3 hown3 hg3 _ hat3
            have hI3 := (HI2.out.on ((Below.refl _ _).alloc (Nat.le_refl _) _)).app1 hg3 hown3 (by simpa using hat3)
            have hbX3 : Bk w3 X 44 (stepC x).toArray := (HBX2.out.alloc _).grown hg3 (fun e => own_bk_ne (HI2.out.o1) HBX2.out (by decide) e.symm)
            have HI3 := Lib.hid hI3
            have HBX3 := Lib.hid hbX3
            have c' : ∀ i, w3.cell? ⟨X, i, none⟩ = (stepC x).toArray[i]? := hbX3.cell
            simp only [stepC] at c'
            have hX3 := hbX3.lt
            clear hown3 hg3 hat3 hI3 hbX3 c
            go_wp2_with fail
            refine (raise_any g2 b2 wd x.town x.level x.hour sq (k + 1000) (by omega) HI.out.gq _ HI3.out.q).mono ?_
            rintro e W4 ⟨rfl, ho4, hp4⟩
            have hI4 := HI3.out.turn_q ho4 hp4
            have hbX4 : Bk W4 X 44 (stepC x).toArray := (ho4.block X hX3 (by omega) (by omega)).trans HBX3.out
            rw [show raiseN sq x.town x.level x.hour = sq.many + 1 from if_pos HR.out]
            have HI4 := Lib.hid hI4
            have HBX4 := Lib.hid hbX4
            have hgl : (gL f.length).length ≤ 40 := by rw [gL_len]; omega
            clear c' hI4 hbX4 ho4 hp4
            go_wp2_with (at_builtin; go_must (refine wpList_append_own_at _ rfl (.tmp 75) (.tmp 84) _ rfl B0 3 i0 (.int .i64 0) 1 8 Try.underlying51 ti0 ti1 ti2 ti3 rfl (by decide) u13 (gL f.length).length ((gL f.length).flatMap fun n => [.int .i64 n]) rfl (HI4.out.o2.alloc _) ⟨_, 0, none⟩ 1 1 [.int .i64 (sq.many + 1)] rfl rfl (new_cells _ rfl _ _) (by intro u hu; simp at hu; subst hu; rfl) (by unfold maxLen; omega) (by omega) ?c5 ?_))
            case c5 => simp; have := HI4.out.big; omega
            intro v13 w5 hown5 hg5 _ hat5
            have hI5 := (HI4.out.on ((Below.refl _ _).alloc (Nat.le_refl _) _)).app2 hg5 hown5 (by simpa using hat5)
            have hbX5 : Bk w5 X 44 (stepC x).toArray := (HBX4.out.alloc _).grown hg5 (fun e => own_bk_ne (HI4.out.o2) HBX4.out (by decide) e.symm)
            have c' : ∀ i, w5.cell? ⟨X, i, none⟩ = (stepC x).toArray[i]? := hbX5.cell
            simp only [stepC] at c'
            have hI6 : AsInv w0 w5 B0 g b g2 b2 wd town (k + 1) (raiseS sp x.town x.level x.hour) (raiseS sq x.town x.level x.hour) v12 v13 (f ++ [sp.many + 1]) := by
              refine ⟨?_, ?_, HGP2.out.mono (by omega), (HI.out.gq.raise _ _ _).mono (by omega), by rw [List.length_append]; simp; omega⟩
              · have := hI5
                rw [List.length_append, List.length_singleton, gL_succ, ← HMQ.out]
                exact this
              · have hrel := HI.out.rel
                have hxt := HXT.out
                rw [← hxt] at hrel ⊢
                exact hrel.raise HR.out
            have HREL : Hid (∃ (k' : Nat) (sp' sq' : St) (f' : List Int), k' ≤ n ∧ Value.int .i64 ((k : Int) + 1) = .int .i64 (k' : Int) ∧ AsInv w0 w5 B0 g b g2 b2 wd town k' sp' sq' v12 v13 f') := ⟨k + 1, _, _, _, by omega, by go_num, hI6⟩
            clear hown5 hg5 hat5 hI5 hbX5 hI6
            go_wp2
            go_roundw
            case rel => exact HREL.out
            case measure => simp [intOf]; omega
          · rw [show raiseN sp x.town x.level x.hour = 0 from if_neg hr]
            have hI6 : AsInv w0 W2 B0 g b g2 b2 wd town (k + 1) (raiseS sp x.town x.level x.hour) sq u12 u13 f :=
              ⟨HI2.out, by rw [raise_not hr]; exact HI.out.rel, HGP2.out.mono (by omega), HI.out.gq.mono (by omega), by omega⟩
            have HREL : Hid (∃ (k' : Nat) (sp' sq' : St) (f' : List Int), k' ≤ n ∧ Value.int .i64 ((k : Int) + 1) = .int .i64 (k' : Int) ∧ AsInv w0 W2 B0 g b g2 b2 wd town k' sp' sq' u12 u13 f') := ⟨k + 1, _, _, _, by omega, by go_num, hI6⟩
            clear hI6 hr hxt
            go_wp2
            go_roundw
            case rel => exact HREL.out
            case measure => simp [intOf]; omega
        · have hxtb : (x.town == town) = false := by simp [hxt]
          have hI6 : AsInv w0 W2 B0 g b g2 b2 wd town (k + 1) (raiseS sp x.town x.level x.hour) sq u12 u13 f :=
            ⟨HI2.out, HI.out.rel.raise_other hxt, HGP2.out.mono (by omega), HI.out.gq.mono (by omega), by omega⟩
          have HREL : Hid (∃ (k' : Nat) (sp' sq' : St) (f' : List Int), k' ≤ n ∧ Value.int .i64 ((k : Int) + 1) = .int .i64 (k' : Int) ∧ AsInv w0 W2 B0 g b g2 b2 wd town k' sp' sq' u12 u13 f') := ⟨k + 1, _, _, _, by omega, by go_num, hI6⟩
          clear hI6 hxt
          generalize raiseN sp x.town x.level x.hour = rn
          go_wp2
          go_roundw
          case rel => exact HREL.out
          case measure => simp [intOf]; omega
      · have hd0b : (d == 0) = false := by simp [hd0]
        by_cases hd1 : d = 1
        · have hd1b : (d == 1) = true := by simp [hd1]
          clear hd0 hd1
          go_wp2_with fail
          rw [show wo.heap.size = X from HHX.out.symm]
          refine (ack_any g b wd x.call sp _ HI1.out.p).mono ?_
          rintro e W2 ⟨rfl, ho2, hp2⟩
          have hI2 := HI1.out.turn_p ho2 hp2
          have hbX2 : Bk W2 X 44 (stepC x).toArray := (ho2.block X (by rw [hz1]; omega) (by omega) (by omega)).trans HBX.out
          have HI2 := Lib.hid hI2
          have HBX2 := Lib.hid hbX2
          have c : ∀ i, W2.cell? ⟨X, i, none⟩ = (stepC x).toArray[i]? := hbX2.cell
          simp only [stepC] at c
          have hX2 := hbX2.lt
          clear e0 e1 e2 e3 e4 e5 e6 e7 hz1 ho2 hp2 hI2 hbX2
          have haw : ∀ (hct : x.call.town = town), awaitsB sq.F wd x.call.town (trL f x.call.number f.length) x.call.warden = awaitsB sp.F wd x.call.town x.call.number x.call.warden := fun hct => by
            have := HI.out.rel
            rw [← hct] at this
            exact this.awaits _ _ _
          have HAW := Lib.hid haw
          clear haw
          by_cases hxt : x.call.town = town
          · have hxtb : (x.call.town != town) = false := by simp [hxt]
            have hrel0 := HI.out.rel
            rw [← hxt] at hrel0
            have HREL0 := Lib.hid hrel0
            have HXT := Lib.hid hxt
            have haw2 := HAW.out hxt
            have HAW2 := Lib.hid haw2
            generalize hav : awaitsB sp.F wd x.call.town x.call.number x.call.warden = av at *
            have HAV := Lib.hid hav
            clear hrel0 hxt haw2 hav HAW
            obtain ⟨C, hC⟩ : ∃ C, C = W2.heap.size := ⟨_, rfl⟩
            obtain ⟨A1, cap1, rfl, hsl1⟩ := Sl.of_own (sz := 1) (fun _ => rfl) (by decide) HI2.out.o1
            obtain ⟨A2, cap2, rfl, hsl2⟩ := Sl.of_own (sz := 1) (fun _ => rfl) (by decide) HI2.out.o2
            rw [← hC] at hsl1 hsl2
            have hXC : X < C := by omega
            have hlb : f.length ≤ 40 := by omega
            have hglen := gL_len f.length
            have HGLEN := Lib.hid hglen
            generalize hF : f.length = m at *
            have HFM := Lib.hid hF
            generalize hgm : (gL m).length = m2 at *
            have hm2 : m2 ≤ m := by omega
            have hm2' : m ≤ m2 := by omega
            clear hF hglen hgm
            have HCC := Lib.hid hC
            have hin0 : InC W2 (W2.alloc (.cells #[.int .i64 x.call.town, .int .i64 x.call.level, .int .i64 (-1), .int .i64 x.call.warden] 42)) C x.call (-1) :=
              ⟨(Below.refl _ _).alloc (Nat.le_of_eq hC) _, Bk.newAt W2 hC _ _⟩
            have HIN0 := Lib.hid hin0
            have hnewc := (Bk.newAt W2 hC 42 #[.int .i64 x.call.town, .int .i64 x.call.level, .int .i64 x.call.number, .int .i64 x.call.warden]).cell
            have hnewf := (Bk.newAt W2 hC 42 #[.int .i64 x.call.town, .int .i64 x.call.level, .int .i64 x.call.number, .int .i64 x.call.warden]).frozen
            clear hC hin0
            go_wp2_with fail
            rw [show W2.heap.size = C from HCC.out.symm]
            go_loopw [19] (fun v19 wi => ∃ j : Nat, j ≤ m ∧ v19 = .int .i64 (j : Int) ∧ InC W2 wi C x.call (trL f x.call.number j)) (fun v19 _ => m - (intOf v19).toNat)
            case atStart => exact ⟨0, Nat.zero_le _, rfl, HIN0.out⟩
            case round =>
              obtain ⟨j, hj, rfl, hbi, hki⟩ := hrel
              obtain ⟨wi, rfl⟩ : ∃ wi : World, wi = wr := ⟨_, rfl⟩
              have ci : ∀ i, wi.cell? ⟨X, i, none⟩ = (stepC x).toArray[i]? := fun i => (hbi.cell (p := ⟨X, i, none⟩) hXC).trans (HBX2.out.cell i)
              simp only [stepC] at ci
              have HBI := Lib.hid hbi
              have HKI := Lib.hid hki
              clear c hnewc hnewf hbi
              by_cases hjm : j < m
              · obtain ⟨b4, o4, y1, hA1, hl4, hy1, hc4⟩ := hsl1.at_ hjm
                subst hA1
                obtain ⟨b5, o5, y2, hA2, hl5, hy2, hc5⟩ := hsl2.at_ (show j < m2 by omega)
                subst hA2
                have p1 := hc4 wi HBI.out 0 _ rfl
                have p2 := hc5 wi.drew HBI.out.drew 0 _ rfl
                simp only [Nat.add_zero, Nat.mul_one] at p1 p2
                have hy22 := gL_get hy2
                subst hy22
                have htr : trL f x.call.number (j + 1) = if f[j]? = some x.call.number then (j : Int) + 1 else trL f x.call.number j := rfl
                rw [hy1] at htr
                have hjm' : (j : Int) < (m : Int) := by omega
                have hjm2 : (j : Int) < (m2 : Int) := by omega
                have ck := hki.cell
                have fk := hki.frozen
                by_cases hyn : y1 = x.call.number
                · have hynb : (y1 == x.call.number) = true := by simp [hyn]
                  rw [if_pos (by rw [hyn])] at htr
                  have HTR := Lib.hid htr
                  have HIN : Hid (InC W2 (wi.drew.setCell ⟨C, 2, none⟩ (.int .i64 ((j : Int) + 1))) C x.call (trL f x.call.number (j + 1))) := by
                    refine ⟨HBI.out.drew.setCell (Nat.le_refl _) _, ?_⟩
                    rw [HTR.out]
                    exact hki.drew.set_ 2 _
                  clear htr hyn hy1 hy2 hc4 hc5 hki
                  have ckd : ∀ i, wi.drew.cell? ⟨C, i, none⟩ = _ := ck
                  have fkd : ∀ i, wi.drew.frozen? ⟨C, i, none⟩ = false := fk
                  go_wp2_with fail
                  refine wp_region_head 8 (fun w' => w' = wi.drew) (by kernel_rfl) (by kernel_rfl) rfl ?_
                  iterate 8 (refine chain_pure (by rfl) ?_; apply Exists.intro; apply And.intro; (case left => (intro w hSw; (try dsimp only at hSw); go_simp; try with_reducible rfl)); (try simp only [Act.put, List.setIfInBounds_toArray, List.set_cons_zero, List.set_cons_succ]))
                  intro W hSW
                  subst hSW
                  clear ci ck fk
                  go_wp2
                  go_roundw
                  case rel => exact ⟨j + 1, by omega, by go_num, HIN.out⟩
                  case measure => simp [intOf]; omega
                · have hynb : (y1 == x.call.number) = false := by simp [hyn]
                  rw [if_neg (fun h => hyn (Option.some.inj h))] at htr
                  have HTR := Lib.hid htr
                  have HIN : Hid (InC W2 wi.drew C x.call (trL f x.call.number (j + 1))) := by
                    refine ⟨HBI.out.drew, ?_⟩
                    rw [HTR.out]
                    exact hki.drew
                  clear htr hyn hy1 hy2 hc4 hc5 hki
                  go_wp2_with fail
                  refine wp_region_head 8 (fun w' => w' = wi.drew) (by kernel_rfl) (by kernel_rfl) rfl ?_
                  iterate 8 (refine chain_pure (by rfl) ?_; apply Exists.intro; apply And.intro; (case left => (intro w hSw; (try dsimp only at hSw); go_simp; try with_reducible rfl)); (try simp only [Act.put, List.setIfInBounds_toArray, List.set_cons_zero, List.set_cons_succ]))
                  intro W hSW
                  subst hSW
                  clear ci ck fk
                  go_wp2
                  go_roundw
                  case rel => exact ⟨j + 1, by omega, by go_num, HIN.out⟩
                  case measure => simp [intOf]; omega
              · have hjm2 : j = m := by omega
                subst hjm2
                have ck := hki.cell
                have hIi := HI2.out.on (HBI.out.mono (Nat.le_of_eq HCC.out.symm))
                have HII := Lib.hid hIi
                clear hki hIi ci
                go_wp2_with fail
                refine (ack_any g2 b2 wd ⟨x.call.town, x.call.level, trL f x.call.number j, x.call.warden⟩ sq _ HII.out.q).mono ?_
                rintro e W5 ⟨rfl, ho5, hp5⟩
                rw [show awaitsB sq.F wd (⟨x.call.town, x.call.level, trL f x.call.number j, x.call.warden⟩ : Cl).town (⟨x.call.town, x.call.level, trL f x.call.number j, x.call.warden⟩ : Cl).number (⟨x.call.town, x.call.level, trL f x.call.number j, x.call.warden⟩ : Cl).warden = av from HAW2.out]
                have hI5 := HII.out.turn_q ho5 hp5
                have hI6 : AsInv w0 W5 B0 g b g2 b2 wd town (k + 1) (ackS wd sp x.call) (ackS wd sq ⟨x.call.town, x.call.level, trL f x.call.number j, x.call.warden⟩) (.slice A1 j cap1) (.slice A2 m2 cap2) f := by
                  refine ⟨?_, ?_, (HI.out.gp.ack _ _).mono (by omega), (HI.out.gq.ack _ _).mono (by omega), by rw [HFM.out]; omega⟩
                  · rw [HFM.out]
                    exact hI5
                  · have := HREL0.out.ack wd
                    rw [HXT.out, HFM.out] at this
                    have hxt := HXT.out
                    rw [hxt]
                    exact this
                have HI6 := Lib.hid hI6
                clear ck ho5 hp5 hI5 hI6
                cases av
                all_goals
                  go_wp2
                  go_roundw
                  case rel => exact ⟨k + 1, _, _, f, by omega, by go_num, HI6.out⟩
                  case measure => simp [intOf]; omega
          · have hxtb : (x.call.town != town) = true := by simp [hxt]
            have hI6 : AsInv w0 W2 B0 g b g2 b2 wd town (k + 1) (ackS wd sp x.call) sq u12 u13 f :=
              ⟨HI2.out, HI.out.rel.ack_other wd hxt, (HI.out.gp.ack _ _).mono (by omega), HI.out.gq.mono (by omega), by omega⟩
            have HREL : Hid (∃ (k' : Nat) (sp' sq' : St) (f' : List Int), k' ≤ n ∧ Value.int .i64 ((k : Int) + 1) = .int .i64 (k' : Int) ∧ AsInv w0 W2 B0 g b g2 b2 wd town k' sp' sq' u12 u13 f') := ⟨k + 1, _, _, _, by omega, by go_num, hI6⟩
            clear hI6 hxt HAW
            generalize awaitsB sp.F wd x.call.town x.call.number x.call.warden = av
            go_wp2
            go_roundw
            case rel => exact HREL.out
            case measure => simp [intOf]; omega
        · have hd1b : (d == 1) = false := by simp [hd1]
          have hI6 : AsInv w0 (wo.alloc (.cells (stepC x).toArray 44)) B0 g b g2 b2 wd town (k + 1) sp sq u12 u13 f :=
            ⟨HI1.out, HI.out.rel, HI.out.gp.mono (by omega), HI.out.gq.mono (by omega), by omega⟩
          have HREL : Hid (∃ (k' : Nat) (sp' sq' : St) (f' : List Int), k' ≤ n ∧ Value.int .i64 ((k : Int) + 1) = .int .i64 (k' : Int) ∧ AsInv w0 (wo.alloc (.cells (stepC x).toArray 44)) B0 g b g2 b2 wd town k' sp' sq' u12 u13 f') := ⟨k + 1, _, _, _, by omega, by go_num, hI6⟩
          clear hI6 hd0 hd1
          go_wp2
          go_roundw
          case rel => exact HREL.out
          case measure => simp [intOf]; omega
    · have hkn : k = n := by omega
      subst hkn
      go_wp2_with fail
      refine (due_post g b wd hour sp (k + 1000) HI.out.gp _ HI.out.wld.p hw1 hh).mono ?_
      rintro e W2 ⟨A2, cap2, rfl, hb2, hp2, _, hs2⟩
      have hI2 := HI.out.wld.on hb2
      have HI2 := Lib.hid hI2
      clear hp2 hI2
      go_wp2_with fail
      refine (due_post g2 b2 wd hour sq (k + 1000) HI.out.gq _ HI2.out.q hw1 hh).mono ?_
      rintro e W3 ⟨A3, cap3, rfl, hb3, hp3, _, hs3⟩
      have hs2' := hs2.keep (Pl.lasts _) hb3 hb3.size
      have hbf : Below w.heap.size w W3 := by
        have := (HBW.out.trans HI2.out.below).trans (hb3.mono HI2.out.big)
        rw [HB0.out] at this
        exact this
      have hpair := due_pair HI.out.rel HI.out.gp wd hour
      have hl1 := due_len sp.F hw1 hour
      have hl2 := due_len sq.F hw1 hour
      generalize dueL sp.F wd hour = L at *
      generalize dueL sq.F wd hour = L2 at *
      obtain ⟨hpg, hpc⟩ := hpair
      have hln : ∀ (c : Nat) z, L2[c]? = some z → c < L2.length := fun c z h => (List.getElem?_eq_some_iff.1 h).1
      generalize hN : L.length = N at *
      generalize hN2 : L2.length = N2 at *
      have HPG := Lib.hid hpg
      have HPC := Lib.hid hpc
      have HLN := Lib.hid hN
      have HL2 := Lib.hid hln
      have HBF := Lib.hid hbf
      clear hs2 hp3 hpg hpc hN hN2 hb3 hb2 hln hbf
      go_wp2_with fail
      go_loopw [22, 23] (fun at_ i wr => ∃ m : Nat, m ≤ N ∧ i = .int .i64 m ∧ at_ = .int .i64 (cnt town (L.take m) : Nat) ∧ Below W3.heap.size W3 wr) (fun _ i _ => N - (intOf i).toNat)
      case atStart => exact ⟨0, Nat.zero_le _, rfl, rfl, Below.refl _ _⟩
      case round =>
        obtain ⟨m, hm, rfl, rfl, hbm⟩ := hrel
        by_cases hmn : m < N
        · obtain ⟨b4, o4, y, rfl, hl4, hy, hc4⟩ := hs2'.at_ hmn
          have f0 := hc4 wr hbm 0 _ rfl
          have f1 := hc4 wr hbm 1 _ rfl
          have f3 := hc4 wr hbm 3 _ rfl
          simp only [Nat.add_zero] at f0
          have hct := cnt_take town hy
          have hcl : cnt town (L.take m) ≤ m := Nat.le_trans (cnt_le _ _) (List.length_take_le _ _)
          have hmn' : (m : Int) < (N : Int) := by omega
          by_cases hyt : y.town = town
          · have hytb : (y.town != town) = false := by simp [hyt]
            obtain ⟨z, hz, hz1, hz2, hz3⟩ := HPG.out m y hy hyt
            have hcN := HL2.out _ _ hz
            rw [if_pos hyt] at hct
            have HCT := Lib.hid hct
            clear hct
            generalize cnt town (L.take m) = c at *
            obtain ⟨b5, o5, z', rfl, hl5, hz', hc5⟩ := hs3.at_ hcN
            obtain rfl : z = z' := by rw [hz] at hz'; injection hz'
            have q0 := hc5 wr.drew hbm.drew 0 _ rfl
            have q1 := hc5 wr.drew hbm.drew 1 _ rfl
            have q3 := hc5 wr.drew hbm.drew 3 _ rfl
            simp only [Nat.add_zero] at q0
            rw [hz1] at q3
            rw [hz2] at q1
            rw [hz3] at q0
            have d0 := hc4 wr.drew hbm.drew 0 _ rfl
            have d1 := hc4 wr.drew hbm.drew 1 _ rfl
            have d3 := hc4 wr.drew hbm.drew 3 _ rfl
            simp only [Nat.add_zero] at d0
            have hg1 : decide (N2 ≤ c) = false := by simp; omega
            have hg2 : (c : Int) < (N2 : Int) := by omega
            clear hz hz' hz1 hz2 hz3 hc5 hc4 hy hyt
            go_wp2_with fail
            refine wp_region_head 39 (fun w' => w' = wr.drew) (by kernel_rfl) (by kernel_rfl) rfl ?_
            iterate 39 (refine chain_pure (by rfl) ?_; apply Exists.intro; apply And.intro; (case left => (intro w hSw; (try dsimp only at hSw); go_simp; try with_reducible rfl)); (try simp only [Act.put, List.setIfInBounds_toArray, List.set_cons_zero, List.set_cons_succ]))
            intro W hSW
            subst hSW
            go_wp2
            go_roundw
            case rel => exact ⟨m + 1, by omega, by go_num, by rw [HCT.out]; go_num, hbm.drew⟩
            case measure => simp [intOf]; omega
          · have hytb : (y.town != town) = true := by simp [hyt]
            rw [if_neg hyt] at hct
            have HCT := Lib.hid hct
            clear hct hc4 hyt hy
            generalize cnt town (L.take m) = c at *
            go_wp2
            go_roundw
            case rel => exact ⟨m + 1, by omega, by go_num, by rw [HCT.out]; rfl, hbm⟩
            case measure => simp [intOf]; omega
        · have hmN : m = N := by omega
          have hcf : cnt town (L.take m) = N2 := by rw [hmN, List.take_of_length_le (by rw [HLN.out]; exact Nat.le_refl _)]; exact HPC.out
          rw [hcf]
          clear hcf hmN
          go_wp2
          go_ret
          exact ⟨rfl, HBF.out.trans (hbm.mono HBF.out.size)⟩

end Go.Proofs.Ytlhaoiplbebgnaa
