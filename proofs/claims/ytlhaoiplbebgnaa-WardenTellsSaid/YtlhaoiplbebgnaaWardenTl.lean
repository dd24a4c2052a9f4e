/- Law WardenTells: the walk. -/
import Derived.Test.YtlhaoiplbebgnaaWardenU
set_option linter.unusedSimpArgs false
set_option linter.unusedVariables false
namespace Go.Proofs.Ytlhaoiplbebgnaa
open Go.RowKit

theorem refRaise_any (B0 g : Nat) (wd town level hour : Int) (L : List Ro) (v : Value) (w : World) (hL : L.length ≤ 1000) (hB : B0 ≤ w.heap.size) (hp : RefP w B0 g wd L v) :
    Calls Try.prog 23 #[.pointer (some ⟨g, 0, none⟩), .int .i64 town, .int .i64 level, .int .i64 hour] w fun e w' =>
      e = .returned (.int .i64 (raiseN (absS L) town level hour)) ∧ RCh w w' g v ∧ ∃ L' v', RefP w' B0 g wd L' v' ∧ absS L' = raiseS (absS L) town level hour ∧ L'.length ≤ L.length + 1 := by
  by_cases h : raiseOk town level hour
  · rw [show raiseN (absS L) town level hour = (L.length : Int) + 1 from if_pos h]
    exact (refRaise_in B0 g wd town level hour L v w h hL hB hp).mono fun e w' ⟨he, hr, v', hq⟩ => ⟨he, hr, _, v', hq, abs_raise L h, by simp⟩
  · rw [show raiseN (absS L) town level hour = 0 from if_neg h]
    refine (refRaise_out g town level hour w h).mono fun e w' ⟨he, hw⟩ => ?_
    subst hw
    exact ⟨he, RCh.refl _ _ _, L, v, hp, (raise_not h).symm, by omega⟩

structure TlW (w0 wr : World) (B0 g b gr : Nat) (wd : Int) (s : St) (L : List Ro) (v : Value) : Prop where
  below : Below B0 w0 wr
  p : Post wr g b wd s
  q : RefP wr B0 gr wd L v
  low : B0 ≤ w0.heap.size ∧ B0 ≤ g ∧ B0 ≤ b ∧ B0 ≤ gr
  dis : g ≠ gr ∧ b ≠ gr
section
variable {w0 wr w' : World} {B0 g b gr : Nat} {wd : Int} {s : St} {L : List Ro} {v : Value}
theorem TlW.big (h : TlW w0 wr B0 g b gr wd s L v) : B0 ≤ wr.heap.size := Nat.le_trans h.low.1 h.below.size
theorem TlW.on (h : TlW w0 wr B0 g b gr wd s L v) (hb : Below wr.heap.size wr w') : TlW w0 w' B0 g b gr wd s L v :=
  ⟨h.below.trans (hb.mono h.big), h.p.below hb, h.q.below hb, h.low, h.dis⟩
theorem TlW.own_ne (h : TlW w0 wr B0 g b gr wd s L v) : v.ownBlock ≠ some g ∧ v.ownBlock ≠ some b :=
  ⟨own_bk_ne h.q.own h.p.rep.cells (by decide), own_map_ne h.q.own h.p.rep.map⟩
theorem TlW.turn_p {s' : St} (h : TlW w0 wr B0 g b gr wd s L v) (ho : Only2 wr w' g b) (hp : Post w' g b wd s') : TlW w0 w' B0 g b gr wd s' L v := by
  obtain ⟨l0, l1, l2, l3⟩ := h.low
  obtain ⟨d1, d2⟩ := h.dis
  obtain ⟨n1, n2⟩ := h.own_ne
  refine ⟨h.below.trans (ho.to_below l1 l2 h.big), hp, h.q.of_blocks (fun j hj hc => ho.block j hj ?_ ?_), h.low, h.dis⟩
  · rcases hc with rfl | hc
    · exact Ne.symm d1
    · rintro rfl; exact n1 hc
  · rcases hc with rfl | hc
    · exact Ne.symm d2
    · rintro rfl; exact n2 hc
theorem TlW.turn_q {L' : List Ro} {v' : Value} (h : TlW w0 wr B0 g b gr wd s L v) (ho : RCh wr w' gr v) (hq : RefP w' B0 gr wd L' v') : TlW w0 w' B0 g b gr wd s L' v' := by
  obtain ⟨l0, l1, l2, l3⟩ := h.low
  obtain ⟨d1, d2⟩ := h.dis
  obtain ⟨n1, n2⟩ := h.own_ne
  exact ⟨h.below.trans (ho.to_below h.q l3 h.big), h.p.of_blocks (ho.block g h.p.rep.cells.lt d1 n1) (ho.block b h.p.rep.map.lt d2 n2), hq, h.low, h.dis⟩
end
structure TlInv (w0 wr : World) (B0 g b gr : Nat) (wd : Int) (k : Nat) (L : List Ro) (v : Value) : Prop where
  wld : TlW w0 wr B0 g b gr wd (absS L) L v
  good : Good (absS L) (k + 1000)
  len : L.length ≤ k

set_option maxRecDepth 100000 in
set_option maxHeartbeats 8000000 in
theorem tells44_in (wd : Int) (A : Option Addr) (n cap : Nat) (l : List Stp) (w : World) (hn : n ≤ 40) (hw0 : 1 ≤ wd) (hw1 : wd ≤ 16) (hok : ∀ x ∈ l, (-9223372036854775808 ≤ x.hour ∧ x.hour ≤ 9223372036854775807) ∧ (-9223372036854775808 ≤ x.call.number ∧ x.call.number ≤ 9223372036854775807)) (hs : Sl (Pl stepC) 8 w w.heap.size A n l) :
    Calls Try.prog 6 #[.int .i64 wd, .slice A n cap] w fun e w' =>
      e = .returned (.bool true) ∧ Below w.heap.size w w' := by
  have HOK := Lib.hid hok
  clear hok
  go_enter Try.func6, Try.ntmps6
  go_wp2_with fail
  refine (small44_any _).mono ?_
  rintro e wa ⟨rfl, hba⟩
  have hza := hba.size
  have hsa := hs.keep (Pl.lasts _) hba (Nat.le_refl _)
  clear hs
  go_wp2_with fail
  refine (new_in wd _ hw0 hw1).mono ?_
  rintro e wb ⟨rfl, hbb, hzb, hpb⟩
  have hPb : Post wb (wa.heap.size + 1) wa.heap.size wd ⟨0, fun _ => none⟩ := ⟨hpb⟩
  have hsb := hsa.keep (Pl.lasts _) (hbb.mono (by omega)) (Nat.le_refl _)
  have hbwb := hba.trans (hbb.mono (by omega))
  clear hpb hsa hba hbb
  go_wp2_with fail
  refine (refNew_in wd _ hw0 hw1).mono ?_
  rintro e w0 ⟨rfl, hbc, hzc, hpc⟩
  have hP0 := hPb.below hbc
  have hs0 := hsb.keep (Pl.lasts _) (hbc.mono (by omega)) (Nat.le_refl _)
  have hbw0 := hbwb.trans (hbc.mono (by omega))
  obtain ⟨b, hb⟩ : ∃ b, b = wa.heap.size := ⟨_, rfl⟩
  obtain ⟨g, hg⟩ : ∃ g, g = b + 1 := ⟨_, rfl⟩
  obtain ⟨gr, hgr⟩ : ∃ gr, gr = wb.heap.size := ⟨_, rfl⟩
  obtain ⟨B0, hB0⟩ : ∃ B0, B0 = w.heap.size := ⟨_, rfl⟩
  have hQ0 := hpc B0
  rw [← hb, ← hg] at hP0
  rw [← hgr] at hQ0
  rw [← hb, ← hg, ← hgr]
  rw [← hB0] at hs0 hbw0
  have hST : TlInv w0 w0 B0 g b gr wd 0 [] (.slice none 0 0) :=
    ⟨⟨Below.refl _ _, hP0, hQ0, ⟨by omega, by omega, by omega, by omega⟩, ⟨by omega, by omega⟩⟩, Good.start.mono (by omega), Nat.le_refl _⟩
  have HST := Lib.hid hST
  have HBW := Lib.hid hbw0
  have HB0 := Lib.hid hB0
  clear hST hP0 hQ0 hPb hsb hbw0 hbwb hbc hpc hb hg hgr hza hzb hzc hB0
  go_wp2_with fail
  go_loopw [8] (fun v8 wr => ∃ (k : Nat) (L : List Ro) (v : Value), k ≤ n ∧ v8 = .int .i64 (k : Int) ∧ TlInv w0 wr B0 g b gr wd k L v) (fun v8 _ => n - (intOf v8).toNat)
  case atStart => exact ⟨0, _, _, Nat.zero_le _, rfl, HST.out⟩
  case round =>
    obtain ⟨k, L, v, hk, rfl, hinv⟩ := hrel
    obtain ⟨wo, rfl⟩ : ∃ wo : World, wo = wr := ⟨_, rfl⟩
    have HI := Lib.hid hinv
    have hLk := hinv.len
    clear hinv
    by_cases hlt : k < n
    · obtain ⟨bo, oo, x, rfl, hbl, hx, hc⟩ := hs0.at_ hlt
      obtain ⟨hHB, hNB⟩ := HOK.out x (List.mem_of_getElem? hx)
      have e0 := hc wo HI.out.wld.below 0 _ rfl
      have e1 := hc wo HI.out.wld.below 1 _ rfl
      have e2 := hc wo HI.out.wld.below 2 _ rfl
      have e3 := hc wo HI.out.wld.below 3 _ rfl
      have e4 := hc wo HI.out.wld.below 4 _ rfl
      have e5 := hc wo HI.out.wld.below 5 _ rfl
      have e6 := hc wo HI.out.wld.below 6 _ rfl
      have e7 := hc wo HI.out.wld.below 7 _ rfl
      simp only [Nat.add_zero] at e0
      have HHB := Lib.hid hHB
      have HNB := Lib.hid hNB
      have HG := Lib.hid HI.out.good
      have hkn : (k : Int) < (n : Int) := by omega
      obtain ⟨X, hX⟩ : ∃ X, X = wo.heap.size := ⟨_, rfl⟩
      have hbX := Bk.new wo 44 #[.int .i64 x.kind, .int .i64 x.town, .int .i64 x.level, .int .i64 x.hour, .int .i64 x.call.town, .int .i64 x.call.level, .int .i64 x.call.number, .int .i64 x.call.warden]
      have hI1 := HI.out.wld.on ((Below.refl _ _).alloc (Nat.le_refl _) (.cells #[.int .i64 x.kind, .int .i64 x.town, .int .i64 x.level, .int .i64 x.hour, .int .i64 x.call.town, .int .i64 x.call.level, .int .i64 x.call.number, .int .i64 x.call.warden] 44))
      have hz1 : (wo.alloc (.cells #[.int .i64 x.kind, .int .i64 x.town, .int .i64 x.level, .int .i64 x.hour, .int .i64 x.call.town, .int .i64 x.call.level, .int .i64 x.call.number, .int .i64 x.call.warden] 44)).heap.size = X + 1 := by rw [hX]; simp
      rw [← hX] at hbX
      have hgX : g < X := by have := HI.out.wld.p.rep.cells.lt; omega
      have hbX' : b < X := by have := HI.out.wld.p.rep.map.lt; omega
      have hrX : gr < X := by have := HI.out.wld.q.cells.lt; omega
      have HHX := Lib.hid hX
      have HW : Hid (∃ W, W = wo.alloc (.cells #[.int .i64 x.kind, .int .i64 x.town, .int .i64 x.level, .int .i64 x.hour, .int .i64 x.call.town, .int .i64 x.call.level, .int .i64 x.call.number, .int .i64 x.call.warden] 44)) := ⟨_, rfl⟩
      clear hc hx hHB hNB hX
      generalize hdo : doK x.kind = d
      have hb3 : bits .and .i64 x.kind 3 = d := hdo
      have hXL : X < (wo.alloc (.cells #[.int .i64 x.kind, .int .i64 x.town, .int .i64 x.level, .int .i64 x.hour, .int .i64 x.call.town, .int .i64 x.call.level, .int .i64 x.call.number, .int .i64 x.call.warden] 44)).heap.size := by rw [hz1]; omega
      have HXL := Lib.hid hXL
      have HBX := Lib.hid hbX
      have HI1 := Lib.hid hI1
      have HID1 := Lib.hid (hI1.on (Below.refl _ _).drew)
      clear hdo hXL hz1
      have cX : ∀ j, (wo.alloc (.cells #[.int .i64 x.kind, .int .i64 x.town, .int .i64 x.level, .int .i64 x.hour, .int .i64 x.call.town, .int .i64 x.call.level, .int .i64 x.call.number, .int .i64 x.call.warden] 44)).drew.cell? ⟨X, j, none⟩ = #[.int .i64 x.kind, .int .i64 x.town, .int .i64 x.level, .int .i64 x.hour, .int .i64 x.call.town, .int .i64 x.call.level, .int .i64 x.call.number, .int .i64 x.call.warden][j]? := hbX.cell
      have cX' : ∀ j, (wo.alloc (.cells #[.int .i64 x.kind, .int .i64 x.town, .int .i64 x.level, .int .i64 x.hour, .int .i64 x.call.town, .int .i64 x.call.level, .int .i64 x.call.number, .int .i64 x.call.warden] 44)).cell? ⟨X, j, none⟩ = #[.int .i64 x.kind, .int .i64 x.town, .int .i64 x.level, .int .i64 x.hour, .int .i64 x.call.town, .int .i64 x.call.level, .int .i64 x.call.number, .int .i64 x.call.warden][j]? := hbX.cell
      clear hbX hI1
      by_cases hd0 : d = 0
      · have hd0b : (d == 0) = true := by simp [hd0]
        clear hd0
        go_wp2_with fail
        rw [show wo.heap.size = X from HHX.out.symm]
        refine wp_region_M [0, 1, 2, 3, 4, 5, 6, 8, 9, 10, 11, 12, 13, 14, 7, 15, 16, 17] [7, 15] (fun w' => ∀ j, w'.cell? ⟨X, j, none⟩ = #[.int .i64 x.kind, .int .i64 x.town, .int .i64 x.level, .int .i64 x.hour, .int .i64 x.call.town, .int .i64 x.call.level, .int .i64 x.call.number, .int .i64 x.call.warden][j]?) (by kernel_rfl) (by kernel_rfl) cX ?_
        iterate 14 (refine M_pure (by rfl) (by rfl) ?_; apply Exists.intro; apply And.intro; (case left => (intro w hSw; (try dsimp only at hSw); go_simp; try with_reducible rfl)); (try simp only [Act.put, List.setIfInBounds_toArray, List.set_cons_zero, List.set_cons_succ]))
        (refine M_call (by rfl) (by rfl) ?_; apply Exists.intro; apply Exists.intro; apply And.intro; (case left => (go_simp; exact ⟨rfl, rfl⟩)))
        refine (raise_any g b wd x.town x.level x.hour (absS L) (k + 1000) (by omega) HG.out _ HID1.out.p).mono ?_
        rintro e W2 ⟨rfl, ho2, hp2⟩
        have hI2 := HID1.out.turn_p ho2 hp2
        have hbX2 : Bk W2 X 44 #[.int .i64 x.kind, .int .i64 x.town, .int .i64 x.level, .int .i64 x.hour, .int .i64 x.call.town, .int .i64 x.call.level, .int .i64 x.call.number, .int .i64 x.call.warden] := (ho2.block X HXL.out (by omega) (by omega)).trans HBX.out
        have HI2 := Lib.hid hI2
        have HBX2 := Lib.hid hbX2
        clear ho2 hp2 hI2
        refine ⟨_, rfl, hbX2.cell, ?_⟩
        clear hbX2
        (try simp only [Act.put, List.setIfInBounds_toArray, List.set_cons_zero, List.set_cons_succ])
        (refine M_call (by rfl) (by rfl) ?_; apply Exists.intro; apply Exists.intro; apply And.intro; (case left => (go_simp; exact ⟨rfl, rfl⟩)))
        refine (refRaise_any B0 gr wd x.town x.level x.hour L v _ (by omega) HI2.out.big HI2.out.q).mono ?_
        rintro e W3 ⟨rfl, ho3, L3, v3, hq3, he3, hl3⟩
        have hI3 := HI2.out.turn_q ho3 hq3
        have hbX3 : Bk W3 X 44 #[.int .i64 x.kind, .int .i64 x.town, .int .i64 x.level, .int .i64 x.hour, .int .i64 x.call.town, .int .i64 x.call.level, .int .i64 x.call.number, .int .i64 x.call.warden] := (ho3.block X HBX2.out.lt (by omega) (fun e => own_bk_ne HI2.out.q.own HBX2.out (by decide) e)).trans HBX2.out
        have HI3 := Lib.hid hI3
        have HBX3 := Lib.hid hbX3
        have HE3 := Lib.hid he3
        clear ho3 hq3 hI3 he3
        refine ⟨_, rfl, hbX3.cell, ?_⟩
        clear hbX3
        (try simp only [Act.put, List.setIfInBounds_toArray, List.set_cons_zero, List.set_cons_succ])
        iterate 2 (refine M_pure (by rfl) (by rfl) ?_; apply Exists.intro; apply And.intro; (case left => (intro w hSw; (try dsimp only at hSw); go_simp; try with_reducible rfl)); (try simp only [Act.put, List.setIfInBounds_toArray, List.set_cons_zero, List.set_cons_succ]))
        refine M_nil ?_
        try dsimp only
        clear cX cX' e0 e1 e2 e3 e4 e5 e6 e7
        have HREL : Hid (∃ (k' : Nat) (L' : List Ro) (v' : Value), k' ≤ n ∧ Value.int .i64 ((k : Int) + 1) = .int .i64 (k' : Int) ∧ TlInv w0 W3 B0 g b gr wd k' L' v') :=
          ⟨k + 1, L3, v3, by omega, by go_num, by have := HI3.out; rw [← HE3.out] at this; exact this, by rw [HE3.out]; exact (HG.out.raise _ _ _).mono (by omega), by omega⟩
        go_wp2
        go_roundw
        case rel => exact HREL.out
        case measure => simp [intOf]; omega
      · have hd0b : (d == 0) = false := by simp [hd0]
        by_cases hd1 : d = 1
        · have hd1b : (d == 1) = true := by simp [hd1]
          clear hd0 hd1
          go_wp2_with fail
          rw [show wo.heap.size = X from HHX.out.symm]
          refine wp_region_M [0, 1, 2, 4, 5, 6, 3, 7, 8, 9] [3, 7] (fun w' => ∀ j, w'.cell? ⟨X, j, none⟩ = #[.int .i64 x.kind, .int .i64 x.town, .int .i64 x.level, .int .i64 x.hour, .int .i64 x.call.town, .int .i64 x.call.level, .int .i64 x.call.number, .int .i64 x.call.warden][j]?) (by kernel_rfl) (by kernel_rfl) cX ?_
          iterate 6 (refine M_pure (by rfl) (by rfl) ?_; apply Exists.intro; apply And.intro; (case left => (intro w hSw; (try dsimp only at hSw); go_simp; try with_reducible rfl)); (try simp only [Act.put, List.setIfInBounds_toArray, List.set_cons_zero, List.set_cons_succ]))
          (refine M_call (by rfl) (by rfl) ?_; apply Exists.intro; apply Exists.intro; apply And.intro; (case left => (go_simp; exact ⟨rfl, rfl⟩)))
          refine (ack_any g b wd x.call (absS L) _ HID1.out.p).mono ?_
          rintro e W2 ⟨rfl, ho2, hp2⟩
          have hI2 := HID1.out.turn_p ho2 hp2
          have hbX2 : Bk W2 X 44 #[.int .i64 x.kind, .int .i64 x.town, .int .i64 x.level, .int .i64 x.hour, .int .i64 x.call.town, .int .i64 x.call.level, .int .i64 x.call.number, .int .i64 x.call.warden] := (ho2.block X HXL.out (by omega) (by omega)).trans HBX.out
          have HI2 := Lib.hid hI2
          have HBX2 := Lib.hid hbX2
          clear ho2 hp2 hI2
          refine ⟨_, rfl, hbX2.cell, ?_⟩
          clear hbX2
          (try simp only [Act.put, List.setIfInBounds_toArray, List.set_cons_zero, List.set_cons_succ])
          (refine M_call (by rfl) (by rfl) ?_; apply Exists.intro; apply Exists.intro; apply And.intro; (case left => (go_simp; exact ⟨rfl, rfl⟩)))
          refine (refAck_any B0 gr wd x.call L v _ HI2.out.q (by omega) HNB.out).mono ?_
          rintro e W3 ⟨rfl, ho3, L3, hq3, he3, hl3⟩
          have hI3 := HI2.out.turn_q ho3 hq3
          have hbX3 : Bk W3 X 44 #[.int .i64 x.kind, .int .i64 x.town, .int .i64 x.level, .int .i64 x.hour, .int .i64 x.call.town, .int .i64 x.call.level, .int .i64 x.call.number, .int .i64 x.call.warden] := (ho3.block X HBX2.out.lt (by omega) (fun e => own_bk_ne HI2.out.q.own HBX2.out (by decide) e)).trans HBX2.out
          have HI3 := Lib.hid hI3
          have HBX3 := Lib.hid hbX3
          have HE3 := Lib.hid he3
          clear ho3 hq3 hI3 he3
          refine ⟨_, rfl, hbX3.cell, ?_⟩
          clear hbX3
          (try simp only [Act.put, List.setIfInBounds_toArray, List.set_cons_zero, List.set_cons_succ])
          iterate 2 (refine M_pure (by rfl) (by rfl) ?_; apply Exists.intro; apply And.intro; (case left => (intro w hSw; (try dsimp only at hSw); go_simp; try with_reducible rfl)); (try simp only [Act.put, List.setIfInBounds_toArray, List.set_cons_zero, List.set_cons_succ]))
          refine M_nil ?_
          try dsimp only
          clear cX cX' e0 e1 e2 e3 e4 e5 e6 e7
          rw [show awaitsB (absS L).F wd x.call.town x.call.number x.call.warden = awaitsB (absF L) wd x.call.town x.call.number x.call.warden from rfl]
          generalize awaitsB (absF L) wd x.call.town x.call.number x.call.warden = av
          have hav : (av == av) = true := by simp
          have HREL : Hid (∃ (k' : Nat) (L' : List Ro) (v' : Value), k' ≤ n ∧ Value.int .i64 ((k : Int) + 1) = .int .i64 (k' : Int) ∧ TlInv w0 W3 B0 g b gr wd k' L' v') :=
            ⟨k + 1, L3, v, by omega, by go_num, by have := HI3.out; rw [← HE3.out] at this; exact this, by rw [HE3.out]; exact (HG.out.ack _ _).mono (by omega), by omega⟩
          go_wp2
          go_roundw
          case rel => exact HREL.out
          case measure => simp [intOf]; omega
        · have hd1b : (d == 1) = false := by simp [hd1]
          by_cases hd2 : d = 2
          · have hd2b : (d == 2) = true := by simp [hd2]
            clear hd0 hd1 hd2
            go_wp2_with fail
            rw [show wo.heap.size = X from HHX.out.symm]
            refine wp_region_M [0, 1, 2, 4, 5, 6, 3, 7, 8, 9] [3, 7] (fun w' => ∀ j, w'.cell? ⟨X, j, none⟩ = #[.int .i64 x.kind, .int .i64 x.town, .int .i64 x.level, .int .i64 x.hour, .int .i64 x.call.town, .int .i64 x.call.level, .int .i64 x.call.number, .int .i64 x.call.warden][j]?) (by kernel_rfl) (by kernel_rfl) cX ?_
            iterate 6 (refine M_pure (by rfl) (by rfl) ?_; apply Exists.intro; apply And.intro; (case left => (intro w hSw; (try dsimp only at hSw); go_simp; try with_reducible rfl)); (try simp only [Act.put, List.setIfInBounds_toArray, List.set_cons_zero, List.set_cons_succ]))
            (refine M_call (by rfl) (by rfl) ?_; apply Exists.intro; apply Exists.intro; apply And.intro; (case left => (go_simp; exact ⟨rfl, rfl⟩)))
            refine (awaits_post g b wd x.call (absS L) _ HID1.out.p).mono ?_
            rintro e W2 ⟨rfl, hb2, hp2⟩
            have ho2 := Only2.of_below g b hb2
            clear hb2
            have hI2 := HID1.out.turn_p ho2 hp2
            have hbX2 : Bk W2 X 44 #[.int .i64 x.kind, .int .i64 x.town, .int .i64 x.level, .int .i64 x.hour, .int .i64 x.call.town, .int .i64 x.call.level, .int .i64 x.call.number, .int .i64 x.call.warden] := (ho2.block X HXL.out (by omega) (by omega)).trans HBX.out
            have HI2 := Lib.hid hI2
            have HBX2 := Lib.hid hbX2
            clear ho2 hp2 hI2
            refine ⟨_, rfl, hbX2.cell, ?_⟩
            clear hbX2
            (try simp only [Act.put, List.setIfInBounds_toArray, List.set_cons_zero, List.set_cons_succ])
            (refine M_call (by rfl) (by rfl) ?_; apply Exists.intro; apply Exists.intro; apply And.intro; (case left => (go_simp; exact ⟨rfl, rfl⟩)))
            refine (refAwaits_any B0 gr wd x.call L v _ HI2.out.q (by omega) HNB.out).mono ?_
            rintro e W3 ⟨rfl, hb3⟩
            have ho3 := RCh.of_below (g := gr) (v := v) hb3
            have hq3 := HI2.out.q.below hb3
            have he3 : absS L = absS L := rfl
            clear hb3
            have hI3 := HI2.out.turn_q ho3 hq3
            have hbX3 : Bk W3 X 44 #[.int .i64 x.kind, .int .i64 x.town, .int .i64 x.level, .int .i64 x.hour, .int .i64 x.call.town, .int .i64 x.call.level, .int .i64 x.call.number, .int .i64 x.call.warden] := (ho3.block X HBX2.out.lt (by omega) (fun e => own_bk_ne HI2.out.q.own HBX2.out (by decide) e)).trans HBX2.out
            have HI3 := Lib.hid hI3
            have HBX3 := Lib.hid hbX3
            have HE3 := Lib.hid he3
            clear ho3 hq3 hI3 he3
            refine ⟨_, rfl, hbX3.cell, ?_⟩
            clear hbX3
            (try simp only [Act.put, List.setIfInBounds_toArray, List.set_cons_zero, List.set_cons_succ])
            iterate 2 (refine M_pure (by rfl) (by rfl) ?_; apply Exists.intro; apply And.intro; (case left => (intro w hSw; (try dsimp only at hSw); go_simp; try with_reducible rfl)); (try simp only [Act.put, List.setIfInBounds_toArray, List.set_cons_zero, List.set_cons_succ]))
            refine M_nil ?_
            try dsimp only
            clear cX cX' e0 e1 e2 e3 e4 e5 e6 e7
            rw [show awaitsB (absS L).F wd x.call.town x.call.number x.call.warden = awaitsB (absF L) wd x.call.town x.call.number x.call.warden from rfl]
            generalize awaitsB (absF L) wd x.call.town x.call.number x.call.warden = av
            have hav : (av == av) = true := by simp
            have HREL : Hid (∃ (k' : Nat) (L' : List Ro) (v' : Value), k' ≤ n ∧ Value.int .i64 ((k : Int) + 1) = .int .i64 (k' : Int) ∧ TlInv w0 W3 B0 g b gr wd k' L' v') :=
              ⟨k + 1, L, v, by omega, by go_num, HI3.out, HG.out.mono (by omega), by omega⟩
            go_wp2
            go_roundw
            case rel => exact HREL.out
            case measure => simp [intOf]; omega
          · have hd2b : (d == 2) = false := by simp [hd2]
            clear hd0 hd1 hd2
            go_wp2_with fail
            rw [show wo.heap.size = X from HHX.out.symm]
            refine wp_region_M [0, 1, 2, 4, 5, 6, 3, 7, 8, 9] [3, 7, 8] (fun w' => ∀ j, w'.cell? ⟨X, j, none⟩ = #[.int .i64 x.kind, .int .i64 x.town, .int .i64 x.level, .int .i64 x.hour, .int .i64 x.call.town, .int .i64 x.call.level, .int .i64 x.call.number, .int .i64 x.call.warden][j]?) (by kernel_rfl) (by kernel_rfl) cX ?_
            iterate 6 (refine M_pure (by rfl) (by rfl) ?_; apply Exists.intro; apply And.intro; (case left => (intro w hSw; (try dsimp only at hSw); go_simp; try with_reducible rfl)); (try simp only [Act.put, List.setIfInBounds_toArray, List.set_cons_zero, List.set_cons_succ]))
            (refine M_call (by rfl) (by rfl) ?_; apply Exists.intro; apply Exists.intro; apply And.intro; (case left => (go_simp; exact ⟨rfl, rfl⟩)))
            refine (due_post g b wd x.hour (absS L) (k + 1000) HG.out _ HID1.out.p hw1 HHB.out).mono ?_
            rintro e W2 ⟨A2, cap2, rfl, hb2, hp2, _, hs2⟩
            have ho2 := Only2.of_below g b hb2
            have HS2 := Lib.hid hs2
            clear hb2 hs2
            have hI2 := HID1.out.turn_p ho2 hp2
            have hbX2 : Bk W2 X 44 #[.int .i64 x.kind, .int .i64 x.town, .int .i64 x.level, .int .i64 x.hour, .int .i64 x.call.town, .int .i64 x.call.level, .int .i64 x.call.number, .int .i64 x.call.warden] := (ho2.block X HXL.out (by omega) (by omega)).trans HBX.out
            have HI2 := Lib.hid hI2
            have HBX2 := Lib.hid hbX2
            clear ho2 hp2 hI2
            refine ⟨_, rfl, hbX2.cell, ?_⟩
            clear hbX2
            (try simp only [Act.put, List.setIfInBounds_toArray, List.set_cons_zero, List.set_cons_succ])
            (refine M_call (by rfl) (by rfl) ?_; apply Exists.intro; apply Exists.intro; apply And.intro; (case left => (go_simp; exact ⟨rfl, rfl⟩)))
            refine (refDue_any B0 gr wd x.hour L v _ HI2.out.q (by omega) hw0 hw1 HHB.out (fun t o ho => ⟨(HG.out.od t o ho).2.2.2.2.1, (HG.out.od t o ho).2.2.2.2.2.1⟩)).mono ?_
            rintro e W3 ⟨A3, cap3, rfl, hb3, hs3⟩
            have HS3 := Lib.hid hs3
            have HS2' := Lib.hid (HS2.out.keep (Pl.lasts _) hb3 hb3.size)
            have ho3 := RCh.of_below (g := gr) (v := v) hb3
            have hq3 := HI2.out.q.below hb3
            have he3 : absS L = absS L := rfl
            clear hb3 hs3
            have hI3 := HI2.out.turn_q ho3 hq3
            have hbX3 : Bk W3 X 44 #[.int .i64 x.kind, .int .i64 x.town, .int .i64 x.level, .int .i64 x.hour, .int .i64 x.call.town, .int .i64 x.call.level, .int .i64 x.call.number, .int .i64 x.call.warden] := (ho3.block X HBX2.out.lt (by omega) (fun e => own_bk_ne HI2.out.q.own HBX2.out (by decide) e)).trans HBX2.out
            have HI3 := Lib.hid hI3
            have HBX3 := Lib.hid hbX3
            have HE3 := Lib.hid he3
            clear ho3 hq3 hI3 he3
            refine ⟨_, rfl, hbX3.cell, ?_⟩
            clear hbX3
            (try simp only [Act.put, List.setIfInBounds_toArray, List.set_cons_zero, List.set_cons_succ])
            (refine M_call (by rfl) (by rfl) ?_; apply Exists.intro; apply Exists.intro; apply And.intro; (case left => (go_simp; exact ⟨rfl, rfl⟩)))
            refine (sameCalls_any (dueL (absF L) wd x.hour) A2 A3 _ cap2 cap3 _ (Nat.le_trans (due_len (absF L) hw1 x.hour) (by unfold maxLen; omega)) HS2'.out HS3.out).mono ?_
            rintro e W4 ⟨rfl, hb4⟩
            have HI4 := Lib.hid (HI3.out.on hb4)
            have hbX4 := HBX3.out.below hb4 HBX3.out.lt
            have HBX4 := Lib.hid hbX4
            clear hb4
            refine ⟨_, rfl, hbX4.cell, ?_⟩
            clear hbX4
            (try simp only [Act.put, List.setIfInBounds_toArray, List.set_cons_zero, List.set_cons_succ])
            iterate 1 (refine M_pure (by rfl) (by rfl) ?_; apply Exists.intro; apply And.intro; (case left => (intro w hSw; (try dsimp only at hSw); go_simp; try with_reducible rfl)); (try simp only [Act.put, List.setIfInBounds_toArray, List.set_cons_zero, List.set_cons_succ]))
            refine M_nil ?_
            try dsimp only
            clear cX cX' e0 e1 e2 e3 e4 e5 e6 e7
            go_wp2_with fail
            refine (open_any g b wd _ _ _ HI4.out.p.rep).mono ?_
            rintro e W5 ⟨A5, cap5, rfl, hb5, hs5⟩
            have hI5 := HI4.out.on hb5
            have HI5 := Lib.hid hI5
            clear hb5 hI5
            go_wp2_with fail
            refine (refOpen_any B0 gr wd L v _ HI5.out.q (by omega)).mono ?_
            rintro e W6 ⟨A6, cap6, rfl, hb6, hs6⟩
            have HS6 := Lib.hid hs6
            have HS5 := Lib.hid (hs5.keep (Pl.lasts _) hb6 hb6.size)
            have hI6 := HI5.out.on hb6
            have HI6 := Lib.hid hI6
            clear hs5 hs6 hb6 hI6
            go_wp2_with fail
            refine (sameTowns_any (openL (absF L) 40) A5 A6 _ cap5 cap6 _ (Nat.le_trans (openL_len (absF L) 40) (by unfold maxLen; omega)) HS5.out HS6.out).mono ?_
            rintro e W7 ⟨rfl, hb7⟩
            have hI7 := HI6.out.on hb7
            have HI7 := Lib.hid hI7
            clear hb7 hI7
            have HREL : Hid (∃ (k' : Nat) (L' : List Ro) (v' : Value), k' ≤ n ∧ Value.int .i64 ((k : Int) + 1) = .int .i64 (k' : Int) ∧ TlInv w0 W7 B0 g b gr wd k' L' v') :=
              ⟨k + 1, L, v, by omega, by go_num, HI7.out, HG.out.mono (by omega), by omega⟩
            go_wp2
            go_roundw
            case rel => exact HREL.out
            case measure => simp [intOf]; omega
    · have hkn : k = n := by omega
      subst hkn
      go_wp2
      go_ret
      have := HBW.out.trans HI.out.wld.below
      rw [HB0.out] at this
      exact ⟨rfl, this⟩

set_option maxRecDepth 100000 in
set_option maxHeartbeats 1000000 in
theorem tells44_all (wd : Int) (A : Option Addr) (n cap : Nat) (l : List Stp) (w : World) (hnm : n ≤ maxLen) (hok : ∀ x ∈ l, (-9223372036854775808 ≤ x.hour ∧ x.hour ≤ 9223372036854775807) ∧ (-9223372036854775808 ≤ x.call.number ∧ x.call.number ≤ 9223372036854775807)) (hs : Sl (Pl stepC) 8 w w.heap.size A n l) :
    Calls Try.prog 6 #[.int .i64 wd, .slice A n cap] w fun e w' =>
      e = .returned (.bool true) ∧ Below w.heap.size w w' := by
  unfold maxLen at hnm
  by_cases h : 1 ≤ wd ∧ wd ≤ 16
  · obtain ⟨h1, h2⟩ := h
    by_cases hn : n ≤ 40
    · exact tells44_in wd A n cap l w hn h1 h2 hok hs
    · have hn' : (40 : Int) < (n : Int) := by omega
      clear hok
      go_enter Try.func6, Try.ntmps6
      go_wp2_with fail
      refine (small44_any _).mono ?_
      rintro e w0 ⟨rfl, hb0⟩
      go_wp2_with fail
      refine (new_in wd _ h1 h2).mono ?_
      rintro e w1 ⟨rfl, hb1, hz1, _⟩
      go_wp2_with fail
      refine (refNew_in wd _ h1 h2).mono ?_
      rintro e w2 ⟨rfl, hb2, _, _⟩
      have hz := hb0.size
      go_wp2
      go_ret
      exact ⟨rfl, (hb0.trans (hb1.mono (by omega))).trans (hb2.mono (by omega))⟩
  · have h' : wd < 1 ∨ 16 < wd := by omega
    clear hok
    go_enter Try.func6, Try.ntmps6
    go_wp2_with fail
    refine (small44_any _).mono ?_
    rintro e w0 ⟨rfl, hb0⟩
    go_wp2_with fail
    refine (new_out wd _ h').mono ?_
    rintro e w1 ⟨rfl, rfl⟩
    go_wp2_with fail
    refine (refNew_out wd _ h').mono ?_
    rintro e w2 ⟨rfl, rfl⟩
    go_wp2
    go_ret
    exact ⟨rfl, hb0⟩

end Go.Proofs.Ytlhaoiplbebgnaa
