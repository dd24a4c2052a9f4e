/- The walks of the reference of layer 44: Open, Due, Same, SameTowns. -/
import Derived.Test.YtlhaoiplbebgnaaWardenTA
set_option linter.unusedSimpArgs false
set_option linter.unusedVariables false
namespace Go.Proofs.Ytlhaoiplbebgnaa
open Go.RowKit

set_option maxRecDepth 100000 in
set_option maxHeartbeats 400000 in
theorem sameCalls_any (l : List Cl) (A A' : Option Addr) (n cap cap' : Nat) (w : World) (hn : n ≤ maxLen) (h : Sl (Pl callC) 4 w w.heap.size A n l) (h' : Sl (Pl callC) 4 w w.heap.size A' n l) :
    Calls Try.prog 28 #[.slice A n cap, .slice A' n cap'] w fun e w' => e = .returned (.bool true) ∧ Below w.heap.size w w' := by
  unfold maxLen at hn
  go_enter Try.func28, Try.ntmps28
  go_wp2
  go_loopw [5] (fun i wr => ∃ k : Nat, k ≤ n ∧ i = .int .i64 k ∧ Below w.heap.size w wr) (fun i _ => n - (intOf i).toNat)
  case atStart => exact ⟨0, Nat.zero_le _, rfl, Below.refl _ _⟩
  case round =>
    obtain ⟨k, hk, rfl, hb⟩ := hrel
    by_cases hlt : k < n
    · obtain ⟨b, o, x, rfl, _, hx, hc⟩ := h.at_ hlt
      obtain ⟨b', o', x', rfl, _, hx', hc'⟩ := h'.at_ hlt
      obtain rfl : x = x' := by rw [hx] at hx'; injection hx'
      have hkn : (k : Int) < (n : Int) := by omega
      have e0 := hc wr.drew hb.drew 0 _ rfl
      have g0 := hc' wr.drew hb.drew 0 _ rfl
      have e1 := hc wr.drew hb.drew 1 _ rfl
      have g1 := hc' wr.drew hb.drew 1 _ rfl
      have e2 := hc wr.drew hb.drew 2 _ rfl
      have g2 := hc' wr.drew hb.drew 2 _ rfl
      have e3 := hc wr.drew hb.drew 3 _ rfl
      have g3 := hc' wr.drew hb.drew 3 _ rfl
      simp only [Nat.add_zero] at e0 g0
      clear hx hx' hc hc'
      go_wp2_with fail
      refine wp_region_head 9 (fun w' => w' = wr.drew) (by kernel_rfl) (by kernel_rfl) rfl ?_
      iterate 9 (refine chain_pure (by rfl) ?_; apply Exists.intro; apply And.intro; (case left => (intro w hSw; (try dsimp only at hSw); go_simp; try with_reducible rfl)); (try simp only [Act.put, List.setIfInBounds_toArray, List.set_cons_zero, List.set_cons_succ]))
      intro W hSW
      subst hSW
      go_wp2
      go_roundw
      case rel => exact ⟨k + 1, by omega, by go_num, hb.drew⟩
      case measure => simp [intOf]; omega
    · go_wp2
      go_ret
      exact ⟨rfl, hb⟩

set_option maxRecDepth 100000 in
set_option maxHeartbeats 400000 in
theorem sameTowns_any (l : List Int) (A A' : Option Addr) (n cap cap' : Nat) (w : World) (hn : n ≤ maxLen) (h : Sl (Pl fun n => [.int .i64 n]) 1 w w.heap.size A n l) (h' : Sl (Pl fun n => [.int .i64 n]) 1 w w.heap.size A' n l) :
    Calls Try.prog 31 #[.slice A n cap, .slice A' n cap'] w fun e w' => e = .returned (.bool true) ∧ Below w.heap.size w w' := by
  unfold maxLen at hn
  go_enter Try.func31, Try.ntmps31
  go_wp2
  go_loopw [5] (fun i wr => ∃ k : Nat, k ≤ n ∧ i = .int .i64 k ∧ Below w.heap.size w wr) (fun i _ => n - (intOf i).toNat)
  case atStart => exact ⟨0, Nat.zero_le _, rfl, Below.refl _ _⟩
  case round =>
    obtain ⟨k, hk, rfl, hb⟩ := hrel
    by_cases hlt : k < n
    · obtain ⟨b, o, x, rfl, _, hx, hc⟩ := h.at_ hlt
      obtain ⟨b', o', x', rfl, _, hx', hc'⟩ := h'.at_ hlt
      obtain rfl : x = x' := by rw [hx] at hx'; injection hx'
      have hkn : (k : Int) < (n : Int) := by omega
      have e0 := hc wr.drew hb.drew 0 _ rfl
      have g0 := hc' wr.drew hb.drew 0 _ rfl
      simp only [Nat.add_zero, Nat.mul_one] at e0 g0
      clear hx hx' hc hc'
      go_wp2_with fail
      refine wp_region_head 9 (fun w' => w' = wr.drew) (by kernel_rfl) (by kernel_rfl) rfl ?_
      iterate 9 (refine chain_pure (by rfl) ?_; apply Exists.intro; apply And.intro; (case left => (intro w hSw; (try dsimp only at hSw); go_simp; try with_reducible rfl)); (try simp only [Act.put, List.setIfInBounds_toArray, List.set_cons_zero, List.set_cons_succ]))
      intro W hSW
      subst hSW
      go_wp2
      go_roundw
      case rel => exact ⟨k + 1, by omega, by go_num, hb.drew⟩
      case measure => simp [intOf]; omega
    · go_wp2
      go_ret
      exact ⟨rfl, hb⟩

set_option maxRecDepth 100000 in
set_option maxHeartbeats 400000 in
theorem refOpen_any (B0 g : Nat) (wd : Int) (L : List Ro) (v : Value) (w : World) (hp : RefP w B0 g wd L v) (hL : L.length ≤ 1000) :
    Calls Try.prog 33 #[.pointer (some ⟨g, 0, none⟩)] w fun e w' =>
      ∃ A cap, e = .returned (.slice A (openL (absF L) 40).length cap) ∧ Below w.heap.size w w' ∧ Sl (Pl fun n => [.int .i64 n]) 1 w' w'.heap.size A (openL (absF L) 40).length (openL (absF L) 40) := by
  obtain ⟨i0, ti0, ti1, ti2, ti3⟩ := info_parts info_int
  have HP := Lib.hid hp
  clear hp
  go_enter Try.func33, Try.ntmps33
  go_wp2
  go_loopw [3, 4] (fun out i wr => ∃ k : Nat, k ≤ 40 ∧ i = .int .i64 k ∧ OpenRel w wr (absF L) k out) (fun _ i _ => 40 - (intOf i).toNat)
  case atStart => exact ⟨0, by omega, rfl, Below.refl _ _, World.ownsRow_nil _ _ _ _⟩
  case round =>
    obtain ⟨k, hk, rfl, hb, ho⟩ := hrel
    by_cases hlt : k < 40
    · have hpr := HP.out.below (hb.mono (Nat.le_refl _))
      have HPR := Lib.hid hpr
      have hO := Lib.hid ho
      have hop := openL_succ (absF L) k
      have HOP := Lib.hid hop
      have hlen := openL_len (absF L) k
      have hs := hb.size
      clear ho hop hpr
      go_wp2_with fail
      refine (last_any B0 g wd k L v _ HPR.out hL).mono ?_
      rintro e w1 ⟨rfl, rfl⟩
      cases hl : lastI L (k : Int) with
      | none =>
        have hob : openB (absF L) k = false := by unfold openB; rw [lastI_none hl]
        have HOB := Lib.hid hob
        clear hl hob
        unfold lastN
        dsimp only
        go_wp2
        go_roundw
        case rel => exact ⟨k + 1, by omega, by go_num, hb, by rw [HOP.out, HOB.out]; simpa using hO.out⟩
        case measure => simp [intOf]; omega
      | some i =>
        obtain ⟨x, hx, hxt, hil, hF⟩ := lastI_get hl
        obtain ⟨A, cap, rfl, hsl⟩ := Sl.of_own (sz := 4) (fun _ => rfl) (by decide) HPR.out.own
        obtain ⟨b, o, x', rfl, hbl, hx', hc⟩ := hsl.at_ hil
        obtain rfl : x = x' := by rw [hx] at hx'; injection hx'
        have e3 := hc wr (Below.refl _ _) 3 _ rfl
        have c := HPR.out.cells.cell
        have hob : openB (absF L) k = !x.fin := by unfold openB; rw [hF]
        have HOB := Lib.hid hob
        have hiL : (i : Int) < (L.length : Int) := by omega
        have hi0 : (0 : Int) ≤ (i : Int) := by omega
        clear hl hx hx' hxt hF hc hob hsl
        unfold lastN
        dsimp only
        cases hfin : x.fin with
        | true =>
          rw [hfin] at e3 HOB
          clear hfin
          go_wp2
          go_roundw
          case rel => exact ⟨k + 1, by omega, by go_num, hb, by rw [HOP.out, HOB.out]; simpa using hO.out⟩
          case measure => simp [intOf]; omega
        | false =>
          rw [hfin] at e3 HOB
          clear hfin
          go_wp2_with (at_builtin; go_must (refine wpList_append_own _ rfl (.tmp 26) (.tmp 28) _ rfl w.heap.size 3 i0 (.int .i64 0) 1 8 Try.underlying51 ti0 ti1 ti2 ti3 rfl (by decide) u3 (openL (absF L) k).length ((openL (absF L) k).flatMap fun n => [.int .i64 n]) rfl (hO.out.alloc _) ⟨_, 0, none⟩ 1 1 [.int .i64 (k : Int)] rfl rfl (new_cells _ rfl _ _) (by intro u hu; simp at hu; subst hu; rfl) (by unfold maxLen; omega) (by omega) ?c5 ?_))
          case c5 => simp; omega
          intro v2 w2 hown2 hg2 _
          have hbw : Below w.heap.size w w2 := (hb.alloc hs _).grown hg2 (by simp; omega) (fun j hj => (hO.out.lt j hj).1)
          have HR : Hid (OpenRel w w2 (absF L) (k + 1) v2) := by
            refine ⟨hbw, ?_⟩
            rw [HOP.out, HOB.out]
            simpa using hown2
          clear c hg2 hown2 e3
          go_wp2
          go_roundw
          case rel => exact ⟨k + 1, by omega, by go_num, HR.out⟩
          case measure => simp [intOf]; omega
    · have hk40 : k = 40 := by omega
      subst hk40
      go_wp2
      obtain ⟨A', cap', rfl, hsl⟩ := Sl.of_own (sz := 1) (fun _ => rfl) (by decide) ho
      go_ret
      exact ⟨A', cap', rfl, hb, hsl⟩

def InnerRef (w1 wi : World) (X : Nat) (x : Ro) (done : List Cl) (t : Int) (o : Od) (m : Nat) (out : Value) : Prop :=
  Below w1.heap.size w1 wi ∧ Bk wi X 76 (roC x).toArray ∧
  wi.ownsRow w1.heap.size 42 4 out (done.length + m) ((done ++ callsN t o m).flatMap callC)

set_option maxRecDepth 100000 in
set_option maxHeartbeats 2000000 in
theorem refDue_any (B0 g : Nat) (wd hour : Int) (L : List Ro) (v : Value) (w : World) (hp : RefP w B0 g wd L v) (hL : L.length ≤ 1000) (hwd0 : 1 ≤ wd) (hwd : wd ≤ 16) (hh : -9223372036854775808 ≤ hour ∧ hour ≤ 9223372036854775807) (hF : ∀ t o, absF L t = some o → 0 ≤ o.hour ∧ o.hour ≤ 16777216) :
    Calls Try.prog 30 #[.pointer (some ⟨g, 0, none⟩), .int .i64 hour] w fun e w' =>
      ∃ A cap, e = .returned (.slice A (dueL (absF L) wd hour).length cap) ∧ Below w.heap.size w w' ∧ Sl (Pl callC) 4 w' w'.heap.size A (dueL (absF L) wd hour).length (dueL (absF L) wd hour) := by
  obtain ⟨i0, ti0, ti1, ti2, ti3⟩ := info_parts info_call
  have HP := Lib.hid hp
  have HFF := Lib.hid hF
  clear hp hF
  go_enter Try.func30, Try.ntmps30
  go_wp2_with fail
  refine (refOpen_any B0 g wd L v _ HP.out hL).mono ?_
  rintro e w1 ⟨A, cap, rfl, hb1, hs1⟩
  have hp1 := HP.out.below hb1
  have HP1 := Lib.hid hp1
  have hlo := openL_len (absF L) 40
  have hz1 := hb1.size
  clear hp1
  generalize hN : (openL (absF L) 40).length = N at *
  have HN := Lib.hid hN
  clear hN
  go_wp2
  go_loopw [6, 7] (fun out i wr => ∃ k : Nat, k ≤ N ∧ i = .int .i64 k ∧ DueRel w1 wr (((openL (absF L) 40).take k).flatMap (callsT (absF L) wd hour)) out) (fun _ i _ => N - (intOf i).toNat)
  case atStart => exact ⟨0, by omega, rfl, Below.refl _ _, World.ownsRow_nil _ _ _ _⟩
  case round =>
    obtain ⟨k, hk, rfl, hb, ho⟩ := hrel
    obtain ⟨wo, rfl⟩ : ∃ wo : World, wo = wr := ⟨_, rfl⟩
    by_cases hlt : k < N
    · obtain ⟨bo, oo, t, rfl, hbl, ht, hct⟩ := hs1.at_ hlt
      obtain ⟨od, hFo, hfin, ht0, ht1⟩ := openL_mem (List.mem_of_getElem? ht)
      have hho := HFF.out t od hFo
      have hpr := HP1.out.below (hb.mono (Nat.le_refl _))
      have hcT : ∀ W, Below w1.heap.size w1 W → W.cell? ⟨bo, oo + k, none⟩ = some (.int .i64 t) := fun W h => by simpa using hct W h 0 _ rfl
      have HCT := Lib.hid hcT
      have e0 := hcT wo hb
      obtain ⟨i, hl⟩ : ∃ i, lastI L t = some i := by
        cases hl : lastI L t with
        | none => rw [lastI_none hl] at hFo; cases hFo
        | some i => exact ⟨i, rfl⟩
      obtain ⟨x, hx, hxt, hil, hFx⟩ := lastI_get hl
      obtain rfl : od = ⟨x.level, (i : Int) + 1, x.hour, x.fin⟩ := by rw [hFo] at hFx; injection hFx
      simp only at hho hfin
      have hO := Lib.hid ho
      have HT := Lib.hid ht
      have HFO := Lib.hid hFo
      have HL := Lib.hid hl
      have HPR := Lib.hid hpr
      have hs := hb.size
      have hkn : (k : Int) < (N : Int) := by omega
      clear ho hpr hct ht hFo hl hcT
      have hdl := dueL_take_len (absF L) hwd hour k
      have hend : ((openL (absF L) 40).take (k + 1)).flatMap (callsT (absF L) wd hour) = ((openL (absF L) 40).take k).flatMap (callsT (absF L) wd hour) ++ callsN t ⟨x.level, (i : Int) + 1, x.hour, x.fin⟩ (nDue wd hour x.hour) := by
        rw [List.take_add_one, HT.out, List.flatMap_append]
        simp [callsT, HFO.out]
      have HE := Lib.hid hend
      clear hend
      generalize hdone : ((openL (absF L) 40).take k).flatMap (callsT (absF L) wd hour) = done at *
      obtain ⟨oo', hoo⟩ : ∃ oo' : Od, oo' = ⟨x.level, (i : Int) + 1, x.hour, x.fin⟩ := ⟨_, rfl⟩
      rw [← hoo] at HE
      have HOO := Lib.hid hoo
      have hnd : nDue wd hour x.hour ≤ 16 ∧ ((nDue wd hour x.hour : Nat) : Int) ≤ wd := by unfold nDue; split <;> omega
      obtain ⟨nd, hndd⟩ : ∃ nd, nd = nDue wd hour x.hour := ⟨_, rfl⟩
      rw [← hndd] at hnd HE
      have HND := Lib.hid hndd
      clear hdone hoo hndd
      go_wp2_with fail
      refine (last_any B0 g wd t L v _ HPR.out hL).mono ?_
      rintro e w3 ⟨rfl, rfl⟩
      rw [HL.out]
      obtain ⟨A', cap', rfl, hsl⟩ := Sl.of_own (sz := 4) (fun _ => rfl) (by decide) HPR.out.own
      obtain ⟨b, o, x', rfl, hbl', hx', hc⟩ := hsl.at_ hil
      obtain rfl : x = x' := by rw [hx] at hx'; injection hx'
      have f0 := hc wo (Below.refl _ _) 0 _ rfl
      have f1 := hc wo (Below.refl _ _) 1 _ rfl
      have f2 := hc wo (Below.refl _ _) 2 _ rfl
      have f3 := hc wo (Below.refl _ _) 3 _ rfl
      simp only [Nat.add_zero] at f0
      have c := HPR.out.cells.cell
      have hiL : (i : Int) < (L.length : Int) := by omega
      have hi0 : (0 : Int) ≤ (i : Int) := by omega
      clear hc hx hx' hxt hFx hsl hfin
      unfold lastN
      dsimp only
      have hR0 : InnerRef w1 (wo.alloc (.cells (roC x).toArray 76)) wo.heap.size x done t oo' (min 0 nd) u6 := by
        refine ⟨hb.alloc hs _, Bk.new wo _ _, ?_⟩
        rw [Nat.zero_min]
        simpa [callsN] using hO.out.alloc _
      have HR0 := Lib.hid hR0
      obtain ⟨X, hX⟩ : ∃ X, X = wo.heap.size := ⟨_, rfl⟩
      rw [← hX] at HR0
      have hgX : g < X := by rw [hX]; exact HPR.out.cells.lt
      have HX := Lib.hid hX
      clear hR0
      go_wp2_with fail
      rw [← hX]
      clear hX
      go_loopw [6, 10] (fun out i wi => ∃ m : Nat, (m : Int) ≤ wd ∧ i = .int .i64 m ∧ InnerRef w1 wi X x done t oo' (min m nd) out) (fun _ i _ => wd.toNat - (intOf i).toNat)
      case atStart => exact ⟨0, by omega, rfl, HR0.out⟩
      case round =>
        obtain ⟨m, hm, rfl, hbi, hki, hoi⟩ := hrel
        obtain ⟨wi, rfl⟩ : ∃ wi : World, wi = wr := ⟨_, rfl⟩
        have ci : ∀ j, wi.cell? ⟨g, j, none⟩ = #[.int .i64 wd, .slice (some ⟨b, o, none⟩) L.length cap'][j]? := (HP1.out.below (hbi.mono (Nat.le_refl _))).cells.cell
        have di : ∀ j, wi.cell? ⟨X, j, none⟩ = #[.int .i64 x.town, .int .i64 x.level, .int .i64 x.hour, .bool x.fin][j]? := hki.cell
        have hzi := hbi.size
        have hli := hki.lt
        have HKI := Lib.hid hki
        have HOI := Lib.hid hoi
        have HBI := Lib.hid hbi
        clear c f0 f1 f2 f3 hki hoi e0 hbi
        by_cases hmw : (m : Int) < wd
        · by_cases hdue : x.hour + 3 * (m : Int) ≤ hour
          · have hmn : m < nd := by rw [HND.out]; unfold nDue; rw [if_pos (by omega)]; omega
            have hmin : min m nd = m := by omega
            have hmin2 : min (m + 1) nd = m + 1 := by omega
            have HM2 := Lib.hid hmin2
            have HM1 := Lib.hid hmin
            have HS : ∀ W, Below wi.heap.size wi W → (Below w1.heap.size w1 W ∧ W.cell? ⟨bo, oo + k, none⟩ = some (.int .i64 t) ∧ (∀ j, W.cell? ⟨X, j, none⟩ = #[.int .i64 x.town, .int .i64 x.level, .int .i64 x.hour, .bool x.fin][j]?)) := fun W h => by
              have hB := HBI.out.trans (h.mono hzi)
              exact ⟨hB, HCT.out W hB, (HKI.out.below h hli).cell⟩
            have HS0 := Lib.hid (HS wi.drew (Below.refl _ _).drew)
            have HS1 := Lib.hid (HS (wi.drew.alloc (.cells (callC ⟨t, x.level, (i : Int) + 1, (m : Int)⟩).toArray 42)) (((Below.refl _ _).drew).alloc (Nat.le_refl _) _))
            have HR : Hid (∀ v2 w2, w2.ownsRow w1.heap.size 42 4 v2 (done.length + min m nd + 1) ((done ++ callsN t oo' (min m nd)).flatMap callC ++ callC ⟨t, x.level, (i : Int) + 1, (m : Int)⟩) → (wi.drew.alloc (.cells (callC ⟨t, x.level, (i : Int) + 1, (m : Int)⟩).toArray 42)).grownBy w2 u6.ownBlock →
                (Below w1.heap.size w1 w2 ∧ w2.cell? ⟨bo, oo + k, none⟩ = some (.int .i64 t) ∧ (∀ j, w2.cell? ⟨X, j, none⟩ = #[.int .i64 x.town, .int .i64 x.level, .int .i64 x.hour, .bool x.fin][j]?)) ∧ InnerRef w1 w2 X x done t oo' (min (m + 1) nd) v2) := by
              intro v2 w2 hown2 hg2
              have hob : ∀ j, u6.ownBlock = some j → w1.heap.size ≤ j := fun j hj => (HOI.out.lt j hj).1
              have hne := own_bk_ne HOI.out HKI.out (by decide)
              have hbw : Below w1.heap.size w1 w2 := (HBI.out.drew.alloc hzi _).grown hg2 (by simp; omega) (fun j hj => hob j hj)
              have hk2 : Bk w2 X 76 _ := (HKI.out.drew.alloc _).grown hg2 (fun e => hne e.symm)
              refine ⟨⟨hbw, HCT.out _ hbw, hk2.cell⟩, hbw, hk2, ?_⟩
              rw [HM2.out, callsN_succ, ← List.append_assoc, List.flatMap_append]
              rw [HM1.out] at hown2
              rw [HOO.out] at hown2 ⊢
              simpa [Nat.add_assoc] using hown2
            have hm3 : (m : Int) ≤ 16 := by omega
            have HBX := Lib.hid HS
            clear hmin hmin2 HS
            have hmle : min m nd ≤ 16 := by omega
            have hwi : IntKind.i64.wrap ((i : Int) + 1) = (i : Int) + 1 := IntWalk.i64_in _ (by omega)
            go_wp2_with fail
            refine wp_region_M [0, 1, 2, 3, 4, 5, 6, 7, 8, 9, 10, 11, 12, 13] [11, 12] (fun w' => Below w1.heap.size w1 w' ∧ w'.cell? ⟨bo, oo + k, none⟩ = some (.int .i64 t) ∧ (∀ j, w'.cell? ⟨X, j, none⟩ = #[.int .i64 x.town, .int .i64 x.level, .int .i64 x.hour, .bool x.fin][j]?)) (by kernel_rfl) (by kernel_rfl) HS0.out ?_
            iterate 11 (refine M_pure (by rfl) (by rfl) ?_; apply Exists.intro; apply And.intro; (case left => (intro w hSw; (try dsimp only at hSw); go_simp; try with_reducible rfl)); (try simp only [Act.put, List.setIfInBounds_toArray, List.set_cons_zero, List.set_cons_succ]))
            refine M_do (by rfl) (by rfl) ?_
            refine ⟨.slice (some ⟨wi.heap.size, 0, none⟩) 1 1, wi.drew.alloc (.cells (callC ⟨t, x.level, (i : Int) + 1, (m : Int)⟩).toArray 42), (by unfold callC; go_simp), HS1.out, ?_⟩
            (try simp only [Act.put, List.setIfInBounds_toArray, List.set_cons_zero, List.set_cons_succ])
            refine M_append (by rfl) (by rfl) (.tmp 47) (.tmp 58) _ rfl w1.heap.size 42 i0 (.agg #[.int .i64 0, .int .i64 0, .int .i64 0, .int .i64 0]) 4 32 Try.underlying48 ti0 ti1 ti2 ti3 rfl (by decide) u6 (done.length + min m nd) ((done ++ callsN t oo' (min m nd)).flatMap callC) rfl (HOI.out.drew.alloc _) ⟨wi.heap.size, 0, none⟩ 1 1 (callC ⟨t, x.level, (i : Int) + 1, (m : Int)⟩) rfl rfl (new_cells _ rfl _ _) (by intro u hu; simp [callC] at hu; rcases hu with rfl | rfl | rfl | rfl <;> rfl) (by unfold maxLen; omega) (by omega) (by simp; omega) ?_
            intro v2 w2 hown2 hg2 hat2
            have hHR := HR.out v2 w2 hown2 hg2
            refine ⟨hHR.1, ?_⟩
            have HRR := Lib.hid hHR.2
            clear hown2 hg2 hat2 hHR
            (try simp only [Act.put, List.setIfInBounds_toArray, List.set_cons_zero, List.set_cons_succ])
            iterate 1 (refine M_pure (by rfl) (by rfl) ?_; apply Exists.intro; apply And.intro; (case left => (intro w hSw; (try dsimp only at hSw); go_simp; try with_reducible rfl)); (try simp only [Act.put, List.setIfInBounds_toArray, List.set_cons_zero, List.set_cons_succ]))
            refine M_nil ?_
            try dsimp only
            clear ci di hwi
            go_wp2
            go_roundw
            case rel => exact ⟨m + 1, by omega, by go_num, HRR.out⟩
            case measure => simp [intOf]; omega
          · have hdue' : hour < x.hour + 3 * (m : Int) := by omega
            have hmin : min (m + 1) nd = min m nd := by
              have : nd ≤ m := by rw [HND.out]; unfold nDue; split <;> omega
              omega
            have HM := Lib.hid hmin
            clear hmin
            go_wp2
            go_roundw
            case rel => exact ⟨m + 1, by omega, by go_num, by rw [HM.out]; exact ⟨HBI.out, HKI.out, HOI.out⟩⟩
            case measure => simp [intOf]; omega
        · have hmm : min m nd = nd := by omega
          have HMM := Lib.hid hmm
          have REL : Hid (∃ k' : Nat, k' ≤ N ∧ Value.int .i64 ((k : Int) + 1) = .int .i64 (k' : Int) ∧ DueRel w1 wi (((openL (absF L) 40).take k').flatMap (callsT (absF L) wd hour)) u6) := by
            refine ⟨k + 1, by omega, by go_num, HBI.out, ?_⟩
            rw [HE.out, List.length_append, callsN_len]
            have := HOI.out
            rw [HMM.out] at this
            exact this
          clear hmm
          have hmw' : wd ≤ (m : Int) := by omega
          go_wp2
          go_roundw
          case rel => exact REL.out
          case measure => simp [intOf]; omega
    · have hkN : k = N := by omega
      subst hkN
      go_wp2
      rw [List.take_of_length_le (by rw [HN.out]; exact Nat.le_refl _)] at ho
      obtain ⟨A', cap', rfl, hsl⟩ := Sl.of_own (sz := 4) (fun _ => rfl) (by decide) ho
      go_ret
      exact ⟨A', cap', rfl, hb1.trans (hb.mono hz1), hsl⟩

end Go.Proofs.Ytlhaoiplbebgnaa
