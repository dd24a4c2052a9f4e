/- Law WardenAcks: the walk. -/
import Derived.Test.YtlhaoiplbebgnaaWardenAc
import Derived.IntWalk
set_option linter.unusedSimpArgs false
set_option linter.unusedVariables false
namespace Go.Proofs.Ytlhaoiplbebgnaa
open Go.RowKit

def AcInv (w4 wr : World) (g b : Nat) (wd : Int) (s : St) (L : List Cl) (M : Nat) (k acc : Nat) : Prop :=
  Only2 w4 wr g b ∧ Post wr g b wd (sT s (L.take k)) ∧ (openL (sT s (L.take k)).F 40).length + acc = M

set_option maxRecDepth 100000 in
set_option maxHeartbeats 4000000 in
theorem acks_in (wd hour : Int) (A : Option Addr) (n cap : Nat) (l : List Stp) (w : World) (hn : n ≤ 40) (hw0 : 1 ≤ wd) (hw1 : wd ≤ 16) (hh : -9223372036854775808 ≤ hour ∧ hour ≤ 9223372036854775807) (hs : Sl (Pl stepC) 8 w w.heap.size A n l) :
    Calls Try.prog 8 #[.int .i64 wd, .slice A n cap, .int .i64 hour] w fun e w' =>
      e = .returned (.bool true) ∧ Below w.heap.size w w' := by
  go_enter Try.func8, Try.ntmps8
  go_wp2_with fail
  refine (small44_any _).mono ?_
  rintro e w0 ⟨rfl, hb0⟩
  have hz0 := hb0.size
  have hs0 := hs.keep (Pl.lasts _) hb0 hz0
  have hln : l.length = n := hs.1
  clear hs
  go_wp2_with fail
  refine (new_in wd _ hw0 hw1).mono ?_
  rintro e w1 ⟨rfl, hb1, hz1, hp1⟩
  have hP1 : Post w1 (w0.heap.size + 1) w0.heap.size wd s0 := ⟨hp1⟩
  have hs1 := hs0.keep (Pl.lasts _) hb1 (Nat.le_refl _)
  have HP1 := Lib.hid hP1
  obtain ⟨b, hb⟩ : ∃ b, b = w0.heap.size := ⟨_, rfl⟩
  obtain ⟨g, hg⟩ : ∃ g, g = b + 1 := ⟨_, rfl⟩
  rw [← hb, ← hg] at HP1
  rw [← hb] at hz1 hs1
  rw [← hb, ← hg]
  have hbw1 := hb0.trans (hb1.mono (by omega))
  have hwb : w.heap.size ≤ b := by omega
  have hwg : w.heap.size ≤ g := by omega
  have hbg : b ≤ g := by omega
  clear hp1 hP1 hs0 hb1 hb0 hz0 hb hg
  go_wp2_with fail
  refine (run_warden g b wd s0 A n cap b l _ (by omega) (Good.start.mono (by omega)) HP1.out hs1 hbg (Nat.le_refl _)).mono ?_
  rintro e w2 ⟨rfl, ho2, hp2⟩
  have hgs : Good (runS wd s0 l) 1000 := (Good.run Good.start).mono (by omega)
  have hbw2 := hbw1.trans (ho2.to_below hwg hwb (by omega))
  have hz2 := ho2.size
  generalize runS wd s0 l = s at *
  have HGS := Lib.hid hgs
  have HP2 := Lib.hid hp2
  have hgl := hp2.rep.cells.lt
  have hbl := hp2.rep.map.lt
  clear hgs hp2 ho2 hbw1 hs1
  go_wp2_with fail
  refine (due_post g b wd hour s 1000 HGS.out _ HP2.out hw1 hh).mono ?_
  rintro e w3 ⟨A3, cap3, rfl, hb3, hp3, hlow, hs3⟩
  have hlen := due_len s.F hw1 hour
  have hdue : ∀ y ∈ dueL s.F wd hour, ∀ ll, awaitsB (sT s ll).F wd y.town y.number y.warden = (!touch ll y.town) ∧ ackS wd (sT s ll) y = sT s (ll ++ [y]) ∧ (touch ll y.town = false → (openL (sT s (ll ++ [y])).F 40).length + 1 = (openL (sT s ll).F 40).length) :=
    fun y hy ll => ⟨awaits_T hy (by omega) ll, ack_T hy (by omega) ll, fun ht => open_first hy (by omega) ht⟩
  have hnext : ∀ (k : Nat) (x y : Cl), (dueL s.F wd hour)[k]? = some x → (dueL s.F wd hour)[k + 1]? = some y → touch ((dueL s.F wd hour).take (k + 1)) y.town = decide (x.town = y.town) := fun k x y hx hy => touch_next hx hy
  have hend := due_end s wd hour
  generalize dueL s.F wd hour = L at *
  have HDUE := Lib.hid hdue
  have HNEXT := Lib.hid hnext
  have HEND := Lib.hid hend
  have HLOW := Lib.hid hlow
  have HP3 := Lib.hid hp3
  have hz3 := hb3.size
  clear hdue hnext hend hlow hp3
  generalize hN : L.length = N at *
  have HN := Lib.hid hN
  clear hN
  go_wp2_with fail
  refine (open_any g b wd s.many s.F _ HP3.out.rep).mono ?_
  rintro e w4 ⟨A4, cap4, rfl, hb4, hs4⟩
  have hM : (openL s.F 40).length ≤ 40 := openL_len _ _
  have hop0 : (openL (sT s (L.take 0)).F 40).length + 0 = (openL s.F 40).length := by rw [List.take_zero, sT_nil]; rfl
  generalize (openL s.F 40).length = M at *
  have hz4 := hb4.size
  have hbw4 : Below w.heap.size w w4 := (hbw2.trans (hb3.mono (by omega))).trans (hb4.mono (by omega))
  have HP4 := Lib.hid (HP3.out.below hb4)
  have HB4 := Lib.hid hb4
  have HOP0 := Lib.hid hop0
  clear hop0 hb4 hs4 hb3
  go_wp2_with fail
  go_loopw [11, 12] (fun v11 v12 wr => ∃ k acc : Nat, k ≤ N ∧ v11 = .int .i64 (acc : Int) ∧ v12 = .int .i64 (k : Int) ∧ AcInv w4 wr g b wd s L M k acc) (fun _ v12 _ => N - (intOf v12).toNat)
  case atStart => exact ⟨0, 0, Nat.zero_le _, rfl, rfl, Only2.refl _ _ _, by rw [List.take_zero, sT_nil]; exact HP4.out, HOP0.out⟩
  case round =>
    obtain ⟨k, acc, hk, rfl, rfl, ho, hpr, hac⟩ := hrel
    obtain ⟨wo, rfl⟩ : ∃ wo : World, wo = wr := ⟨_, rfl⟩
    by_cases hlt : k < N
    · obtain ⟨b1, o1, y, rfl, hl1, hy, hc⟩ := hs3.at_ hlt
      have hlow1 := HLOW.out _ rfl
      have hne1 : b1 ≠ g := by have : w2.heap.size ≤ b1 := hlow1; omega
      have hne2 : b1 ≠ b := by have : w2.heap.size ≤ b1 := hlow1; omega
      have hcell : ∀ W, Only2 w4 W g b → W.cell? ⟨b1, o1 + k * 4, none⟩ = some (.int .i64 y.town) ∧ W.cell? ⟨b1, o1 + k * 4 + 1, none⟩ = some (.int .i64 y.level) ∧ W.cell? ⟨b1, o1 + k * 4 + 2, none⟩ = some (.int .i64 y.number) ∧ W.cell? ⟨b1, o1 + k * 4 + 3, none⟩ = some (.int .i64 y.warden) := by
        intro W h
        have q : ∀ j u, (callC y)[j]? = some u → W.cell? ⟨b1, o1 + k * 4 + j, none⟩ = some u := fun j u hu =>
          (World.cell?_of_block (h.block b1 (by omega) hne1 hne2)).trans (hc w4 HB4.out j u hu)
        exact ⟨q 0 _ rfl, q 1 _ rfl, q 2 _ rfl, q 3 _ rfl⟩
      have HC := Lib.hid hcell
      have hym := List.mem_of_getElem? hy
      have hdy := HDUE.out y hym (L.take k)
      have HTK := Lib.hid (take_snocS hy)
      have haccM : acc ≤ M := by omega
      have HAC := Lib.hid hac
      have hkn : (k : Int) < (N : Int) := by omega
      rcases Nat.eq_zero_or_pos k with hk0 | hkp
      · subst hk0
        have htk : touch (L.take 0) y.town = false := by simp [touch]
        have haw : awaitsB (sT s (L.take 0)).F wd y.town y.number y.warden = true := by rw [hdy.1, htk]; rfl
        have HAW := Lib.hid haw
        have HAK := Lib.hid hdy.2.1
        have HOF : Hid ((openL (sT s (L.take 0 ++ [y])).F 40).length + 1 + acc = M) := by have := hdy.2.2 htk; have := HAC.out; show _ = _; omega
        have han : awaitsB (sT s (L.take 0 ++ [y])).F wd y.town y.number y.warden = false := by rw [(HDUE.out y hym _).1, touch_snoc]; simp
        have HAN := Lib.hid han
        have HPX := Lib.hid (hpr.below (Below.refl _ _).drew)
        have HOX := Lib.hid ho.drew
        clear hcell hc hy hdy hac ho hpr htk haw han
        go_wp2_with fail
        refine wp_region_head 16 (fun w' => w' = wo.drew) (by kernel_rfl) (by kernel_rfl) rfl ?_
        iterate 3 (refine chain_pure (by rfl) ?_; apply Exists.intro; apply And.intro; (case left => (intro w hSw; (try dsimp only at hSw); go_simp; try with_reducible rfl)); (try simp only [Act.put, List.setIfInBounds_toArray, List.set_cons_zero, List.set_cons_succ]))
        iterate 12 (refine chain_off (by rfl) ?_; (try simp only [Act.put, List.setIfInBounds_toArray, List.set_cons_zero, List.set_cons_succ]))
        iterate 1 (refine chain_pure (by rfl) ?_; apply Exists.intro; apply And.intro; (case left => (intro w hSw; (try dsimp only at hSw); go_simp; try with_reducible rfl)); (try simp only [Act.put, List.setIfInBounds_toArray, List.set_cons_zero, List.set_cons_succ]))
        intro W hSW
        subst hSW
        obtain ⟨f0, f1, f2, f3⟩ := HC.out _ HOX.out
        simp only [Nat.zero_mul, Nat.add_zero] at f0 f1 f2 f3
        go_wp2_with fail
        refine (awaits_post g b wd y (sT s (L.take 0)) _ HPX.out).mono ?_
        rintro e W2 ⟨rfl, hb2, hp2⟩
        rw [show awaitsB (sT s (L.take 0)).F wd y.town y.number y.warden = true from HAW.out]
        have ho2 := HOX.out.trans (Only2.of_below g b hb2)
        obtain ⟨f0, f1, f2, f3⟩ := HC.out W2 ho2
        simp only [Nat.zero_mul, Nat.add_zero] at f0 f1 f2 f3
        have HP2 := Lib.hid hp2
        have HO2 := Lib.hid ho2
        clear hp2 ho2 hb2
        go_wp2_with fail
        refine (ack_any g b wd y (sT s (L.take 0)) _ HP2.out).mono ?_
        rintro e W3 ⟨rfl, ho3, hp3⟩
        rw [show awaitsB (sT s (L.take 0)).F wd y.town y.number y.warden = true from HAW.out]
        rw [HAK.out] at hp3
        have ho3' := HO2.out.trans ho3
        clear f0 f1 f2 f3
        obtain ⟨f0, f1, f2, f3⟩ := HC.out W3 ho3'
        simp only [Nat.zero_mul, Nat.add_zero] at f0 f1 f2 f3
        have HP3 := Lib.hid hp3
        have HO3 := Lib.hid ho3'
        clear hp3 ho3' ho3
        go_wp2_with fail
        refine (awaits_post g b wd y (sT s (L.take 0 ++ [y])) _ HP3.out).mono ?_
        rintro e W4 ⟨rfl, hb4, hp4⟩
        rw [show awaitsB (sT s (L.take 0 ++ [y])).F wd y.town y.number y.warden = false from HAN.out]
        have ho4 := HO3.out.trans (Only2.of_below g b hb4)
        clear f0 f1 f2 f3
        have HREL : Hid (∃ k' acc' : Nat, k' ≤ N ∧ Value.int .i64 ((acc : Int) + 1) = .int .i64 (acc' : Int) ∧ Value.int .i64 (0 + 1) = .int .i64 (k' : Int) ∧ AcInv w4 W4 g b wd s L M k' acc') :=
          ⟨0 + 1, acc + 1, by omega, by go_num, by go_num, ho4, by rw [HTK.out]; exact hp4, by rw [HTK.out]; have := HOF.out; omega⟩
        clear hp4 ho4 hb4
        go_wp2
        go_roundw
        case rel => exact HREL.out
        case measure => simp [intOf]; omega
      · obtain ⟨b2, o2, x, hA2, _, hx, hc2⟩ := hs3.at_ (k := k - 1) (by omega)
        obtain ⟨rfl, rfl⟩ : b1 = b2 ∧ o1 = o2 := by injection hA2 with h; injection h with h1 h2 _; exact ⟨h1, h2⟩
        have hcx : wo.cell? ⟨b1, o1 + (k - 1) * 4, none⟩ = some (.int .i64 x.town) := (World.cell?_of_block (ho.block b1 (by omega) hne1 hne2)).trans (hc2 w4 HB4.out 0 _ rfl)
        have hcx' : wo.drew.cell? ⟨b1, o1 + (k - 1) * 4, none⟩ = some (.int .i64 x.town) := hcx
        have hkk1 : (1 : Int) ≤ (k : Int) := by omega
        have hkk2 : (k : Int) - 1 < (N : Int) := by omega
        have htk : touch (L.take k) y.town = decide (x.town = y.town) := by
          have := HNEXT.out (k - 1) x y hx (by rw [show k - 1 + 1 = k by omega]; exact hy)
          rw [show k - 1 + 1 = k by omega] at this
          exact this
        have HPX := Lib.hid (hpr.below (Below.refl _ _).drew)
        have HOX := Lib.hid ho.drew
        obtain ⟨f0, f1, f2, f3⟩ := HC.out _ HOX.out
        have hwr : IntKind.i64.wrap ((k : Int) - 1) = (k : Int) - 1 := IntWalk.i64_in _ (by omega)
        have hwn : ((k : Int) - 1).toNat = k - 1 := by omega
        have hwz : (0 : Int) ≤ (k : Int) - 1 := by omega
        have HWR := Lib.hid hwr
        have hdk : decide ((0 : Int) < (k : Int)) = true := by simp; omega
        by_cases hxy : x.town = y.town
        · rw [decide_eq_true hxy] at htk
          have haw : awaitsB (sT s (L.take k)).F wd y.town y.number y.warden = false := by rw [hdy.1, htk]; rfl
          have HAW := Lib.hid haw
          have hak := hdy.2.1
          have hag := open_again (s := s) htk
          have HAK := Lib.hid hak
          have HAG := Lib.hid hag
          have hxyb : (x.town == y.town) = true := by simp [hxy]
          clear hcell hc hc2 hy hx hdy hac ho hpr htk haw hxy hA2 hcx hak hag
          go_wp2_with fail
          refine wp_region_head 16 (fun w' => w' = wo.drew) (by kernel_rfl) (by kernel_rfl) rfl ?_
          iterate 16 (refine chain_pure (by rfl) ?_; apply Exists.intro; apply And.intro; (case left => (intro w hSw; (try dsimp only at hSw); go_simp; try with_reducible rfl)); (try simp only [Act.put, List.setIfInBounds_toArray, List.set_cons_zero, List.set_cons_succ]))
          intro W hSW
          subst hSW
          go_wp2_with fail
          refine (ack_any g b wd y (sT s (L.take k)) _ HPX.out).mono ?_
          rintro e W3 ⟨rfl, ho3, hp3⟩
          rw [show awaitsB (sT s (L.take k)).F wd y.town y.number y.warden = false from HAW.out]
          rw [HAK.out] at hp3
          have ho4 := HOX.out.trans ho3
          have HREL : Hid (∃ k' acc' : Nat, k' ≤ N ∧ Value.int .i64 (acc : Int) = .int .i64 (acc' : Int) ∧ Value.int .i64 ((k : Int) + 1) = .int .i64 (k' : Int) ∧ AcInv w4 W3 g b wd s L M k' acc') :=
            ⟨k + 1, acc, by omega, rfl, by go_num, ho4, by rw [HTK.out]; exact hp3, by rw [HTK.out, HAG.out]; exact HAC.out⟩
          clear hp3 ho4 ho3 f0 f1 f2 f3
          go_wp2
          go_roundw
          case rel => exact HREL.out
          case measure => simp [intOf]; omega
        · rw [decide_eq_false hxy] at htk
          have haw : awaitsB (sT s (L.take k)).F wd y.town y.number y.warden = true := by rw [hdy.1, htk]; rfl
          have HAW := Lib.hid haw
          have HAK := Lib.hid hdy.2.1
          have HOF : Hid ((openL (sT s (L.take k ++ [y])).F 40).length + 1 + acc = M) := by have := hdy.2.2 htk; have := HAC.out; show _ = _; omega
          have han : awaitsB (sT s (L.take k ++ [y])).F wd y.town y.number y.warden = false := by rw [(HDUE.out y hym _).1, touch_snoc]; simp
          have HAN := Lib.hid han
          have hxyb : (x.town == y.town) = false := by simp [hxy]
          clear hcell hc hc2 hy hx hdy hac ho hpr htk haw hxy hA2 hcx han
          go_wp2_with fail
          refine wp_region_head 16 (fun w' => w' = wo.drew) (by kernel_rfl) (by kernel_rfl) rfl ?_
          iterate 16 (refine chain_pure (by rfl) ?_; apply Exists.intro; apply And.intro; (case left => (intro w hSw; (try dsimp only at hSw); go_simp; try with_reducible rfl)); (try simp only [Act.put, List.setIfInBounds_toArray, List.set_cons_zero, List.set_cons_succ]))
          intro W hSW
          subst hSW
          go_wp2_with fail
          refine (awaits_post g b wd y (sT s (L.take k)) _ HPX.out).mono ?_
          rintro e W2 ⟨rfl, hb2, hp2⟩
          rw [show awaitsB (sT s (L.take k)).F wd y.town y.number y.warden = true from HAW.out]
          have ho2 := HOX.out.trans (Only2.of_below g b hb2)
          obtain ⟨f0, f1, f2, f3⟩ := HC.out W2 ho2
          have HP2 := Lib.hid hp2
          have HO2 := Lib.hid ho2
          clear hp2 ho2 hb2
          go_wp2_with fail
          refine (ack_any g b wd y (sT s (L.take k)) _ HP2.out).mono ?_
          rintro e W3 ⟨rfl, ho3, hp3⟩
          rw [show awaitsB (sT s (L.take k)).F wd y.town y.number y.warden = true from HAW.out]
          rw [HAK.out] at hp3
          have ho3' := HO2.out.trans ho3
          clear f0 f1 f2 f3
          obtain ⟨f0, f1, f2, f3⟩ := HC.out W3 ho3'
          have HP3 := Lib.hid hp3
          have HO3 := Lib.hid ho3'
          clear hp3 ho3' ho3
          go_wp2_with fail
          refine (awaits_post g b wd y (sT s (L.take k ++ [y])) _ HP3.out).mono ?_
          rintro e W4 ⟨rfl, hb4, hp4⟩
          rw [show awaitsB (sT s (L.take k ++ [y])).F wd y.town y.number y.warden = false from HAN.out]
          have ho4 := HO3.out.trans (Only2.of_below g b hb4)
          clear f0 f1 f2 f3
          have HREL : Hid (∃ k' acc' : Nat, k' ≤ N ∧ Value.int .i64 ((acc : Int) + 1) = .int .i64 (acc' : Int) ∧ Value.int .i64 ((k : Int) + 1) = .int .i64 (k' : Int) ∧ AcInv w4 W4 g b wd s L M k' acc') :=
            ⟨k + 1, acc + 1, by omega, by go_num, by go_num, ho4, by rw [HTK.out]; exact hp4, by rw [HTK.out]; have := HOF.out; omega⟩
          clear hp4 ho4 hb4
          go_wp2
          go_roundw
          case rel => exact HREL.out
          case measure => simp [intOf]; omega
    · have hkN : k = N := by omega
      subst hkN
      rw [List.take_of_length_le (by rw [HN.out]; exact Nat.le_refl _)] at hpr hac
      have HPR := Lib.hid hpr
      have hgT := good_T HGS.out L
      have HGT := Lib.hid hgT
      have HAC := Lib.hid hac
      have haccM : acc ≤ M := by omega
      clear hpr hgT hac
      go_wp2_with fail
      refine (due_post g b wd hour (sT s L) 1000 HGT.out _ HPR.out hw1 hh).mono ?_
      rintro e w5 ⟨A5, cap5, rfl, hb5, hp5, _, _⟩
      rw [HEND.out]
      have HP5 := Lib.hid hp5
      clear hp5
      go_wp2_with fail
      refine (open_any g b wd _ _ _ HP5.out.rep).mono ?_
      rintro e w6 ⟨A6, cap6, rfl, hb6, _⟩
      have hz5 := hb5.size
      have hzo := ho.size
      have hfin : (((openL (sT s L).F 40).length : Nat) : Int) = (M : Int) - (acc : Int) := by have := HAC.out; omega
      generalize (openL (sT s L).F 40).length = Q at *
      have hfb : ((Q : Int) == (M : Int) - (acc : Int)) = true := by rw [hfin]; simp
      clear hfin
      go_wp2
      go_ret
      exact ⟨rfl, ((hbw4.trans (ho.to_below hwg hwb (by omega))).trans (hb5.mono (by omega))).trans (hb6.mono (by omega))⟩

end Go.Proofs.Ytlhaoiplbebgnaa
