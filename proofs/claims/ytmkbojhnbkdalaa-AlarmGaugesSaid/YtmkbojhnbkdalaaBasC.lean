/- The walks of slices.ContainsFunc at the types that basin's Right asks. -/
import Derived.Test.YtmkbojhnbkdalaaBasA
set_option linter.unusedSimpArgs false
set_option linter.unusedVariables false
namespace Go.Proofs.Ytmkbojhnbkdalaa
open Go.RowKit

theorem any_at {α : Type} {l : List α} {p : α → Bool} {k : Nat} {x : α} (h : l[k]? = some x) (hp : p x = true) : l.any p = true :=
  List.any_eq_true.2 ⟨x, List.mem_of_getElem? h, hp⟩
theorem any_none {α : Type} {l : List α} {p : α → Bool} (h : ∀ (j : Nat) x, l[j]? = some x → p x = false) : l.any p = false := by
  rw [List.any_eq_false]
  intro x hx
  obtain ⟨j, hj⟩ := List.mem_iff_getElem?.1 hx
  rw [h j x hj]
  decide

set_option maxRecDepth 100000 in
set_option maxHeartbeats 1000000 in
theorem indexFunc_int (s : SlR Int) (p : Int → Bool) (fid : Nat) (cp : Array Value) (w w0 : World) (B : Nat) (hM : SlR.Mem (Rw intC mem0) 1 w0 B s) (hw : Below B w0 w) (hB : B ≤ w.heap.size)
    (hcf : ∀ (args : Array Value) (W : World), (callFunc fid args).run Try.prog W = .ok (.enter fid args) W) (hp : ∀ W x, x ∈ s.l → mem0 w0 B x → Below w.heap.size w W → Calls Try.prog fid (#[.int .i64 x] ++ cp) W (fun e w' => e = .returned (.bool (p x)) ∧ Below W.heap.size W w')) :
    Calls Try.prog 44 #[.slice s.a s.n s.c, .func (.func fid) #[] cp] w fun e w' => ∃ r : Int, e = .returned (.int .i64 r) ∧ decide (0 ≤ r) = s.l.any p ∧ Below w.heap.size w w' := by
  have hn := two_byte hM.le
  have HLEN := Lib.hid hM.len
  have HMM := Lib.hid hM
  have HW := Lib.hid hw
  have HP := Lib.hid hp
  obtain ⟨A, hA⟩ : ∃ A, s.a = A := ⟨_, rfl⟩
  obtain ⟨n, hn'⟩ : ∃ n, s.n = n := ⟨_, rfl⟩
  rw [hA, hn']
  rw [hn'] at hn
  have HA := Lib.hid hA
  have HN := Lib.hid hn'
  clear hM hw hA hn' hp
  go_enter Try.func44, Try.ntmps44
  go_wp2
  go_loopw [8] (fun i wr => ∃ k : Nat, k ≤ n ∧ i = .int .i64 (k : Int) ∧ Below w.heap.size w wr ∧ ∀ j x, j < k → s.l[j]? = some x → p x = false) (fun i _ => n - (intOf i).toNat)
  case atStart => exact ⟨0, by omega, rfl, Below.refl _ _, fun j x hj => absurd hj (Nat.not_lt_zero _)⟩
  case round =>
    obtain ⟨k, hk, rfl, hb, hall⟩ := hrel
    have HB := Lib.hid hb
    have hsz := hb.size
    have HALL := Lib.hid hall
    clear hb hall
    by_cases hlt : k < n
    · have hk0 : (0 : Int) ≤ (k : Int) := by omega
      have hki : (k : Int) < (n : Int) := by omega
      obtain ⟨pb, po, x, hpa, hpb, hx, hmx, hc⟩ := HMM.out.at_ (k := k) (by rw [HN.out]; exact hlt)
      obtain rfl : A = some ⟨pb, po, none⟩ := HA.out.symm.trans hpa
      have hbw := HW.out.trans (HB.out.mono hB)
      have e0 := hc wr hbw 0 _ rfl
      simp only [Nat.add_zero, Nat.mul_one] at e0
      have HX := Lib.hid hx
      have CP := Lib.hid (HP.out wr x (List.mem_of_getElem? hx) hmx HB.out)
      obtain ⟨r, hr⟩ : ∃ r, p x = r := ⟨_, rfl⟩
      rw [hr] at CP
      have HPR := Lib.hid hr
      clear hpa hbw hx hc hmx hr
      go_wp2_with fail
      refine CP.out.mono ?_
      rintro e W ⟨rfl, hbW⟩
      have HBW := Lib.hid (HB.out.trans (hbW.mono hsz))
      clear hbW
      cases r
      · go_wp2_with fail
        go_roundw
        case rel => exact ⟨k + 1, by omega, by go_num, HBW.out, fun j y hj hy => by
          by_cases hjk : j = k
          · subst hjk
            have h1 := HX.out
            rw [hy] at h1
            obtain rfl := Option.some.inj h1
            exact HPR.out
          · exact HALL.out j y (by omega) hy⟩
        case measure => simp [intOf]; omega
      · have HE := Lib.hid (any_at HX.out HPR.out)
        go_wp2_with fail
        go_ret
        exact ⟨(k : Int), rfl, by rw [HE.out]; simp, HBW.out⟩
    · obtain rfl : k = n := by omega
      have HE := Lib.hid (show s.l.any p = false from any_none (fun j x hj => HALL.out j x (by have := (List.getElem?_eq_some_iff.1 hj).1; rw [HLEN.out, HN.out] at this; exact this) hj))
      go_wp2
      go_ret
      exact ⟨-1, rfl, by rw [HE.out]; rfl, HB.out⟩
set_option maxRecDepth 100000 in
theorem containsFunc_int (s : SlR Int) (p : Int → Bool) (fid : Nat) (cp : Array Value) (w w0 : World) (B : Nat) (hM : SlR.Mem (Rw intC mem0) 1 w0 B s) (hw : Below B w0 w) (hB : B ≤ w.heap.size)
    (hcf : ∀ (args : Array Value) (W : World), (callFunc fid args).run Try.prog W = .ok (.enter fid args) W) (hp : ∀ W x, x ∈ s.l → mem0 w0 B x → Below w.heap.size w W → Calls Try.prog fid (#[.int .i64 x] ++ cp) W (fun e w' => e = .returned (.bool (p x)) ∧ Below W.heap.size W w')) :
    Calls Try.prog 12 #[.slice s.a s.n s.c, .func (.func fid) #[] cp] w fun e w' => e = .returned (.bool (s.l.any p)) ∧ Below w.heap.size w w' := by
  have C := Lib.hid (indexFunc_int s p fid cp w w0 B hM hw hB hcf hp)
  clear hM hw hp hcf
  go_enter Try.func12, Try.ntmps12
  go_wp2_with fail
  refine C.out.mono ?_
  rintro e W ⟨r, rfl, hr, hb⟩
  have HB := Lib.hid hb
  have HR := Lib.hid hr
  clear hr hb
  go_wp2
  go_ret
  exact ⟨by rw [← HR.out]; rfl, HB.out⟩

set_option maxRecDepth 100000 in
set_option maxHeartbeats 1000000 in
theorem indexFunc_Lnk (s : SlR Lnk) (p : Lnk → Bool) (fid : Nat) (cp : Array Value) (w w0 : World) (B : Nat) (hM : SlR.Mem (Rw cLnk MLnk) 18 w0 B s) (hw : Below B w0 w) (hB : B ≤ w.heap.size)
    (hcf : ∀ (args : Array Value) (W : World), (callFunc fid args).run Try.prog W = .ok (.enter fid args) W) (hp : ∀ W x, x ∈ s.l → MLnk w0 B x → Below w.heap.size w W → Calls Try.prog fid (#[.agg #[.string x.nm, .int .i64 x.kind, .int .i64 x.frm, .int .i64 x.to, .slice x.rate.a x.rate.n x.rate.c, .slice x.band.lo.a x.band.lo.n x.band.lo.c, .slice x.band.hi.a x.band.hi.n x.band.hi.c, .int .i64 x.pos, .int .i64 x.speed, .int .i64 x.leak, .int .i64 x.crest, .int .i64 x.num, .int .i64 x.den, .int .i64 x.prime, .int .i64 x.brk, .int .i64 x.bnum, .int .i64 x.bden, .int .i64 x.delay]] ++ cp) W (fun e w' => e = .returned (.bool (p x)) ∧ Below W.heap.size W w')) :
    Calls Try.prog 51 #[.slice s.a s.n s.c, .func (.func fid) #[] cp] w fun e w' => ∃ r : Int, e = .returned (.int .i64 r) ∧ decide (0 ≤ r) = s.l.any p ∧ Below w.heap.size w w' := by
  have hn := two_byte hM.le
  have HLEN := Lib.hid hM.len
  have HMM := Lib.hid hM
  have HW := Lib.hid hw
  have HP := Lib.hid hp
  obtain ⟨A, hA⟩ : ∃ A, s.a = A := ⟨_, rfl⟩
  obtain ⟨n, hn'⟩ : ∃ n, s.n = n := ⟨_, rfl⟩
  rw [hA, hn']
  rw [hn'] at hn
  have HA := Lib.hid hA
  have HN := Lib.hid hn'
  clear hM hw hA hn' hp
  go_enter Try.func51, Try.ntmps51
  go_wp2
  go_loopw [8] (fun i wr => ∃ k : Nat, k ≤ n ∧ i = .int .i64 (k : Int) ∧ Below w.heap.size w wr ∧ ∀ j x, j < k → s.l[j]? = some x → p x = false) (fun i _ => n - (intOf i).toNat)
  case atStart => exact ⟨0, by omega, rfl, Below.refl _ _, fun j x hj => absurd hj (Nat.not_lt_zero _)⟩
  case round =>
    obtain ⟨k, hk, rfl, hb, hall⟩ := hrel
    have HB := Lib.hid hb
    have hsz := hb.size
    have HALL := Lib.hid hall
    clear hb hall
    by_cases hlt : k < n
    · have hk0 : (0 : Int) ≤ (k : Int) := by omega
      have hki : (k : Int) < (n : Int) := by omega
      obtain ⟨pb, po, x, hpa, hpb, hx, hmx, hc⟩ := HMM.out.at_ (k := k) (by rw [HN.out]; exact hlt)
      obtain rfl : A = some ⟨pb, po, none⟩ := HA.out.symm.trans hpa
      have hbw := HW.out.trans (HB.out.mono hB)
      have e0 := hc wr hbw 0 _ rfl
      have e1 := hc wr hbw 1 _ rfl
      have e2 := hc wr hbw 2 _ rfl
      have e3 := hc wr hbw 3 _ rfl
      have e4 := hc wr hbw 4 _ rfl
      have e5 := hc wr hbw 5 _ rfl
      have e6 := hc wr hbw 6 _ rfl
      have e7 := hc wr hbw 7 _ rfl
      have e8 := hc wr hbw 8 _ rfl
      have e9 := hc wr hbw 9 _ rfl
      have e10 := hc wr hbw 10 _ rfl
      have e11 := hc wr hbw 11 _ rfl
      have e12 := hc wr hbw 12 _ rfl
      have e13 := hc wr hbw 13 _ rfl
      have e14 := hc wr hbw 14 _ rfl
      have e15 := hc wr hbw 15 _ rfl
      have e16 := hc wr hbw 16 _ rfl
      have e17 := hc wr hbw 17 _ rfl
      simp only [Nat.add_zero] at e0
      have HX := Lib.hid hx
      have CP := Lib.hid (HP.out wr x (List.mem_of_getElem? hx) hmx HB.out)
      obtain ⟨r, hr⟩ : ∃ r, p x = r := ⟨_, rfl⟩
      rw [hr] at CP
      have HPR := Lib.hid hr
      clear hpa hbw hx hc hmx hr
      go_wp2_with fail
      refine CP.out.mono ?_
      rintro e W ⟨rfl, hbW⟩
      have HBW := Lib.hid (HB.out.trans (hbW.mono hsz))
      clear hbW
      cases r
      · go_wp2_with fail
        go_roundw
        case rel => exact ⟨k + 1, by omega, by go_num, HBW.out, fun j y hj hy => by
          by_cases hjk : j = k
          · subst hjk
            have h1 := HX.out
            rw [hy] at h1
            obtain rfl := Option.some.inj h1
            exact HPR.out
          · exact HALL.out j y (by omega) hy⟩
        case measure => simp [intOf]; omega
      · have HE := Lib.hid (any_at HX.out HPR.out)
        go_wp2_with fail
        go_ret
        exact ⟨(k : Int), rfl, by rw [HE.out]; simp, HBW.out⟩
    · obtain rfl : k = n := by omega
      have HE := Lib.hid (show s.l.any p = false from any_none (fun j x hj => HALL.out j x (by have := (List.getElem?_eq_some_iff.1 hj).1; rw [HLEN.out, HN.out] at this; exact this) hj))
      go_wp2
      go_ret
      exact ⟨-1, rfl, by rw [HE.out]; rfl, HB.out⟩
set_option maxRecDepth 100000 in
theorem containsFunc_Lnk (s : SlR Lnk) (p : Lnk → Bool) (fid : Nat) (cp : Array Value) (w w0 : World) (B : Nat) (hM : SlR.Mem (Rw cLnk MLnk) 18 w0 B s) (hw : Below B w0 w) (hB : B ≤ w.heap.size)
    (hcf : ∀ (args : Array Value) (W : World), (callFunc fid args).run Try.prog W = .ok (.enter fid args) W) (hp : ∀ W x, x ∈ s.l → MLnk w0 B x → Below w.heap.size w W → Calls Try.prog fid (#[.agg #[.string x.nm, .int .i64 x.kind, .int .i64 x.frm, .int .i64 x.to, .slice x.rate.a x.rate.n x.rate.c, .slice x.band.lo.a x.band.lo.n x.band.lo.c, .slice x.band.hi.a x.band.hi.n x.band.hi.c, .int .i64 x.pos, .int .i64 x.speed, .int .i64 x.leak, .int .i64 x.crest, .int .i64 x.num, .int .i64 x.den, .int .i64 x.prime, .int .i64 x.brk, .int .i64 x.bnum, .int .i64 x.bden, .int .i64 x.delay]] ++ cp) W (fun e w' => e = .returned (.bool (p x)) ∧ Below W.heap.size W w')) :
    Calls Try.prog 19 #[.slice s.a s.n s.c, .func (.func fid) #[] cp] w fun e w' => e = .returned (.bool (s.l.any p)) ∧ Below w.heap.size w w' := by
  have C := Lib.hid (indexFunc_Lnk s p fid cp w w0 B hM hw hB hcf hp)
  clear hM hw hp hcf
  go_enter Try.func19, Try.ntmps19
  go_wp2_with fail
  refine C.out.mono ?_
  rintro e W ⟨r, rfl, hr, hb⟩
  have HB := Lib.hid hb
  have HR := Lib.hid hr
  clear hr hb
  go_wp2
  go_ret
  exact ⟨by rw [← HR.out]; rfl, HB.out⟩

set_option maxRecDepth 100000 in
set_option maxHeartbeats 1000000 in
theorem indexFunc_Twn (s : SlR Twn) (p : Twn → Bool) (fid : Nat) (cp : Array Value) (w w0 : World) (B : Nat) (hM : SlR.Mem (Rw cTwn MTwn) 7 w0 B s) (hw : Below B w0 w) (hB : B ≤ w.heap.size)
    (hcf : ∀ (args : Array Value) (W : World), (callFunc fid args).run Try.prog W = .ok (.enter fid args) W) (hp : ∀ W x, x ∈ s.l → MTwn w0 B x → Below w.heap.size w W → Calls Try.prog fid (#[.agg #[.string x.nm, .int .i64 x.place, .int .i64 x.flood, .int .i64 x.lead, .int .i64 x.people, .int .i64 x.watch, .int .i64 x.quorum]] ++ cp) W (fun e w' => e = .returned (.bool (p x)) ∧ Below W.heap.size W w')) :
    Calls Try.prog 71 #[.slice s.a s.n s.c, .func (.func fid) #[] cp] w fun e w' => ∃ r : Int, e = .returned (.int .i64 r) ∧ decide (0 ≤ r) = s.l.any p ∧ Below w.heap.size w w' := by
  have hn := two_byte hM.le
  have HLEN := Lib.hid hM.len
  have HMM := Lib.hid hM
  have HW := Lib.hid hw
  have HP := Lib.hid hp
  obtain ⟨A, hA⟩ : ∃ A, s.a = A := ⟨_, rfl⟩
  obtain ⟨n, hn'⟩ : ∃ n, s.n = n := ⟨_, rfl⟩
  rw [hA, hn']
  rw [hn'] at hn
  have HA := Lib.hid hA
  have HN := Lib.hid hn'
  clear hM hw hA hn' hp
  go_enter Try.func71, Try.ntmps71
  go_wp2
  go_loopw [8] (fun i wr => ∃ k : Nat, k ≤ n ∧ i = .int .i64 (k : Int) ∧ Below w.heap.size w wr ∧ ∀ j x, j < k → s.l[j]? = some x → p x = false) (fun i _ => n - (intOf i).toNat)
  case atStart => exact ⟨0, by omega, rfl, Below.refl _ _, fun j x hj => absurd hj (Nat.not_lt_zero _)⟩
  case round =>
    obtain ⟨k, hk, rfl, hb, hall⟩ := hrel
    have HB := Lib.hid hb
    have hsz := hb.size
    have HALL := Lib.hid hall
    clear hb hall
    by_cases hlt : k < n
    · have hk0 : (0 : Int) ≤ (k : Int) := by omega
      have hki : (k : Int) < (n : Int) := by omega
      obtain ⟨pb, po, x, hpa, hpb, hx, hmx, hc⟩ := HMM.out.at_ (k := k) (by rw [HN.out]; exact hlt)
      obtain rfl : A = some ⟨pb, po, none⟩ := HA.out.symm.trans hpa
      have hbw := HW.out.trans (HB.out.mono hB)
      have e0 := hc wr hbw 0 _ rfl
      have e1 := hc wr hbw 1 _ rfl
      have e2 := hc wr hbw 2 _ rfl
      have e3 := hc wr hbw 3 _ rfl
      have e4 := hc wr hbw 4 _ rfl
      have e5 := hc wr hbw 5 _ rfl
      have e6 := hc wr hbw 6 _ rfl
      simp only [Nat.add_zero] at e0
      have HX := Lib.hid hx
      have CP := Lib.hid (HP.out wr x (List.mem_of_getElem? hx) hmx HB.out)
      obtain ⟨r, hr⟩ : ∃ r, p x = r := ⟨_, rfl⟩
      rw [hr] at CP
      have HPR := Lib.hid hr
      clear hpa hbw hx hc hmx hr
      go_wp2_with fail
      refine CP.out.mono ?_
      rintro e W ⟨rfl, hbW⟩
      have HBW := Lib.hid (HB.out.trans (hbW.mono hsz))
      clear hbW
      cases r
      · go_wp2_with fail
        go_roundw
        case rel => exact ⟨k + 1, by omega, by go_num, HBW.out, fun j y hj hy => by
          by_cases hjk : j = k
          · subst hjk
            have h1 := HX.out
            rw [hy] at h1
            obtain rfl := Option.some.inj h1
            exact HPR.out
          · exact HALL.out j y (by omega) hy⟩
        case measure => simp [intOf]; omega
      · have HE := Lib.hid (any_at HX.out HPR.out)
        go_wp2_with fail
        go_ret
        exact ⟨(k : Int), rfl, by rw [HE.out]; simp, HBW.out⟩
    · obtain rfl : k = n := by omega
      have HE := Lib.hid (show s.l.any p = false from any_none (fun j x hj => HALL.out j x (by have := (List.getElem?_eq_some_iff.1 hj).1; rw [HLEN.out, HN.out] at this; exact this) hj))
      go_wp2
      go_ret
      exact ⟨-1, rfl, by rw [HE.out]; rfl, HB.out⟩
set_option maxRecDepth 100000 in
theorem containsFunc_Twn (s : SlR Twn) (p : Twn → Bool) (fid : Nat) (cp : Array Value) (w w0 : World) (B : Nat) (hM : SlR.Mem (Rw cTwn MTwn) 7 w0 B s) (hw : Below B w0 w) (hB : B ≤ w.heap.size)
    (hcf : ∀ (args : Array Value) (W : World), (callFunc fid args).run Try.prog W = .ok (.enter fid args) W) (hp : ∀ W x, x ∈ s.l → MTwn w0 B x → Below w.heap.size w W → Calls Try.prog fid (#[.agg #[.string x.nm, .int .i64 x.place, .int .i64 x.flood, .int .i64 x.lead, .int .i64 x.people, .int .i64 x.watch, .int .i64 x.quorum]] ++ cp) W (fun e w' => e = .returned (.bool (p x)) ∧ Below W.heap.size W w')) :
    Calls Try.prog 56 #[.slice s.a s.n s.c, .func (.func fid) #[] cp] w fun e w' => e = .returned (.bool (s.l.any p)) ∧ Below w.heap.size w w' := by
  have C := Lib.hid (indexFunc_Twn s p fid cp w w0 B hM hw hB hcf hp)
  clear hM hw hp hcf
  go_enter Try.func56, Try.ntmps56
  go_wp2_with fail
  refine C.out.mono ?_
  rintro e W ⟨r, rfl, hr, hb⟩
  have HB := Lib.hid hb
  have HR := Lib.hid hr
  clear hr hb
  go_wp2
  go_ret
  exact ⟨by rw [← HR.out]; rfl, HB.out⟩

set_option maxRecDepth 100000 in
set_option maxHeartbeats 1000000 in
theorem indexFunc_Gau (s : SlR Gau) (p : Gau → Bool) (fid : Nat) (cp : Array Value) (w w0 : World) (B : Nat) (hM : SlR.Mem (Rw cGau MGau) 5 w0 B s) (hw : Below B w0 w) (hB : B ≤ w.heap.size)
    (hcf : ∀ (args : Array Value) (W : World), (callFunc fid args).run Try.prog W = .ok (.enter fid args) W) (hp : ∀ W x, x ∈ s.l → MGau w0 B x → Below w.heap.size w W → Calls Try.prog fid (#[.agg #[.string x.nm, .int .i64 x.kind, .int .i64 x.target, .int .i64 x.err, .int .i64 x.drift]] ++ cp) W (fun e w' => e = .returned (.bool (p x)) ∧ Below W.heap.size W w')) :
    Calls Try.prog 72 #[.slice s.a s.n s.c, .func (.func fid) #[] cp] w fun e w' => ∃ r : Int, e = .returned (.int .i64 r) ∧ decide (0 ≤ r) = s.l.any p ∧ Below w.heap.size w w' := by
  have hn := two_byte hM.le
  have HLEN := Lib.hid hM.len
  have HMM := Lib.hid hM
  have HW := Lib.hid hw
  have HP := Lib.hid hp
  obtain ⟨A, hA⟩ : ∃ A, s.a = A := ⟨_, rfl⟩
  obtain ⟨n, hn'⟩ : ∃ n, s.n = n := ⟨_, rfl⟩
  rw [hA, hn']
  rw [hn'] at hn
  have HA := Lib.hid hA
  have HN := Lib.hid hn'
  clear hM hw hA hn' hp
  go_enter Try.func72, Try.ntmps72
  go_wp2
  go_loopw [8] (fun i wr => ∃ k : Nat, k ≤ n ∧ i = .int .i64 (k : Int) ∧ Below w.heap.size w wr ∧ ∀ j x, j < k → s.l[j]? = some x → p x = false) (fun i _ => n - (intOf i).toNat)
  case atStart => exact ⟨0, by omega, rfl, Below.refl _ _, fun j x hj => absurd hj (Nat.not_lt_zero _)⟩
  case round =>
    obtain ⟨k, hk, rfl, hb, hall⟩ := hrel
    have HB := Lib.hid hb
    have hsz := hb.size
    have HALL := Lib.hid hall
    clear hb hall
    by_cases hlt : k < n
    · have hk0 : (0 : Int) ≤ (k : Int) := by omega
      have hki : (k : Int) < (n : Int) := by omega
      obtain ⟨pb, po, x, hpa, hpb, hx, hmx, hc⟩ := HMM.out.at_ (k := k) (by rw [HN.out]; exact hlt)
      obtain rfl : A = some ⟨pb, po, none⟩ := HA.out.symm.trans hpa
      have hbw := HW.out.trans (HB.out.mono hB)
      have e0 := hc wr hbw 0 _ rfl
      have e1 := hc wr hbw 1 _ rfl
      have e2 := hc wr hbw 2 _ rfl
      have e3 := hc wr hbw 3 _ rfl
      have e4 := hc wr hbw 4 _ rfl
      simp only [Nat.add_zero] at e0
      have HX := Lib.hid hx
      have CP := Lib.hid (HP.out wr x (List.mem_of_getElem? hx) hmx HB.out)
      obtain ⟨r, hr⟩ : ∃ r, p x = r := ⟨_, rfl⟩
      rw [hr] at CP
      have HPR := Lib.hid hr
      clear hpa hbw hx hc hmx hr
      go_wp2_with fail
      refine CP.out.mono ?_
      rintro e W ⟨rfl, hbW⟩
      have HBW := Lib.hid (HB.out.trans (hbW.mono hsz))
      clear hbW
      cases r
      · go_wp2_with fail
        go_roundw
        case rel => exact ⟨k + 1, by omega, by go_num, HBW.out, fun j y hj hy => by
          by_cases hjk : j = k
          · subst hjk
            have h1 := HX.out
            rw [hy] at h1
            obtain rfl := Option.some.inj h1
            exact HPR.out
          · exact HALL.out j y (by omega) hy⟩
        case measure => simp [intOf]; omega
      · have HE := Lib.hid (any_at HX.out HPR.out)
        go_wp2_with fail
        go_ret
        exact ⟨(k : Int), rfl, by rw [HE.out]; simp, HBW.out⟩
    · obtain rfl : k = n := by omega
      have HE := Lib.hid (show s.l.any p = false from any_none (fun j x hj => HALL.out j x (by have := (List.getElem?_eq_some_iff.1 hj).1; rw [HLEN.out, HN.out] at this; exact this) hj))
      go_wp2
      go_ret
      exact ⟨-1, rfl, by rw [HE.out]; rfl, HB.out⟩
set_option maxRecDepth 100000 in
theorem containsFunc_Gau (s : SlR Gau) (p : Gau → Bool) (fid : Nat) (cp : Array Value) (w w0 : World) (B : Nat) (hM : SlR.Mem (Rw cGau MGau) 5 w0 B s) (hw : Below B w0 w) (hB : B ≤ w.heap.size)
    (hcf : ∀ (args : Array Value) (W : World), (callFunc fid args).run Try.prog W = .ok (.enter fid args) W) (hp : ∀ W x, x ∈ s.l → MGau w0 B x → Below w.heap.size w W → Calls Try.prog fid (#[.agg #[.string x.nm, .int .i64 x.kind, .int .i64 x.target, .int .i64 x.err, .int .i64 x.drift]] ++ cp) W (fun e w' => e = .returned (.bool (p x)) ∧ Below W.heap.size W w')) :
    Calls Try.prog 58 #[.slice s.a s.n s.c, .func (.func fid) #[] cp] w fun e w' => e = .returned (.bool (s.l.any p)) ∧ Below w.heap.size w w' := by
  have C := Lib.hid (indexFunc_Gau s p fid cp w w0 B hM hw hB hcf hp)
  clear hM hw hp hcf
  go_enter Try.func58, Try.ntmps58
  go_wp2_with fail
  refine C.out.mono ?_
  rintro e W ⟨r, rfl, hr, hb⟩
  have HB := Lib.hid hb
  have HR := Lib.hid hr
  clear hr hb
  go_wp2
  go_ret
  exact ⟨by rw [← HR.out]; rfl, HB.out⟩

set_option maxRecDepth 100000 in
set_option maxHeartbeats 1000000 in
theorem indexFunc_Rod (s : SlR Rod) (p : Rod → Bool) (fid : Nat) (cp : Array Value) (w w0 : World) (B : Nat) (hM : SlR.Mem (Rw cRod MRod) 7 w0 B s) (hw : Below B w0 w) (hB : B ≤ w.heap.size)
    (hcf : ∀ (args : Array Value) (W : World), (callFunc fid args).run Try.prog W = .ok (.enter fid args) W) (hp : ∀ W x, x ∈ s.l → MRod w0 B x → Below w.heap.size w W → Calls Try.prog fid (#[.agg #[.string x.nm, .int .i64 x.frm, .int .i64 x.to, .int .i64 x.hours, .int .i64 x.flow, .int .i64 x.byp, .int .i64 x.limit]] ++ cp) W (fun e w' => e = .returned (.bool (p x)) ∧ Below W.heap.size W w')) :
    Calls Try.prog 73 #[.slice s.a s.n s.c, .func (.func fid) #[] cp] w fun e w' => ∃ r : Int, e = .returned (.int .i64 r) ∧ decide (0 ≤ r) = s.l.any p ∧ Below w.heap.size w w' := by
  have hn := two_byte hM.le
  have HLEN := Lib.hid hM.len
  have HMM := Lib.hid hM
  have HW := Lib.hid hw
  have HP := Lib.hid hp
  obtain ⟨A, hA⟩ : ∃ A, s.a = A := ⟨_, rfl⟩
  obtain ⟨n, hn'⟩ : ∃ n, s.n = n := ⟨_, rfl⟩
  rw [hA, hn']
  rw [hn'] at hn
  have HA := Lib.hid hA
  have HN := Lib.hid hn'
  clear hM hw hA hn' hp
  go_enter Try.func73, Try.ntmps73
  go_wp2
  go_loopw [8] (fun i wr => ∃ k : Nat, k ≤ n ∧ i = .int .i64 (k : Int) ∧ Below w.heap.size w wr ∧ ∀ j x, j < k → s.l[j]? = some x → p x = false) (fun i _ => n - (intOf i).toNat)
  case atStart => exact ⟨0, by omega, rfl, Below.refl _ _, fun j x hj => absurd hj (Nat.not_lt_zero _)⟩
  case round =>
    obtain ⟨k, hk, rfl, hb, hall⟩ := hrel
    have HB := Lib.hid hb
    have hsz := hb.size
    have HALL := Lib.hid hall
    clear hb hall
    by_cases hlt : k < n
    · have hk0 : (0 : Int) ≤ (k : Int) := by omega
      have hki : (k : Int) < (n : Int) := by omega
      obtain ⟨pb, po, x, hpa, hpb, hx, hmx, hc⟩ := HMM.out.at_ (k := k) (by rw [HN.out]; exact hlt)
      obtain rfl : A = some ⟨pb, po, none⟩ := HA.out.symm.trans hpa
      have hbw := HW.out.trans (HB.out.mono hB)
      have e0 := hc wr hbw 0 _ rfl
      have e1 := hc wr hbw 1 _ rfl
      have e2 := hc wr hbw 2 _ rfl
      have e3 := hc wr hbw 3 _ rfl
      have e4 := hc wr hbw 4 _ rfl
      have e5 := hc wr hbw 5 _ rfl
      have e6 := hc wr hbw 6 _ rfl
      simp only [Nat.add_zero] at e0
      have HX := Lib.hid hx
      have CP := Lib.hid (HP.out wr x (List.mem_of_getElem? hx) hmx HB.out)
      obtain ⟨r, hr⟩ : ∃ r, p x = r := ⟨_, rfl⟩
      rw [hr] at CP
      have HPR := Lib.hid hr
      clear hpa hbw hx hc hmx hr
      go_wp2_with fail
      refine CP.out.mono ?_
      rintro e W ⟨rfl, hbW⟩
      have HBW := Lib.hid (HB.out.trans (hbW.mono hsz))
      clear hbW
      cases r
      · go_wp2_with fail
        go_roundw
        case rel => exact ⟨k + 1, by omega, by go_num, HBW.out, fun j y hj hy => by
          by_cases hjk : j = k
          · subst hjk
            have h1 := HX.out
            rw [hy] at h1
            obtain rfl := Option.some.inj h1
            exact HPR.out
          · exact HALL.out j y (by omega) hy⟩
        case measure => simp [intOf]; omega
      · have HE := Lib.hid (any_at HX.out HPR.out)
        go_wp2_with fail
        go_ret
        exact ⟨(k : Int), rfl, by rw [HE.out]; simp, HBW.out⟩
    · obtain rfl : k = n := by omega
      have HE := Lib.hid (show s.l.any p = false from any_none (fun j x hj => HALL.out j x (by have := (List.getElem?_eq_some_iff.1 hj).1; rw [HLEN.out, HN.out] at this; exact this) hj))
      go_wp2
      go_ret
      exact ⟨-1, rfl, by rw [HE.out]; rfl, HB.out⟩
set_option maxRecDepth 100000 in
theorem containsFunc_Rod (s : SlR Rod) (p : Rod → Bool) (fid : Nat) (cp : Array Value) (w w0 : World) (B : Nat) (hM : SlR.Mem (Rw cRod MRod) 7 w0 B s) (hw : Below B w0 w) (hB : B ≤ w.heap.size)
    (hcf : ∀ (args : Array Value) (W : World), (callFunc fid args).run Try.prog W = .ok (.enter fid args) W) (hp : ∀ W x, x ∈ s.l → MRod w0 B x → Below w.heap.size w W → Calls Try.prog fid (#[.agg #[.string x.nm, .int .i64 x.frm, .int .i64 x.to, .int .i64 x.hours, .int .i64 x.flow, .int .i64 x.byp, .int .i64 x.limit]] ++ cp) W (fun e w' => e = .returned (.bool (p x)) ∧ Below W.heap.size W w')) :
    Calls Try.prog 60 #[.slice s.a s.n s.c, .func (.func fid) #[] cp] w fun e w' => e = .returned (.bool (s.l.any p)) ∧ Below w.heap.size w w' := by
  have C := Lib.hid (indexFunc_Rod s p fid cp w w0 B hM hw hB hcf hp)
  clear hM hw hp hcf
  go_enter Try.func60, Try.ntmps60
  go_wp2_with fail
  refine C.out.mono ?_
  rintro e W ⟨r, rfl, hr, hb⟩
  have HB := Lib.hid hb
  have HR := Lib.hid hr
  clear hr hb
  go_wp2
  go_ret
  exact ⟨by rw [← HR.out]; rfl, HB.out⟩

set_option maxRecDepth 100000 in
set_option maxHeartbeats 1000000 in
theorem indexFunc_She (s : SlR She) (p : She → Bool) (fid : Nat) (cp : Array Value) (w w0 : World) (B : Nat) (hM : SlR.Mem (Rw cShe MShe) 2 w0 B s) (hw : Below B w0 w) (hB : B ≤ w.heap.size)
    (hcf : ∀ (args : Array Value) (W : World), (callFunc fid args).run Try.prog W = .ok (.enter fid args) W) (hp : ∀ W x, x ∈ s.l → MShe w0 B x → Below w.heap.size w W → Calls Try.prog fid (#[.agg #[.string x.nm, .int .i64 x.room]] ++ cp) W (fun e w' => e = .returned (.bool (p x)) ∧ Below W.heap.size W w')) :
    Calls Try.prog 74 #[.slice s.a s.n s.c, .func (.func fid) #[] cp] w fun e w' => ∃ r : Int, e = .returned (.int .i64 r) ∧ decide (0 ≤ r) = s.l.any p ∧ Below w.heap.size w w' := by
  have hn := two_byte hM.le
  have HLEN := Lib.hid hM.len
  have HMM := Lib.hid hM
  have HW := Lib.hid hw
  have HP := Lib.hid hp
  obtain ⟨A, hA⟩ : ∃ A, s.a = A := ⟨_, rfl⟩
  obtain ⟨n, hn'⟩ : ∃ n, s.n = n := ⟨_, rfl⟩
  rw [hA, hn']
  rw [hn'] at hn
  have HA := Lib.hid hA
  have HN := Lib.hid hn'
  clear hM hw hA hn' hp
  go_enter Try.func74, Try.ntmps74
  go_wp2
  go_loopw [8] (fun i wr => ∃ k : Nat, k ≤ n ∧ i = .int .i64 (k : Int) ∧ Below w.heap.size w wr ∧ ∀ j x, j < k → s.l[j]? = some x → p x = false) (fun i _ => n - (intOf i).toNat)
  case atStart => exact ⟨0, by omega, rfl, Below.refl _ _, fun j x hj => absurd hj (Nat.not_lt_zero _)⟩
  case round =>
    obtain ⟨k, hk, rfl, hb, hall⟩ := hrel
    have HB := Lib.hid hb
    have hsz := hb.size
    have HALL := Lib.hid hall
    clear hb hall
    by_cases hlt : k < n
    · have hk0 : (0 : Int) ≤ (k : Int) := by omega
      have hki : (k : Int) < (n : Int) := by omega
      obtain ⟨pb, po, x, hpa, hpb, hx, hmx, hc⟩ := HMM.out.at_ (k := k) (by rw [HN.out]; exact hlt)
      obtain rfl : A = some ⟨pb, po, none⟩ := HA.out.symm.trans hpa
      have hbw := HW.out.trans (HB.out.mono hB)
      have e0 := hc wr hbw 0 _ rfl
      have e1 := hc wr hbw 1 _ rfl
      simp only [Nat.add_zero] at e0
      have HX := Lib.hid hx
      have CP := Lib.hid (HP.out wr x (List.mem_of_getElem? hx) hmx HB.out)
      obtain ⟨r, hr⟩ : ∃ r, p x = r := ⟨_, rfl⟩
      rw [hr] at CP
      have HPR := Lib.hid hr
      clear hpa hbw hx hc hmx hr
      go_wp2_with fail
      refine CP.out.mono ?_
      rintro e W ⟨rfl, hbW⟩
      have HBW := Lib.hid (HB.out.trans (hbW.mono hsz))
      clear hbW
      cases r
      · go_wp2_with fail
        go_roundw
        case rel => exact ⟨k + 1, by omega, by go_num, HBW.out, fun j y hj hy => by
          by_cases hjk : j = k
          · subst hjk
            have h1 := HX.out
            rw [hy] at h1
            obtain rfl := Option.some.inj h1
            exact HPR.out
          · exact HALL.out j y (by omega) hy⟩
        case measure => simp [intOf]; omega
      · have HE := Lib.hid (any_at HX.out HPR.out)
        go_wp2_with fail
        go_ret
        exact ⟨(k : Int), rfl, by rw [HE.out]; simp, HBW.out⟩
    · obtain rfl : k = n := by omega
      have HE := Lib.hid (show s.l.any p = false from any_none (fun j x hj => HALL.out j x (by have := (List.getElem?_eq_some_iff.1 hj).1; rw [HLEN.out, HN.out] at this; exact this) hj))
      go_wp2
      go_ret
      exact ⟨-1, rfl, by rw [HE.out]; rfl, HB.out⟩
set_option maxRecDepth 100000 in
theorem containsFunc_She (s : SlR She) (p : She → Bool) (fid : Nat) (cp : Array Value) (w w0 : World) (B : Nat) (hM : SlR.Mem (Rw cShe MShe) 2 w0 B s) (hw : Below B w0 w) (hB : B ≤ w.heap.size)
    (hcf : ∀ (args : Array Value) (W : World), (callFunc fid args).run Try.prog W = .ok (.enter fid args) W) (hp : ∀ W x, x ∈ s.l → MShe w0 B x → Below w.heap.size w W → Calls Try.prog fid (#[.agg #[.string x.nm, .int .i64 x.room]] ++ cp) W (fun e w' => e = .returned (.bool (p x)) ∧ Below W.heap.size W w')) :
    Calls Try.prog 62 #[.slice s.a s.n s.c, .func (.func fid) #[] cp] w fun e w' => e = .returned (.bool (s.l.any p)) ∧ Below w.heap.size w w' := by
  have C := Lib.hid (indexFunc_She s p fid cp w w0 B hM hw hB hcf hp)
  clear hM hw hp hcf
  go_enter Try.func62, Try.ntmps62
  go_wp2_with fail
  refine C.out.mono ?_
  rintro e W ⟨r, rfl, hr, hb⟩
  have HB := Lib.hid hb
  have HR := Lib.hid hr
  clear hr hb
  go_wp2
  go_ret
  exact ⟨by rw [← HR.out]; rfl, HB.out⟩

end Go.Proofs.Ytmkbojhnbkdalaa
