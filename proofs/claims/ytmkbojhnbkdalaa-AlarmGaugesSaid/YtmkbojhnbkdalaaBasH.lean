/- The walks of basin's collect, and of the closures that give a name. -/
import Derived.Test.YtmkbojhnbkdalaaBasA
set_option linter.unusedSimpArgs false
set_option linter.unusedVariables false
namespace Go.Proofs.Ytmkbojhnbkdalaa
open Go.RowKit

theorem info_str : (Try.prog.info? 9).map (fun i => (i.zero, i.size, i.bytes)) = some (some (.string ⟨#[]⟩), 1, 16) := by kernel_rfl
def nmV (l : List ByteArray) : List Value := l.map fun s => Value.string s
/-- What the call itself has collected lies as a slice. -/
theorem own_names {w : World} {B : Nat} {v : Value} {n : Nat} {l : List ByteArray} (h : w.ownsRow B 9 1 v n (nmV l)) (hn : n ≤ maxLen) : ∃ s : SlR ByteArray, v = .slice s.a s.n s.c ∧ s.l = l ∧ SlR.Mem (Rw strC mem0) 1 w w.heap.size s := by
  have hf : nmV l = l.flatMap strC := by
    unfold nmV
    clear h
    induction l with
    | nil => rfl
    | cons a r ih => rw [List.map_cons, List.flatMap_cons, ← ih]; rfl
  rw [hf] at h
  obtain ⟨A, cap, hv, hs⟩ := Sl.of_own (c := strC) (sz := 1) (fun _ => rfl) (by decide) h
  subst hv
  have hcap : n ≤ cap ∧ cap ≤ maxLen := by
    rcases h.2 with ⟨h1, h2⟩ | ⟨g, cap', cur, h1, _, _, h3, h4, _⟩
    · simp only [Value.slice.injEq] at h1
      omega
    · simp only [Value.slice.injEq] at h1
      obtain ⟨_, _, rfl⟩ := h1
      exact ⟨h3, h4⟩
  refine ⟨⟨A, n, cap, l⟩, rfl, rfl, ⟨⟨hs.1, fun k x hx => ?_⟩, hn, hcap.1, hcap.2⟩⟩
  obtain ⟨b, o, vs, h1, h2, h3, h4⟩ := hs.2 k x hx
  exact ⟨b, o, vs, h1, h2, ⟨h3, trivial⟩, h4⟩

set_option maxRecDepth 100000 in
set_option maxHeartbeats 1000000 in
theorem collect_Twn (s : SlR Twn) (p : Twn → ByteArray) (fid : Nat) (cp : Array Value) (w w0 : World) (B : Nat) (hM : SlR.Mem (Rw cTwn MTwn) 7 w0 B s) (hw : Below B w0 w) (hB : B ≤ w.heap.size) (hs : s.n ≤ 100000)
    (hcf : ∀ (args : Array Value) (W : World), (callFunc fid args).run Try.prog W = .ok (.enter fid args) W) (hp : ∀ W x, Below w.heap.size w W → Calls Try.prog fid (#[.agg #[.string x.nm, .int .i64 x.place, .int .i64 x.flood, .int .i64 x.lead, .int .i64 x.people, .int .i64 x.watch, .int .i64 x.quorum]] ++ cp) W (fun e w' => e = .returned (.string (p x)) ∧ Below W.heap.size W w')) :
    Calls Try.prog 31 #[.slice s.a s.n s.c, .func (.func fid) #[] cp] w fun e w' => ∃ v, e = .returned v ∧ w'.ownsRow w.heap.size 9 1 v s.n (nmV (s.l.map p)) ∧ Below w.heap.size w w' := by
  obtain ⟨i0, ti0, ti1, ti2, ti3⟩ := info_parts info_str
  have HLEN := Lib.hid hM.len
  have HMM := Lib.hid hM
  have HW := Lib.hid hw
  have HP := Lib.hid hp
  obtain ⟨A, hA⟩ : ∃ A, s.a = A := ⟨_, rfl⟩
  obtain ⟨n, hn'⟩ : ∃ n, s.n = n := ⟨_, rfl⟩
  rw [hA, hn']
  rw [hn'] at hs
  have HA := Lib.hid hA
  have HN := Lib.hid hn'
  clear hM hw hA hn' hp
  go_enter Try.func31, Try.ntmps31
  go_wp2
  go_loopw [5, 10] (fun v i wr => ∃ k : Nat, k ≤ n ∧ i = .int .i64 (k : Int) ∧ wr.ownsRow w.heap.size 9 1 v k (nmV ((s.l.take k).map p)) ∧ Below w.heap.size w wr) (fun _ i _ => n - (intOf i).toNat)
  case atStart => exact ⟨0, by omega, rfl, World.ownsRow_nil _ _ _ _, Below.refl _ _⟩
  case round =>
    obtain ⟨k, hk, rfl, ho, hb⟩ := hrel
    have HB := Lib.hid hb
    have HO := Lib.hid ho
    have hsz := hb.size
    clear hb ho
    by_cases hlt : k < n
    · have hk0 : (0 : Int) ≤ (k : Int) := by omega
      have hki : (k : Int) < (n : Int) := by omega
      obtain ⟨pb, po, x, hpa, hpb, hx, hmx, hc⟩ := HMM.out.at_ (k := k) (by rw [HN.out]; exact hlt)
      obtain rfl : A = some ⟨pb, po, none⟩ := HA.out.symm.trans hpa
      have hbw := HW.out.trans (HB.out.mono hB)
      have e0 := hc wr hbw 0 _ rfl
      have e1 := hc wr hbw 1 _ rfl
      have e2 := hc wr hbw 2 _ rfl
      have e3 := hc wr hbw 3 _ rfl
      have e4 := hc wr hbw 4 _ rfl
      have e5 := hc wr hbw 5 _ rfl
      have e6 := hc wr hbw 6 _ rfl
      simp only [Nat.add_zero] at e0
      have HX := Lib.hid (show nmV ((s.l.take (k + 1)).map p) = nmV ((s.l.take k).map p) ++ [.string (p x)] by
        have hkl := (List.getElem?_eq_some_iff.1 hx).1
        have hkx := (List.getElem?_eq_some_iff.1 hx).2
        rw [List.take_succ_eq_append_getElem hkl, hkx]
        simp [nmV])
      obtain ⟨W1, hW1⟩ : ∃ W, W = wr.alloc (.cells #[.string x.nm, .int .i64 x.place, .int .i64 x.flood, .int .i64 x.lead, .int .i64 x.people, .int .i64 x.watch, .int .i64 x.quorum] 41) := ⟨_, rfl⟩
      have hb1 : Below w.heap.size w W1 := by rw [hW1]; exact HB.out.alloc hsz _
      have ho1 : W1.ownsRow w.heap.size 9 1 u5 k (nmV ((s.l.take k).map p)) := by rw [hW1]; exact HO.out.alloc _
      have HO1 := Lib.hid ho1
      have HB1 := Lib.hid hb1
      have CP := Lib.hid (HP.out W1 x hb1)
      obtain ⟨r, hr⟩ : ∃ r, p x = r := ⟨_, rfl⟩
      rw [hr] at CP HX
      have HW1 := Lib.hid hW1
      clear hpa hbw hx hc hmx hr hW1 hb1 ho1
      go_wp2_with fail
      rw [← HW1.out]
      refine CP.out.mono ?_
      rintro e W ⟨rfl, hbW⟩
      have HBW := Lib.hid (HB1.out.trans (hbW.mono HB1.out.size))
      have HOW := Lib.hid (own_below HO1.out hbW)
      have hszW : w.heap.size ≤ W.heap.size := HBW.out.size
      clear hbW e0
      go_wp2_with (at_builtin; go_must (refine wpList_append_own _ rfl (.tmp 14) (.tmp 18) 22 rfl w.heap.size 9 i0 (.string ⟨#[]⟩) 1 16 Try.underlying22 ti0 ti1 ti2 ti3 rfl (by decide) u5 k (nmV ((s.l.take k).map p)) rfl (HOW.out.alloc _) ⟨W.heap.size, 0, none⟩ 1 1 [.string r] rfl rfl (new_cells _ rfl _ _) (by intro u hu; simp at hu; subst hu; rfl) (by unfold maxLen; omega) (by omega) (by simp; omega) ?_))
      intro v2 w2 hown2 hg2 _
      have HON := Lib.hid hown2
      have HBN := Lib.hid ((HBW.out.alloc hszW (.cells #[.string r] 9)).grown hg2 (by simp; omega) (fun j hj => (HOW.out.lt j hj).1))
      clear hown2 hg2
      go_wp2
      go_roundw
      case rel => exact ⟨k + 1, by omega, by go_num, by rw [HX.out, List.map_take]; exact HON.out, HBN.out⟩
      case measure => simp [intOf]; omega
    · obtain rfl : k = n := by omega
      have HO2 := Lib.hid (show World.ownsRow wr w.heap.size 9 1 u5 k (nmV (s.l.map p)) by
        have := HO.out
        rw [List.take_of_length_le (by rw [HLEN.out, HN.out]; exact Nat.le_refl _)] at this
        exact this)
      go_wp2
      go_ret
      exact ⟨_, rfl, HO2.out, HB.out⟩

set_option maxRecDepth 100000 in
theorem name_Twn (x : Twn) (W : World) : Calls Try.prog 32 #[.agg #[.string x.nm, .int .i64 x.place, .int .i64 x.flood, .int .i64 x.lead, .int .i64 x.people, .int .i64 x.watch, .int .i64 x.quorum]] W fun e w' => e = .returned (.string x.nm) ∧ Below W.heap.size W w' := by
  go_enter Try.func32, Try.ntmps32
  go_wp2
  go_ret
  exact ⟨rfl, (Below.refl _ _).alloc (Nat.le_refl _) _⟩

set_option maxRecDepth 100000 in
set_option maxHeartbeats 1000000 in
theorem collect_She (s : SlR She) (p : She → ByteArray) (fid : Nat) (cp : Array Value) (w w0 : World) (B : Nat) (hM : SlR.Mem (Rw cShe MShe) 2 w0 B s) (hw : Below B w0 w) (hB : B ≤ w.heap.size) (hs : s.n ≤ 100000)
    (hcf : ∀ (args : Array Value) (W : World), (callFunc fid args).run Try.prog W = .ok (.enter fid args) W) (hp : ∀ W x, Below w.heap.size w W → Calls Try.prog fid (#[.agg #[.string x.nm, .int .i64 x.room]] ++ cp) W (fun e w' => e = .returned (.string (p x)) ∧ Below W.heap.size W w')) :
    Calls Try.prog 33 #[.slice s.a s.n s.c, .func (.func fid) #[] cp] w fun e w' => ∃ v, e = .returned v ∧ w'.ownsRow w.heap.size 9 1 v s.n (nmV (s.l.map p)) ∧ Below w.heap.size w w' := by
  obtain ⟨i0, ti0, ti1, ti2, ti3⟩ := info_parts info_str
  have HLEN := Lib.hid hM.len
  have HMM := Lib.hid hM
  have HW := Lib.hid hw
  have HP := Lib.hid hp
  obtain ⟨A, hA⟩ : ∃ A, s.a = A := ⟨_, rfl⟩
  obtain ⟨n, hn'⟩ : ∃ n, s.n = n := ⟨_, rfl⟩
  rw [hA, hn']
  rw [hn'] at hs
  have HA := Lib.hid hA
  have HN := Lib.hid hn'
  clear hM hw hA hn' hp
  go_enter Try.func33, Try.ntmps33
  go_wp2
  go_loopw [5, 10] (fun v i wr => ∃ k : Nat, k ≤ n ∧ i = .int .i64 (k : Int) ∧ wr.ownsRow w.heap.size 9 1 v k (nmV ((s.l.take k).map p)) ∧ Below w.heap.size w wr) (fun _ i _ => n - (intOf i).toNat)
  case atStart => exact ⟨0, by omega, rfl, World.ownsRow_nil _ _ _ _, Below.refl _ _⟩
  case round =>
    obtain ⟨k, hk, rfl, ho, hb⟩ := hrel
    have HB := Lib.hid hb
    have HO := Lib.hid ho
    have hsz := hb.size
    clear hb ho
    by_cases hlt : k < n
    · have hk0 : (0 : Int) ≤ (k : Int) := by omega
      have hki : (k : Int) < (n : Int) := by omega
      obtain ⟨pb, po, x, hpa, hpb, hx, hmx, hc⟩ := HMM.out.at_ (k := k) (by rw [HN.out]; exact hlt)
      obtain rfl : A = some ⟨pb, po, none⟩ := HA.out.symm.trans hpa
      have hbw := HW.out.trans (HB.out.mono hB)
      have e0 := hc wr hbw 0 _ rfl
      have e1 := hc wr hbw 1 _ rfl
      simp only [Nat.add_zero] at e0
      have HX := Lib.hid (show nmV ((s.l.take (k + 1)).map p) = nmV ((s.l.take k).map p) ++ [.string (p x)] by
        have hkl := (List.getElem?_eq_some_iff.1 hx).1
        have hkx := (List.getElem?_eq_some_iff.1 hx).2
        rw [List.take_succ_eq_append_getElem hkl, hkx]
        simp [nmV])
      obtain ⟨W1, hW1⟩ : ∃ W, W = wr.alloc (.cells #[.string x.nm, .int .i64 x.room] 95) := ⟨_, rfl⟩
      have hb1 : Below w.heap.size w W1 := by rw [hW1]; exact HB.out.alloc hsz _
      have ho1 : W1.ownsRow w.heap.size 9 1 u5 k (nmV ((s.l.take k).map p)) := by rw [hW1]; exact HO.out.alloc _
      have HO1 := Lib.hid ho1
      have HB1 := Lib.hid hb1
      have CP := Lib.hid (HP.out W1 x hb1)
      obtain ⟨r, hr⟩ : ∃ r, p x = r := ⟨_, rfl⟩
      rw [hr] at CP HX
      have HW1 := Lib.hid hW1
      clear hpa hbw hx hc hmx hr hW1 hb1 ho1
      go_wp2_with fail
      rw [← HW1.out]
      refine CP.out.mono ?_
      rintro e W ⟨rfl, hbW⟩
      have HBW := Lib.hid (HB1.out.trans (hbW.mono HB1.out.size))
      have HOW := Lib.hid (own_below HO1.out hbW)
      have hszW : w.heap.size ≤ W.heap.size := HBW.out.size
      clear hbW e0
      go_wp2_with (at_builtin; go_must (refine wpList_append_own _ rfl (.tmp 14) (.tmp 18) 22 rfl w.heap.size 9 i0 (.string ⟨#[]⟩) 1 16 Try.underlying22 ti0 ti1 ti2 ti3 rfl (by decide) u5 k (nmV ((s.l.take k).map p)) rfl (HOW.out.alloc _) ⟨W.heap.size, 0, none⟩ 1 1 [.string r] rfl rfl (new_cells _ rfl _ _) (by intro u hu; simp at hu; subst hu; rfl) (by unfold maxLen; omega) (by omega) (by simp; omega) ?_))
      intro v2 w2 hown2 hg2 _
      have HON := Lib.hid hown2
      have HBN := Lib.hid ((HBW.out.alloc hszW (.cells #[.string r] 9)).grown hg2 (by simp; omega) (fun j hj => (HOW.out.lt j hj).1))
      clear hown2 hg2
      go_wp2
      go_roundw
      case rel => exact ⟨k + 1, by omega, by go_num, by rw [HX.out, List.map_take]; exact HON.out, HBN.out⟩
      case measure => simp [intOf]; omega
    · obtain rfl : k = n := by omega
      have HO2 := Lib.hid (show World.ownsRow wr w.heap.size 9 1 u5 k (nmV (s.l.map p)) by
        have := HO.out
        rw [List.take_of_length_le (by rw [HLEN.out, HN.out]; exact Nat.le_refl _)] at this
        exact this)
      go_wp2
      go_ret
      exact ⟨_, rfl, HO2.out, HB.out⟩

set_option maxRecDepth 100000 in
theorem name_She (x : She) (W : World) : Calls Try.prog 34 #[.agg #[.string x.nm, .int .i64 x.room]] W fun e w' => e = .returned (.string x.nm) ∧ Below W.heap.size W w' := by
  go_enter Try.func34, Try.ntmps34
  go_wp2
  go_ret
  exact ⟨rfl, (Below.refl _ _).alloc (Nat.le_refl _) _⟩

set_option maxRecDepth 100000 in
set_option maxHeartbeats 1000000 in
theorem collect_Gau (s : SlR Gau) (p : Gau → ByteArray) (fid : Nat) (cp : Array Value) (w w0 : World) (B : Nat) (hM : SlR.Mem (Rw cGau MGau) 5 w0 B s) (hw : Below B w0 w) (hB : B ≤ w.heap.size) (hs : s.n ≤ 100000)
    (hcf : ∀ (args : Array Value) (W : World), (callFunc fid args).run Try.prog W = .ok (.enter fid args) W) (hp : ∀ W x, Below w.heap.size w W → Calls Try.prog fid (#[.agg #[.string x.nm, .int .i64 x.kind, .int .i64 x.target, .int .i64 x.err, .int .i64 x.drift]] ++ cp) W (fun e w' => e = .returned (.string (p x)) ∧ Below W.heap.size W w')) :
    Calls Try.prog 40 #[.slice s.a s.n s.c, .func (.func fid) #[] cp] w fun e w' => ∃ v, e = .returned v ∧ w'.ownsRow w.heap.size 9 1 v s.n (nmV (s.l.map p)) ∧ Below w.heap.size w w' := by
  obtain ⟨i0, ti0, ti1, ti2, ti3⟩ := info_parts info_str
  have HLEN := Lib.hid hM.len
  have HMM := Lib.hid hM
  have HW := Lib.hid hw
  have HP := Lib.hid hp
  obtain ⟨A, hA⟩ : ∃ A, s.a = A := ⟨_, rfl⟩
  obtain ⟨n, hn'⟩ : ∃ n, s.n = n := ⟨_, rfl⟩
  rw [hA, hn']
  rw [hn'] at hs
  have HA := Lib.hid hA
  have HN := Lib.hid hn'
  clear hM hw hA hn' hp
  go_enter Try.func40, Try.ntmps40
  go_wp2
  go_loopw [5, 10] (fun v i wr => ∃ k : Nat, k ≤ n ∧ i = .int .i64 (k : Int) ∧ wr.ownsRow w.heap.size 9 1 v k (nmV ((s.l.take k).map p)) ∧ Below w.heap.size w wr) (fun _ i _ => n - (intOf i).toNat)
  case atStart => exact ⟨0, by omega, rfl, World.ownsRow_nil _ _ _ _, Below.refl _ _⟩
  case round =>
    obtain ⟨k, hk, rfl, ho, hb⟩ := hrel
    have HB := Lib.hid hb
    have HO := Lib.hid ho
    have hsz := hb.size
    clear hb ho
    by_cases hlt : k < n
    · have hk0 : (0 : Int) ≤ (k : Int) := by omega
      have hki : (k : Int) < (n : Int) := by omega
      obtain ⟨pb, po, x, hpa, hpb, hx, hmx, hc⟩ := HMM.out.at_ (k := k) (by rw [HN.out]; exact hlt)
      obtain rfl : A = some ⟨pb, po, none⟩ := HA.out.symm.trans hpa
      have hbw := HW.out.trans (HB.out.mono hB)
      have e0 := hc wr hbw 0 _ rfl
      have e1 := hc wr hbw 1 _ rfl
      have e2 := hc wr hbw 2 _ rfl
      have e3 := hc wr hbw 3 _ rfl
      have e4 := hc wr hbw 4 _ rfl
      simp only [Nat.add_zero] at e0
      have HX := Lib.hid (show nmV ((s.l.take (k + 1)).map p) = nmV ((s.l.take k).map p) ++ [.string (p x)] by
        have hkl := (List.getElem?_eq_some_iff.1 hx).1
        have hkx := (List.getElem?_eq_some_iff.1 hx).2
        rw [List.take_succ_eq_append_getElem hkl, hkx]
        simp [nmV])
      obtain ⟨W1, hW1⟩ : ∃ W, W = wr.alloc (.cells #[.string x.nm, .int .i64 x.kind, .int .i64 x.target, .int .i64 x.err, .int .i64 x.drift] 44) := ⟨_, rfl⟩
      have hb1 : Below w.heap.size w W1 := by rw [hW1]; exact HB.out.alloc hsz _
      have ho1 : W1.ownsRow w.heap.size 9 1 u5 k (nmV ((s.l.take k).map p)) := by rw [hW1]; exact HO.out.alloc _
      have HO1 := Lib.hid ho1
      have HB1 := Lib.hid hb1
      have CP := Lib.hid (HP.out W1 x hb1)
      obtain ⟨r, hr⟩ : ∃ r, p x = r := ⟨_, rfl⟩
      rw [hr] at CP HX
      have HW1 := Lib.hid hW1
      clear hpa hbw hx hc hmx hr hW1 hb1 ho1
      go_wp2_with fail
      rw [← HW1.out]
      refine CP.out.mono ?_
      rintro e W ⟨rfl, hbW⟩
      have HBW := Lib.hid (HB1.out.trans (hbW.mono HB1.out.size))
      have HOW := Lib.hid (own_below HO1.out hbW)
      have hszW : w.heap.size ≤ W.heap.size := HBW.out.size
      clear hbW e0
      go_wp2_with (at_builtin; go_must (refine wpList_append_own _ rfl (.tmp 14) (.tmp 18) 22 rfl w.heap.size 9 i0 (.string ⟨#[]⟩) 1 16 Try.underlying22 ti0 ti1 ti2 ti3 rfl (by decide) u5 k (nmV ((s.l.take k).map p)) rfl (HOW.out.alloc _) ⟨W.heap.size, 0, none⟩ 1 1 [.string r] rfl rfl (new_cells _ rfl _ _) (by intro u hu; simp at hu; subst hu; rfl) (by unfold maxLen; omega) (by omega) (by simp; omega) ?_))
      intro v2 w2 hown2 hg2 _
      have HON := Lib.hid hown2
      have HBN := Lib.hid ((HBW.out.alloc hszW (.cells #[.string r] 9)).grown hg2 (by simp; omega) (fun j hj => (HOW.out.lt j hj).1))
      clear hown2 hg2
      go_wp2
      go_roundw
      case rel => exact ⟨k + 1, by omega, by go_num, by rw [HX.out, List.map_take]; exact HON.out, HBN.out⟩
      case measure => simp [intOf]; omega
    · obtain rfl : k = n := by omega
      have HO2 := Lib.hid (show World.ownsRow wr w.heap.size 9 1 u5 k (nmV (s.l.map p)) by
        have := HO.out
        rw [List.take_of_length_le (by rw [HLEN.out, HN.out]; exact Nat.le_refl _)] at this
        exact this)
      go_wp2
      go_ret
      exact ⟨_, rfl, HO2.out, HB.out⟩

set_option maxRecDepth 100000 in
theorem name_Gau (x : Gau) (W : World) : Calls Try.prog 41 #[.agg #[.string x.nm, .int .i64 x.kind, .int .i64 x.target, .int .i64 x.err, .int .i64 x.drift]] W fun e w' => e = .returned (.string x.nm) ∧ Below W.heap.size W w' := by
  go_enter Try.func41, Try.ntmps41
  go_wp2
  go_ret
  exact ⟨rfl, (Below.refl _ _).alloc (Nat.le_refl _) _⟩

set_option maxRecDepth 100000 in
set_option maxHeartbeats 1000000 in
theorem collect_Rod (s : SlR Rod) (p : Rod → ByteArray) (fid : Nat) (cp : Array Value) (w w0 : World) (B : Nat) (hM : SlR.Mem (Rw cRod MRod) 7 w0 B s) (hw : Below B w0 w) (hB : B ≤ w.heap.size) (hs : s.n ≤ 100000)
    (hcf : ∀ (args : Array Value) (W : World), (callFunc fid args).run Try.prog W = .ok (.enter fid args) W) (hp : ∀ W x, Below w.heap.size w W → Calls Try.prog fid (#[.agg #[.string x.nm, .int .i64 x.frm, .int .i64 x.to, .int .i64 x.hours, .int .i64 x.flow, .int .i64 x.byp, .int .i64 x.limit]] ++ cp) W (fun e w' => e = .returned (.string (p x)) ∧ Below W.heap.size W w')) :
    Calls Try.prog 42 #[.slice s.a s.n s.c, .func (.func fid) #[] cp] w fun e w' => ∃ v, e = .returned v ∧ w'.ownsRow w.heap.size 9 1 v s.n (nmV (s.l.map p)) ∧ Below w.heap.size w w' := by
  obtain ⟨i0, ti0, ti1, ti2, ti3⟩ := info_parts info_str
  have HLEN := Lib.hid hM.len
  have HMM := Lib.hid hM
  have HW := Lib.hid hw
  have HP := Lib.hid hp
  obtain ⟨A, hA⟩ : ∃ A, s.a = A := ⟨_, rfl⟩
  obtain ⟨n, hn'⟩ : ∃ n, s.n = n := ⟨_, rfl⟩
  rw [hA, hn']
  rw [hn'] at hs
  have HA := Lib.hid hA
  have HN := Lib.hid hn'
  clear hM hw hA hn' hp
  go_enter Try.func42, Try.ntmps42
  go_wp2
  go_loopw [5, 10] (fun v i wr => ∃ k : Nat, k ≤ n ∧ i = .int .i64 (k : Int) ∧ wr.ownsRow w.heap.size 9 1 v k (nmV ((s.l.take k).map p)) ∧ Below w.heap.size w wr) (fun _ i _ => n - (intOf i).toNat)
  case atStart => exact ⟨0, by omega, rfl, World.ownsRow_nil _ _ _ _, Below.refl _ _⟩
  case round =>
    obtain ⟨k, hk, rfl, ho, hb⟩ := hrel
    have HB := Lib.hid hb
    have HO := Lib.hid ho
    have hsz := hb.size
    clear hb ho
    by_cases hlt : k < n
    · have hk0 : (0 : Int) ≤ (k : Int) := by omega
      have hki : (k : Int) < (n : Int) := by omega
      obtain ⟨pb, po, x, hpa, hpb, hx, hmx, hc⟩ := HMM.out.at_ (k := k) (by rw [HN.out]; exact hlt)
      obtain rfl : A = some ⟨pb, po, none⟩ := HA.out.symm.trans hpa
      have hbw := HW.out.trans (HB.out.mono hB)
      have e0 := hc wr hbw 0 _ rfl
      have e1 := hc wr hbw 1 _ rfl
      have e2 := hc wr hbw 2 _ rfl
      have e3 := hc wr hbw 3 _ rfl
      have e4 := hc wr hbw 4 _ rfl
      have e5 := hc wr hbw 5 _ rfl
      have e6 := hc wr hbw 6 _ rfl
      simp only [Nat.add_zero] at e0
      have HX := Lib.hid (show nmV ((s.l.take (k + 1)).map p) = nmV ((s.l.take k).map p) ++ [.string (p x)] by
        have hkl := (List.getElem?_eq_some_iff.1 hx).1
        have hkx := (List.getElem?_eq_some_iff.1 hx).2
        rw [List.take_succ_eq_append_getElem hkl, hkx]
        simp [nmV])
      obtain ⟨W1, hW1⟩ : ∃ W, W = wr.alloc (.cells #[.string x.nm, .int .i64 x.frm, .int .i64 x.to, .int .i64 x.hours, .int .i64 x.flow, .int .i64 x.byp, .int .i64 x.limit] 106) := ⟨_, rfl⟩
      have hb1 : Below w.heap.size w W1 := by rw [hW1]; exact HB.out.alloc hsz _
      have ho1 : W1.ownsRow w.heap.size 9 1 u5 k (nmV ((s.l.take k).map p)) := by rw [hW1]; exact HO.out.alloc _
      have HO1 := Lib.hid ho1
      have HB1 := Lib.hid hb1
      have CP := Lib.hid (HP.out W1 x hb1)
      obtain ⟨r, hr⟩ : ∃ r, p x = r := ⟨_, rfl⟩
      rw [hr] at CP HX
      have HW1 := Lib.hid hW1
      clear hpa hbw hx hc hmx hr hW1 hb1 ho1
      go_wp2_with fail
      rw [← HW1.out]
      refine CP.out.mono ?_
      rintro e W ⟨rfl, hbW⟩
      have HBW := Lib.hid (HB1.out.trans (hbW.mono HB1.out.size))
      have HOW := Lib.hid (own_below HO1.out hbW)
      have hszW : w.heap.size ≤ W.heap.size := HBW.out.size
      clear hbW e0
      go_wp2_with (at_builtin; go_must (refine wpList_append_own _ rfl (.tmp 14) (.tmp 18) 22 rfl w.heap.size 9 i0 (.string ⟨#[]⟩) 1 16 Try.underlying22 ti0 ti1 ti2 ti3 rfl (by decide) u5 k (nmV ((s.l.take k).map p)) rfl (HOW.out.alloc _) ⟨W.heap.size, 0, none⟩ 1 1 [.string r] rfl rfl (new_cells _ rfl _ _) (by intro u hu; simp at hu; subst hu; rfl) (by unfold maxLen; omega) (by omega) (by simp; omega) ?_))
      intro v2 w2 hown2 hg2 _
      have HON := Lib.hid hown2
      have HBN := Lib.hid ((HBW.out.alloc hszW (.cells #[.string r] 9)).grown hg2 (by simp; omega) (fun j hj => (HOW.out.lt j hj).1))
      clear hown2 hg2
      go_wp2
      go_roundw
      case rel => exact ⟨k + 1, by omega, by go_num, by rw [HX.out, List.map_take]; exact HON.out, HBN.out⟩
      case measure => simp [intOf]; omega
    · obtain rfl : k = n := by omega
      have HO2 := Lib.hid (show World.ownsRow wr w.heap.size 9 1 u5 k (nmV (s.l.map p)) by
        have := HO.out
        rw [List.take_of_length_le (by rw [HLEN.out, HN.out]; exact Nat.le_refl _)] at this
        exact this)
      go_wp2
      go_ret
      exact ⟨_, rfl, HO2.out, HB.out⟩

set_option maxRecDepth 100000 in
theorem name_Rod (x : Rod) (W : World) : Calls Try.prog 43 #[.agg #[.string x.nm, .int .i64 x.frm, .int .i64 x.to, .int .i64 x.hours, .int .i64 x.flow, .int .i64 x.byp, .int .i64 x.limit]] W fun e w' => e = .returned (.string x.nm) ∧ Below W.heap.size W w' := by
  go_enter Try.func43, Try.ntmps43
  go_wp2
  go_ret
  exact ⟨rfl, (Below.refl _ _).alloc (Nat.le_refl _) _⟩

end Go.Proofs.Ytmkbojhnbkdalaa
