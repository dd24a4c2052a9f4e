/- The walks of basin's collect, and of the closures that give a name. -/
import Derived.Test.YtmkbojhnbkdalaaBasH
import Derived.Test.YtmkbojhnbkdalaaRow
set_option linter.unusedSimpArgs false
set_option linter.unusedVariables false
namespace Go.Proofs.Ytmkbojhnbkdalaa
open Go.RowKit


set_option maxRecDepth 100000 in
set_option maxHeartbeats 1000000 in
theorem collect_Plc (s : SlR Plc) (p : Plc → ByteArray) (fid : Nat) (cp : Array Value) (w w0 : World) (B : Nat) (hM : SlR.Mem (Rw cPlc MPlc) 12 w0 B s) (hw : Below B w0 w) (hB : B ≤ w.heap.size) (hs : s.n ≤ 100000)
    (hcf : ∀ (args : Array Value) (W : World), (callFunc fid args).run Try.prog W = .ok (.enter fid args) W) (hp : ∀ W x, Below w.heap.size w W → Calls Try.prog fid (#[.agg #[.string x.nm, .int .i64 x.kind, .int .i64 x.office, .int .i64 x.cap, .slice x.lv.a x.lv.n x.lv.c, .slice x.st.a x.st.n x.st.c, .int .i64 x.num, .int .i64 x.den, .int .i64 x.down, .int .i64 x.delay, .int .i64 x.floor, .slice x.rn.a x.rn.n x.rn.c]] ++ cp) W (fun e w' => e = .returned (.string (p x)) ∧ Below W.heap.size W w')) :
    Calls Try.prog 36 #[.slice s.a s.n s.c, .func (.func fid) #[] cp] w fun e w' => ∃ v, e = .returned v ∧ w'.ownsRow w.heap.size 9 1 v s.n (nmV (s.l.map p)) ∧ Below w.heap.size w w' := by
  obtain ⟨i0, ti0, ti1, ti2, ti3⟩ := info_parts info_str
  have HLEN := Lib.hid hM.len
  have HMM := Lib.hid hM
  have HW := Lib.hid hw
  have HP := Lib.hid hp
  obtain ⟨A, hA⟩ : ∃ A, s.a = A := ⟨_, rfl⟩
  obtain ⟨n, hn'⟩ : ∃ n, s.n = n := ⟨_, rfl⟩
  rw [hA, hn']
  rw [hn'] at hs
  have HA := Lib.hid hA
  have HN := Lib.hid hn'
  clear hM hw hA hn' hp
  go_enter Try.func36, Try.ntmps36
  go_wp2
  go_loopw [5, 10] (fun v i wr => ∃ k : Nat, k ≤ n ∧ i = .int .i64 (k : Int) ∧ wr.ownsRow w.heap.size 9 1 v k (nmV ((s.l.take k).map p)) ∧ Below w.heap.size w wr) (fun _ i _ => n - (intOf i).toNat)
  case atStart => exact ⟨0, by omega, rfl, World.ownsRow_nil _ _ _ _, Below.refl _ _⟩
  case round =>
    obtain ⟨k, hk, rfl, ho, hb⟩ := hrel
    have HB := Lib.hid hb
    have HO := Lib.hid ho
    have hsz := hb.size
    clear hb ho
    by_cases hlt : k < n
    · have hk0 : (0 : Int) ≤ (k : Int) := by omega
      have hki : (k : Int) < (n : Int) := by omega
      obtain ⟨pb, po, x, hpa, hpb, hx, hmx, hc⟩ := HMM.out.at_ (k := k) (by rw [HN.out]; exact hlt)
      obtain rfl : A = some ⟨pb, po, none⟩ := HA.out.symm.trans hpa
      have hbw := HW.out.trans (HB.out.mono hB)
      have HX := Lib.hid (show nmV ((s.l.take (k + 1)).map p) = nmV ((s.l.take k).map p) ++ [.string (p x)] by
        have hkl := (List.getElem?_eq_some_iff.1 hx).1
        have hkx := (List.getElem?_eq_some_iff.1 hx).2
        rw [List.take_succ_eq_append_getElem hkl, hkx]
        simp [nmV])
      have HC := Lib.hid (show ∀ (j : Nat) (v : Value), #[.string x.nm, .int .i64 x.kind, .int .i64 x.office, .int .i64 x.cap, .slice x.lv.a x.lv.n x.lv.c, .slice x.st.a x.st.n x.st.c, .int .i64 x.num, .int .i64 x.den, .int .i64 x.down, .int .i64 x.delay, .int .i64 x.floor, .slice x.rn.a x.rn.n x.rn.c].toList[j]? = some v → wr.cell? ((⟨pb, po + k * 12, none⟩ : Addr).add j) = some v from fun j v hv => by
        rw [Go.WideShapes.add_plain]
        exact hc wr hbw j v hv)
      obtain ⟨r, hr⟩ : ∃ r, p x = r := ⟨_, rfl⟩
      rw [hr] at HX
      have HPR := Lib.hid hr
      clear hpa hx hc hmx hr hbw
      go_wp2_with (first | refine wpList_load_cells rfl 70 _ rfl ⟨pb, po + k * 12, none⟩ rfl #[.string x.nm, .int .i64 x.kind, .int .i64 x.office, .int .i64 x.cap, .slice x.lv.a x.lv.n x.lv.c, .slice x.st.a x.st.n x.st.c, .int .i64 x.num, .int .i64 x.den, .int .i64 x.down, .int .i64 x.delay, .int .i64 x.floor, .slice x.rn.a x.rn.n x.rn.c] HC.out _ Try.underlying70 rfl (by kernel_rfl) ?_ | refine wpList_store_rowC rfl 70 _ _ rfl wr.heap.size rfl #[.string x.nm, .int .i64 x.kind, .int .i64 x.office, .int .i64 x.cap, .slice x.lv.a x.lv.n x.lv.c, .slice x.st.a x.st.n x.st.c, .int .i64 x.num, .int .i64 x.den, .int .i64 x.down, .int .i64 x.delay, .int .i64 x.floor, .slice x.rn.a x.rn.n x.rn.c] rfl 70 _ (Bk.new wr _ _) (by kernel_rfl) (by kernel_rfl) (by kernel_rfl) ?_)
      intro W1 HK1 HG1
      have HB1 := Lib.hid ((HB.out.alloc hsz _).grown HG1.out (by simp; omega) (fun j hj => by injection hj with hj; omega))
      have HO1 := Lib.hid (show W1.ownsRow w.heap.size 9 1 u5 k (nmV ((s.l.take k).map p)) from (HO.out.alloc _).kept HG1.out (.inr (fun e => by have := (HO.out.lt _ e).2; omega)))
      have CP := Lib.hid (HP.out W1 x HB1.out)
      rw [HPR.out] at CP
      go_wp2_with (refine wpList_load_row rfl 70 _ rfl wr.heap.size rfl 70 #[.string x.nm, .int .i64 x.kind, .int .i64 x.office, .int .i64 x.cap, .slice x.lv.a x.lv.n x.lv.c, .slice x.st.a x.st.n x.st.c, .int .i64 x.num, .int .i64 x.den, .int .i64 x.down, .int .i64 x.delay, .int .i64 x.floor, .slice x.rn.a x.rn.n x.rn.c] (0, 0) _ HK1.out Try.underlying70 rfl (by kernel_rfl) ?_)
      refine CP.out.mono ?_
      rintro e W ⟨rfl, hbW⟩
      have HBW := Lib.hid (HB1.out.trans (hbW.mono HB1.out.size))
      have HOW := Lib.hid (own_below HO1.out hbW)
      have hszW : w.heap.size ≤ W.heap.size := HBW.out.size
      clear hbW
      go_wp2_with (at_builtin; go_must (refine wpList_append_own _ rfl (.tmp 14) (.tmp 18) 22 rfl w.heap.size 9 i0 (.string ⟨#[]⟩) 1 16 Try.underlying22 ti0 ti1 ti2 ti3 rfl (by decide) u5 k (nmV ((s.l.take k).map p)) rfl (HOW.out.alloc _) ⟨W.heap.size, 0, none⟩ 1 1 [.string r] rfl rfl (new_cells _ rfl _ _) (by intro u hu; simp at hu; subst hu; rfl) (by unfold maxLen; omega) (by omega) (by simp; omega) ?_))
      intro v2 w2 hown2 hg2 _
      have HON := Lib.hid hown2
      have HBN := Lib.hid ((HBW.out.alloc hszW (.cells #[.string r] 9)).grown hg2 (by simp; omega) (fun j hj => (HOW.out.lt j hj).1))
      clear hown2 hg2
      go_wp2
      go_roundw
      case rel => exact ⟨k + 1, by omega, by go_num, by rw [HX.out, List.map_take]; exact HON.out, HBN.out⟩
      case measure => simp [intOf]; omega
    · obtain rfl : k = n := by omega
      have HO2 := Lib.hid (show World.ownsRow wr w.heap.size 9 1 u5 k (nmV (s.l.map p)) by
        have := HO.out
        rw [List.take_of_length_le (by rw [HLEN.out, HN.out]; exact Nat.le_refl _)] at this
        exact this)
      go_wp2
      go_ret
      exact ⟨_, rfl, HO2.out, HB.out⟩

set_option maxRecDepth 100000 in
theorem name_Plc (x : Plc) (W : World) : Calls Try.prog 37 #[.agg #[.string x.nm, .int .i64 x.kind, .int .i64 x.office, .int .i64 x.cap, .slice x.lv.a x.lv.n x.lv.c, .slice x.st.a x.st.n x.st.c, .int .i64 x.num, .int .i64 x.den, .int .i64 x.down, .int .i64 x.delay, .int .i64 x.floor, .slice x.rn.a x.rn.n x.rn.c]] W fun e w' => e = .returned (.string x.nm) ∧ Below W.heap.size W w' := by
  go_enter Try.func37, Try.ntmps37
  go_wp2
  go_ret
  exact ⟨rfl, (Below.refl _ _).alloc (Nat.le_refl _) _⟩

end Go.Proofs.Ytmkbojhnbkdalaa
