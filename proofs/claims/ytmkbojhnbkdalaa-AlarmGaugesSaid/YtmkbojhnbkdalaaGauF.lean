/- The walk of the law AlarmGauges. -/
import Derived.Test.YtmkbojhnbkdalaaGauE
import Derived.Test.YtmkbojhnbkdalaaGauS
import Derived.Test.YtmkbojhnbkdalaaRegionN
import Derived.Deep.DeepCutAuto
set_option linter.unusedSimpArgs false
set_option linter.unusedVariables false
namespace Go.Proofs.Ytmkbojhnbkdalaa
open Go.RowKit

theorem own_rdgs {w : World} {B : Nat} {v : Value} {n : Nat} {l : List Rdg} (h : w.ownsRow B 36 4 v n (l.flatMap cRdg)) (hn : n ≤ maxLen) : ∃ s : SlR Rdg, v = .slice s.a s.n s.c ∧ s.l = l ∧ SlR.Mem (Rw cRdg MRdg) 4 w w.heap.size s := by
  obtain ⟨A, cap, hv, hs⟩ := Sl.of_own (c := cRdg) (sz := 4) (fun _ => rfl) (by decide) h
  subst hv
  have hcap : n ≤ cap ∧ cap ≤ maxLen := by
    rcases h.2 with ⟨h1, h2⟩ | ⟨g, cap', cur, h1, _, _, h3, h4, _⟩
    · simp only [Value.slice.injEq] at h1
      omega
    · simp only [Value.slice.injEq] at h1
      obtain ⟨_, _, rfl⟩ := h1
      exact ⟨h3, h4⟩
  refine ⟨⟨A, n, cap, l⟩, rfl, rfl, ⟨⟨hs.1, fun k x hx => ?_⟩, hn, hcap.1, hcap.2⟩⟩
  obtain ⟨b, o, vs, h1, h2, h3, h4⟩ := hs.2 k x hx
  exact ⟨b, o, vs, h1, h2, ⟨h3, trivial⟩, h4⟩
theorem info_rdg : (Try.prog.info? 36).map (fun i => (i.zero, i.size, i.bytes)) = some (some (.agg #[.int .i64 0, .int .i64 0, .int .i64 0, .int .i64 0]), 4, 32) := by kernel_rfl
theorem rdg_cells {s : SlR Rdg} {ws w : World} {Bs : Nat} (hS : SlR.Mem (Rw cRdg MRdg) 4 ws Bs s) (hw : Below Bs ws w) {a : Addr} (ha : s.a = some a) : ∀ j u, (s.l.flatMap cRdg)[j]? = some u → w.cell? (a.add j) = some u := by
  intro j u hu
  have hl := flatMap_len cRdg 4 (fun _ => rfl) s.l
  have hj := (List.getElem?_eq_some_iff.1 hu).1
  rw [hl, hS.len] at hj
  have hk : j / 4 < s.n := by omega
  obtain ⟨b, o, x, hA, hlt, hx, _, hc⟩ := hS.at_ hk
  rw [ha] at hA
  injection hA with hA
  subst hA
  obtain ⟨u', hu'⟩ : ∃ z, (cRdg x)[j % 4]? = some z := ⟨_, List.getElem?_eq_getElem (by show j % 4 < 4; omega)⟩
  have h1 := flatMap_get cRdg 4 (fun _ => rfl) s.l (j / 4) x hx (j % 4) u' hu'
  rw [show j / 4 * 4 + j % 4 = j by omega, hu] at h1
  injection h1 with h1
  subst h1
  have h2 := hc w hw (j % 4) u hu'
  rw [show o + j / 4 * 4 + j % 4 = o + j by omega] at h2
  rw [Go.WideShapes.add_plain]
  exact h2
theorem run_append_rdgs {w : World} {base : Nat} {v : Value} {n : Nat} {l1 : List Rdg} {s : SlR Rdg} {ws : World} {Bs : Nat} (h1 : w.ownsRow base 36 4 v n (l1.flatMap cRdg)) (hS : SlR.Mem (Rw cRdg MRdg) 4 ws Bs s) (hw : Below Bs ws w) (hn : n ≤ 1000) (hm : s.n ≤ 1000) (hbase : base ≤ w.heap.size) :
    ∃ v' w', (Builtin.append_ #[32, 32] 32 #[v, .slice s.a s.n s.c]).run Try.prog w = .ok v' w' ∧ w'.ownsRow base 36 4 v' (n + s.n) ((l1 ++ s.l).flatMap cRdg) ∧ w.grownBy w' v.ownBlock := by
  obtain ⟨i0, ti0, ti1, ti2, ti3⟩ := info_parts info_rdg
  have hl := flatMap_len cRdg 4 (fun _ => rfl) s.l
  rw [hS.len] at hl
  cases ha : s.a with
  | none =>
    have h0 : s.n = 0 := by
      rcases Nat.eq_zero_or_pos s.n with h | h
      · exact h
      · obtain ⟨b, o, x, hA, _⟩ := hS.at_ h
        rw [ha] at hA
        cases hA
    have hnil : s.l = [] := List.length_eq_zero_iff.1 (by rw [hS.len, h0])
    refine ⟨v, w, ?_, ?_, ⟨rfl, rfl, rfl, Nat.le_refl _, fun _ _ _ => rfl⟩⟩
    · rw [h0]
      rcases h1.2 with ⟨rfl, rfl⟩ | ⟨g, cap, cur, rfl, _, _, hnc, _⟩
      · simp [Builtin.append_, run_underlying Try.underlying32, sizeOf, typeInfo, ti0, Builtin.lenOf, Builtin.firstCells]
      · simp [Builtin.append_, run_underlying Try.underlying32, sizeOf, typeInfo, ti0, Builtin.lenOf, Builtin.firstCells, hnc, storeCells]
    · rw [hnil, List.append_nil, h0, Nat.add_zero]
      exact h1
  | some a =>
    obtain ⟨v', w', hr, ho, hg, _⟩ := run_append_own (P := Try.prog) w base 32 32 36 i0 (.agg #[.int .i64 0, .int .i64 0, .int .i64 0, .int .i64 0]) 4 32 Try.underlying32 ti0 ti1 ti2 ti3 rfl (by decide) v n (l1.flatMap cRdg) h1 a s.n s.c (s.l.flatMap cRdg) hl (rdg_cells hS hw ha)
      (by intro u hu; obtain ⟨x, _, hx⟩ := List.mem_flatMap.1 hu; simp [cRdg] at hx; rcases hx with rfl | rfl | rfl | rfl <;> rfl) (by unfold maxLen; omega) (by omega) hbase
    refine ⟨v', w', hr, ?_, hg⟩
    rw [List.flatMap_append]
    exact ho

theorem filter_take {α : Type} (p : α → Bool) {l : List α} {k : Nat} {x : α} (h : l[k]? = some x) : (l.take (k + 1)).filter p = (l.take k).filter p ++ (if p x then [x] else []) := by
  have hl := (List.getElem?_eq_some_iff.1 h).1
  rw [List.take_succ_eq_append_getElem hl, (List.getElem?_eq_some_iff.1 h).2, List.filter_append]
  congr 1
  rw [List.filter_cons]
  split <;> rfl
theorem cn_wrap {cn : Nat} (h : cn ≤ 12) : wrap64 ((cn : Int) + 1) = (cn : Int) + 1 ∧ IntKind.i64.wrap ((cn : Int) + 1) = (cn : Int) + 1 := ⟨wrap64_id (by omega) (by omega), wrapI_id (by omega) (by omega)⟩
theorem hit_rel {b : Bas} {t : Twn} {r : Rdg} (h : relB b t.place r = false) : hitB b t r = false := by unfold hitB; rw [h]; rfl
theorem M_append2 {P : Program} {ops : Array Oper} {S : World → Prop} {mains : List Nat} {T : Act → World → Prop} {r : List (Nat × Oper)} {i : Nat} {a : Act} {w : World} {o : Oper} (hn : mains.contains i = true) (hw : Region.wanted o (yielded ops a.tmps) = true) (s x : Operand) (t : TypeId) (ho : o.op = .call { callee := .builtin .append, args := #[s, x], argTypes := #[t, t] })
    (v v2 v' : Value) (w' : World) (hs : a.eval s = v) (hx : a.eval x = v2) (hr : (Builtin.append_ #[t, t] o.type #[v, v2]).run P w = .ok v' w') (hS : S w') (h : ChainLM P ops S mains T r (a.put o.dst v') w') : ChainLM P ops S mains T ((i, o) :: r) a w := by
  refine M_do hn hw ⟨v', w', ?_, hS, h⟩
  unfold execOp
  simp only [ho, resolve, invoke, builtin, Sem.run_bind, Sem.run_pure, Result.andThen_ok, List.map_toArray, List.map_cons, List.map_nil, hs, hx, hr]

set_option maxRecDepth 100000 in
set_option maxHeartbeats 8000000 in
theorem gauges_all (b : Bas) (town : Int) (s : SlR Rdg) (m : Rdg) (w : World) (hM : MBas w w.heap.size b) (hO : OkBas b) (hS : SlR.Mem (Rw cRdg MRdg) 4 w w.heap.size s) (hSO : ∀ r ∈ s.l, OkRdg r) (hmO : OkRdg m) :
    Calls Try.prog 3 #[.agg #[.string b.nm, .slice b.ow.a b.ow.n b.ow.c, .int .i64 b.cells, .slice b.pl.a b.pl.n b.pl.c, .slice b.lk.a b.lk.n b.lk.c, .slice b.tw.a b.tw.n b.tw.c, .slice b.gg.a b.gg.n b.gg.c, .slice b.rd.a b.rd.n b.rd.c, .slice b.sh.a b.sh.n b.sh.c, .slice b.room.a b.room.n b.room.c, .int .i64 b.err], .int .i64 town, .slice s.a s.n s.c, .agg #[.int .i64 m.gauge, .int .i64 m.hour, .int .i64 m.value.lo, .int .i64 m.value.hi]] w fun e w' => e = .returned (.bool true) ∧ Below w.heap.size w w' := by
  obtain ⟨i0, ti0, ti1, ti2, ti3⟩ := info_parts info_rdg
  have HM := Lib.hid hM
  have HS := Lib.hid hS
  have HSO := Lib.hid hSO
  have HMO := Lib.hid hmO
  have htn := two_byte hM.2.2.2.1.le
  have hgn := two_byte hM.2.2.2.2.1.le
  have hsn := two_byte hS.le
  have hg0 : (0 : Int) ≤ (b.gg.n : Int) := by omega
  have ht0 : (0 : Int) ≤ (b.tw.n : Int) := by omega
  obtain ⟨TA, hTA⟩ : ∃ z, b.tw.a = z := ⟨_, rfl⟩
  obtain ⟨GA, hGA⟩ : ∃ z, b.gg.a = z := ⟨_, rfl⟩
  obtain ⟨A, hA⟩ : ∃ z, s.a = z := ⟨_, rfl⟩
  obtain ⟨n, hn'⟩ : ∃ z, s.n = z := ⟨_, rfl⟩
  have HTA := Lib.hid hTA
  have HGA := Lib.hid hGA
  have HA := Lib.hid hA
  have HN := Lib.hid hn'
  have CRT := Lib.hid (fun W (hW : Below w.heap.size w W) => right_any b W w w.heap.size hM hO hW hW.size)
  have CFW := Lib.hid (fun W => few_any b W hM.2.1.le hM.2.2.1.le)
  have CQ := Lib.hid (fun (τ : Nat) (t : Twn) (ht : b.tw.l[τ]? = some t) (s' : SlR Rdg) (ws : World) (Bs : Nat) W (hW : Below w.heap.size w W) (hS' : SlR.Mem (Rw cRdg MRdg) 4 ws Bs s') (h1 : Below Bs ws W) (h2 : Bs ≤ W.heap.size) (h3 : ∀ r ∈ s'.l, OkRdg r) => quorum_any b τ t s' W w w.heap.size ws Bs hM hW hW.size ht hS' h1 h2 h3)
  have CV := Lib.hid (fun (r : Rdg) (hr : OkRdg r) W (hW : Below w.heap.size w W) => volume28_any b r W w w.heap.size hM hr hW hW.size)
  rw [hTA, hGA] at CRT CFW CQ CV
  rw [hTA, hGA, hA, hn']
  rw [hn'] at hsn
  obtain ⟨W1, hW1⟩ : ∃ z, z = (w.alloc (.cells #[.string b.nm, .slice b.ow.a b.ow.n b.ow.c, .int .i64 b.cells, .slice b.pl.a b.pl.n b.pl.c, .slice b.lk.a b.lk.n b.lk.c, .slice TA b.tw.n b.tw.c, .slice GA b.gg.n b.gg.c, .slice b.rd.a b.rd.n b.rd.c, .slice b.sh.a b.sh.n b.sh.c, .slice b.room.a b.room.n b.room.c, .int .i64 b.err] 31)).alloc (.cells #[.int .i64 m.gauge, .int .i64 m.hour, .int .i64 m.value.lo, .int .i64 m.value.hi] 36) := ⟨_, rfl⟩
  have hz1 : W1.heap.size = w.heap.size + 2 := by rw [hW1]; simp
  have k1 : Bk W1 w.heap.size 31 #[.string b.nm, .slice b.ow.a b.ow.n b.ow.c, .int .i64 b.cells, .slice b.pl.a b.pl.n b.pl.c, .slice b.lk.a b.lk.n b.lk.c, .slice TA b.tw.n b.tw.c, .slice GA b.gg.n b.gg.c, .slice b.rd.a b.rd.n b.rd.c, .slice b.sh.a b.sh.n b.sh.c, .slice b.room.a b.room.n b.room.c, .int .i64 b.err] := by rw [hW1]; exact (Bk.new w _ _).alloc _
  have km : Bk W1 (w.heap.size + 1) 36 #[.int .i64 m.gauge, .int .i64 m.hour, .int .i64 m.value.lo, .int .i64 m.value.hi] := by rw [hW1]; exact Bk.newAt _ (by simp) _ _
  have hb1 : Below w.heap.size w W1 := by rw [hW1]; exact ((Below.refl _ _).alloc (Nat.le_refl _) _).alloc (by simp) _
  have FC := Lib.hid (show ∀ W, Below (w.heap.size + 2) W1 W → (∀ j, W.cell? ⟨w.heap.size, j, none⟩ = (#[.string b.nm, .slice b.ow.a b.ow.n b.ow.c, .int .i64 b.cells, .slice b.pl.a b.pl.n b.pl.c, .slice b.lk.a b.lk.n b.lk.c, .slice TA b.tw.n b.tw.c, .slice GA b.gg.n b.gg.c, .slice b.rd.a b.rd.n b.rd.c, .slice b.sh.a b.sh.n b.sh.c, .slice b.room.a b.room.n b.room.c, .int .i64 b.err] : Array Value)[j]?) ∧ (∀ j, W.cell? ⟨w.heap.size + 1, j, none⟩ = (#[.int .i64 m.gauge, .int .i64 m.hour, .int .i64 m.value.lo, .int .i64 m.value.hi] : Array Value)[j]?) from fun W hW => ⟨(k1.below hW (by omega)).cell, (km.below hW (by omega)).cell⟩)
  have BWW := Lib.hid (show ∀ W, Below (w.heap.size + 2) W1 W → Below w.heap.size w W from fun W hW => hb1.trans (hW.mono (by omega)))
  have BUP := Lib.hid (show ∀ W W', Below (w.heap.size + 2) W1 W → Below W.heap.size W W' → Below (w.heap.size + 2) W1 W' from fun W W' hW hW' => hW.trans (hW'.mono (by have := hW.size; omega)))
  have HB1 := Lib.hid (Below.refl (w.heap.size + 2) W1)
  have HW1 := Lib.hid hW1
  have CSM := Lib.hid (small_any W1)
  clear hM hO hS hSO hmO hTA hGA hA hn' hz1 k1 km hb1 hW1
  go_enter Try.func3, Try.ntmps3
  go_upto_region 1 with fail
  rw [← HW1.out]
  go_wp2_with fail
  refine CSM.out.mono ?_
  rintro e W2 ⟨rfl, hb2⟩
  have HB2 := Lib.hid (BUP.out _ _ HB1.out hb2)
  clear hb2
  obtain ⟨c1, c2⟩ := FC.out W2 HB2.out
  go_wp2_with fail
  refine (CFW.out W2).mono ?_
  rintro e W3 ⟨⟨fv, rfl⟩, hb3⟩
  have HB3 := Lib.hid (BUP.out _ _ HB2.out hb3)
  clear hb3 c1 c2
  obtain ⟨c1, c2⟩ := FC.out W3 HB3.out
  cases fv
  · go_wp2_with fail
    go_ret
    exact ⟨rfl, BWW.out _ HB3.out⟩
  obtain ⟨v12, hv12⟩ : ∃ z, decide (n ≤ 12) = z := ⟨_, rfl⟩
  have g12 : decide ((12 : Int) < (n : Int)) = !v12 := by rw [← hv12]; exact gt_le n 12
  have HV12 := Lib.hid hv12
  clear hv12
  cases v12
  · go_wp2_with fail
    go_ret
    exact ⟨rfl, BWW.out _ HB3.out⟩
  have h12 := Lib.hid (of_decide_eq_true HV12.out)
  by_cases ht1 : town < 0
  · have d1 : decide (town < 0) = true := decide_eq_true ht1
    clear ht1
    go_wp2_with fail
    go_ret
    exact ⟨rfl, BWW.out _ HB3.out⟩
  have d1 : decide (town < 0) = false := decide_eq_false ht1
  by_cases ht2 : (b.tw.n : Int) ≤ town
  · have d2 : decide ((b.tw.n : Int) ≤ town) = true := decide_eq_true ht2
    clear ht1 ht2
    go_wp2_with fail
    go_ret
    exact ⟨rfl, BWW.out _ HB3.out⟩
  have d2 : decide ((b.tw.n : Int) ≤ town) = false := decide_eq_false ht2
  go_wp2_with fail
  refine (CRT.out W3 (BWW.out _ HB3.out)).mono ?_
  rintro e W4 ⟨rfl, hb4⟩
  have HB4 := Lib.hid (BUP.out _ _ HB3.out hb4)
  clear hb4 c1 c2
  obtain ⟨c1, c2⟩ := FC.out W4 HB4.out
  obtain ⟨rv, hrv⟩ : ∃ z, rightB b = z := ⟨_, rfl⟩
  rw [hrv]
  clear hrv
  cases rv
  · clear ht1 ht2
    go_wp2_with fail
    go_ret
    exact ⟨rfl, BWW.out _ HB4.out⟩
  obtain ⟨τ, hτ⟩ : ∃ τ : Nat, town = (τ : Int) := ⟨town.toNat, by omega⟩
  subst hτ
  have hτn : τ < b.tw.n := by omega
  obtain ⟨tb, tof, t, hta, htb, htx, _, htc⟩ := HM.out.2.2.2.1.at_ (k := τ) hτn
  obtain rfl : TA = some ⟨tb, tof, none⟩ := HTA.out.symm.trans hta
  have hw4 := BWW.out _ HB4.out
  have f0 := htc W4 hw4 0 _ rfl
  have f1 := htc W4 hw4 1 _ rfl
  have f2 := htc W4 hw4 2 _ rfl
  have f3 := htc W4 hw4 3 _ rfl
  have f4 := htc W4 hw4 4 _ rfl
  have f5 := htc W4 hw4 5 _ rfl
  have f6 := htc W4 hw4 6 _ rfl
  simp only [Nat.add_zero] at f0
  have hτ0 : (0 : Int) ≤ (τ : Int) := by omega
  have hτi : (τ : Int) < (b.tw.n : Int) := by omega
  have hτw : IntKind.i64.wrap (τ : Int) = (τ : Int) := wrapI_id (by omega) (by omega)
  obtain ⟨W5, hW5⟩ : ∃ z, z = W4.alloc (.cells #[.string t.nm, .int .i64 t.place, .int .i64 t.flood, .int .i64 t.lead, .int .i64 t.people, .int .i64 t.watch, .int .i64 t.quorum] 41) := ⟨_, rfl⟩
  have hb45 : Below W4.heap.size W4 W5 := by rw [hW5]; exact (Below.refl _ _).alloc (Nat.le_refl _) _
  obtain ⟨h, hh⟩ : ∃ z, W4.heap.size = z := ⟨_, rfl⟩
  have kt : Bk W5 h 41 #[.string t.nm, .int .i64 t.place, .int .i64 t.flood, .int .i64 t.lead, .int .i64 t.people, .int .i64 t.watch, .int .i64 t.quorum] := by rw [hW5, ← hh]; exact Bk.new W4 _ _
  have HB5 := Lib.hid (BUP.out _ _ HB4.out hb45)
  have FD := Lib.hid (show ∀ W, Below W5.heap.size W5 W → (∀ j, W.cell? ⟨w.heap.size, j, none⟩ = (#[.string b.nm, .slice b.ow.a b.ow.n b.ow.c, .int .i64 b.cells, .slice b.pl.a b.pl.n b.pl.c, .slice b.lk.a b.lk.n b.lk.c, .slice (some ⟨tb, tof, none⟩) b.tw.n b.tw.c, .slice GA b.gg.n b.gg.c, .slice b.rd.a b.rd.n b.rd.c, .slice b.sh.a b.sh.n b.sh.c, .slice b.room.a b.room.n b.room.c, .int .i64 b.err] : Array Value)[j]?) ∧ (∀ j, W.cell? ⟨w.heap.size + 1, j, none⟩ = (#[.int .i64 m.gauge, .int .i64 m.hour, .int .i64 m.value.lo, .int .i64 m.value.hi] : Array Value)[j]?) ∧ (∀ j, W.cell? ⟨h, j, none⟩ = (#[.string t.nm, .int .i64 t.place, .int .i64 t.flood, .int .i64 t.lead, .int .i64 t.people, .int .i64 t.watch, .int .i64 t.quorum] : Array Value)[j]?) ∧ Below w.heap.size w W from fun W hW => ⟨(FC.out W (BUP.out _ _ HB5.out hW)).1, (FC.out W (BUP.out _ _ HB5.out hW)).2, (kt.below hW kt.lt).cell, BWW.out _ (BUP.out _ _ HB5.out hW)⟩)
  have HB55 := Lib.hid (Below.refl W5.heap.size W5)
  have CQA := Lib.hid (CQ.out τ t htx s w w.heap.size W5 (BWW.out _ HB5.out) HS.out (BWW.out _ HB5.out) (BWW.out _ HB5.out).size HSO.out)
  have HTX := Lib.hid htx
  rw [HA.out, HN.out] at CQA
  obtain ⟨q, hq⟩ : ∃ z, quorumB b t s.l = z := ⟨_, rfl⟩
  rw [hq] at CQA
  have HQ := Lib.hid hq
  have HW5 := Lib.hid hW5
  have hzz := hh
  have hW5w := Lib.hid (BWW.out _ HB5.out).size
  clear hta htc hw4 hτn htx ht1 ht2 hW5 hb45 kt hh hq d1 d2 g12
  go_upto_region 6 with fail
  rw [← HW5.out]
  try rw [hzz]
  clear hzz f0 f1 f2 f3 f4 f5 f6 c1 c2
  obtain ⟨c1, c2, c3, _⟩ := FD.out W5 HB55.out
  go_wp2_with fail
  refine CQA.out.mono ?_
  rintro e W6 ⟨rfl, hb6⟩
  have HB6 := Lib.hid hb6
  clear hb6 c1 c2 c3
  go_wp2_with fail
  go_loopw [13, 14, 15] (fun ab ow i wr => ∃ (k : Nat) (mm : Nat), k ≤ n ∧ ab = .int .i64 (((s.l.take k).filter (hitB b t)).length : Int) ∧ i = .int .i64 (k : Int) ∧ Hid (mm ≤ k ∧ wr.ownsRow W6.heap.size 36 4 ow mm (((s.l.take k).filter (relB b t.place)).flatMap cRdg)) ∧ Below W6.heap.size W6 wr) (fun _ _ i _ => n - (intOf i).toNat)
  case atStart => exact ⟨0, 0, by omega, rfl, rfl, Lib.hid ⟨Nat.le_refl _, World.ownsRow_nil _ _ _ _⟩, Below.refl _ _⟩
  case round =>
    obtain ⟨k, mm, hk, rfl, rfl, HOW, hbr⟩ := hrel
    have HB := Lib.hid hbr
    have HB5r := Lib.hid (HB6.out.trans (hbr.mono HB6.out.size))
    have hsz := hbr.size
    clear hbr
    by_cases hlt : k < n
    · have hk0 : (0 : Int) ≤ (k : Int) := by omega
      have hki : (k : Int) < (n : Int) := by omega
      have hkw : IntKind.i64.wrap (k : Int) = (k : Int) := wrapI_id (by omega) (by omega)
      obtain ⟨rb, ro, r, hra, hrb, hx, _, hc⟩ := HS.out.at_ (k := k) (by rw [HN.out]; exact hlt)
      obtain rfl : A = some ⟨rb, ro, none⟩ := HA.out.symm.trans hra
      obtain ⟨rg, rh, rlo, rhi⟩ := r
      have HX := Lib.hid hx
      have HR := Lib.hid (HSO.out _ (List.mem_iff_getElem?.2 ⟨k, hx⟩))
      have HF1 := Lib.hid (filter_take (relB b t.place) hx)
      have HF2 := Lib.hid (filter_take (hitB b t) hx)
      have HEC := Lib.hid (show ∀ W, Below W5.heap.size W5 W → W.cell? ⟨rb, ro + k * 4, none⟩ = some (.int .i64 rg) ∧ W.cell? ⟨rb, ro + k * 4 + 1, none⟩ = some (.int .i64 rh) ∧ W.cell? ⟨rb, ro + k * 4 + 2, none⟩ = some (.int .i64 rlo) ∧ W.cell? ⟨rb, ro + k * 4 + 3, none⟩ = some (.int .i64 rhi) from fun W hW =>
        ⟨hc W (FD.out W hW).2.2.2 0 _ rfl, hc W (FD.out W hW).2.2.2 1 _ rfl, hc W (FD.out W hW).2.2.2 2 _ rfl, hc W (FD.out W hW).2.2.2 3 _ rfl⟩)
      obtain ⟨c1, c2, c3, _⟩ := FD.out wr HB5r.out
      obtain ⟨e0, e1, e2, e3⟩ := HEC.out wr HB5r.out
      obtain ⟨cn, hcn⟩ : ∃ z, ((s.l.take k).filter (hitB b t)).length = z := ⟨_, rfl⟩
      have hcnk : cn ≤ 12 := by
        rw [← hcn]
        have h1 := List.length_filter_le (hitB b t) (s.l.take k)
        have h2 := List.length_take_le k s.l
        have := h12.out
        omega
      rw [hcn]
      have HCN := Lib.hid hcn
      clear hra hx hc hcn
      go_upto_region 13 with fail
      by_cases hn0 : rg < 0
      · have HREL := Lib.hid (show relB b t.place (⟨rg, rh, ⟨rlo, rhi⟩⟩ : Rdg) = false by unfold relB; rw [decide_eq_false (show ¬ (0 ≤ rg) by omega)]; rfl)
        have a1 : decide (rg < 0) = true := decide_eq_true hn0
        clear hn0
        go_wp2_with fail
        refine wp_region_M [0, 1, 2, 3, 4, 5, 6, 7, 8, 9, 10, 11, 12, 13, 14, 15, 16, 17, 18, 19, 20, 21, 22, 23, 24, 25, 26, 27, 28] [] (fun W => W = wr.drew) (by kernel_rfl) (by kernel_rfl) rfl ?_
        iterate 3 (refine M_pure (by rfl) (by rfl) ?_; apply Exists.intro; apply And.intro; (case left => (intro w hSw; (try dsimp only at hSw); go_simp; try with_reducible rfl)); (try simp only [Act.put, List.setIfInBounds_toArray, List.set_cons_zero, List.set_cons_succ]))
        iterate 5 (refine M_off (by rfl) (by rfl) ?_; (try simp only [Act.put, List.setIfInBounds_toArray, List.set_cons_zero, List.set_cons_succ]))
        iterate 2 (refine M_pure (by rfl) (by rfl) ?_; apply Exists.intro; apply And.intro; (case left => (intro w hSw; (try dsimp only at hSw); go_simp; try with_reducible rfl)); (try simp only [Act.put, List.setIfInBounds_toArray, List.set_cons_zero, List.set_cons_succ]))
        iterate 7 (refine M_off (by rfl) (by rfl) ?_; (try simp only [Act.put, List.setIfInBounds_toArray, List.set_cons_zero, List.set_cons_succ]))
        iterate 2 (refine M_pure (by rfl) (by rfl) ?_; apply Exists.intro; apply And.intro; (case left => (intro w hSw; (try dsimp only at hSw); go_simp; try with_reducible rfl)); (try simp only [Act.put, List.setIfInBounds_toArray, List.set_cons_zero, List.set_cons_succ]))
        iterate 9 (refine M_off (by rfl) (by rfl) ?_; (try simp only [Act.put, List.setIfInBounds_toArray, List.set_cons_zero, List.set_cons_succ]))
        iterate 1 (refine M_pure (by rfl) (by rfl) ?_; apply Exists.intro; apply And.intro; (case left => (intro w hSw; (try dsimp only at hSw); go_simp; try with_reducible rfl)); (try simp only [Act.put, List.setIfInBounds_toArray, List.set_cons_zero, List.set_cons_succ]))
        refine M_nil ?_
        try dsimp only
        go_wp2_with fail
        go_roundw
        case rel => exact ⟨k + 1, mm, by omega, by rw [HF2.out, hit_rel HREL.out, ← HCN.out]; simp, by go_num, Lib.hid ⟨by have := HOW.out.1; omega, by rw [HF1.out, HREL.out]; simpa using HOW.out.2.drew⟩, HB.out.drew⟩
        case measure => simp [intOf]; omega
      have a1 : decide (rg < 0) = false := decide_eq_false hn0
      by_cases hn1 : (b.gg.n : Int) ≤ rg
      · have HREL := Lib.hid (show relB b t.place (⟨rg, rh, ⟨rlo, rhi⟩⟩ : Rdg) = false by
          unfold relB
          rw [List.getElem?_eq_none (by rw [HM.out.2.2.2.2.1.len]; show b.gg.n ≤ rg.toNat; omega)]
          simp)
        have a2 : decide ((b.gg.n : Int) ≤ rg) = true := decide_eq_true hn1
        clear hn0 hn1
        go_wp2_with fail
        refine wp_region_M [0, 1, 2, 3, 4, 5, 6, 7, 8, 9, 10, 11, 12, 13, 14, 15, 16, 17, 18, 19, 20, 21, 22, 23, 24, 25, 26, 27, 28] [] (fun W => W = wr.drew) (by kernel_rfl) (by kernel_rfl) rfl ?_
        iterate 10 (refine M_pure (by rfl) (by rfl) ?_; apply Exists.intro; apply And.intro; (case left => (intro w hSw; (try dsimp only at hSw); go_simp; try with_reducible rfl)); (try simp only [Act.put, List.setIfInBounds_toArray, List.set_cons_zero, List.set_cons_succ]))
        iterate 7 (refine M_off (by rfl) (by rfl) ?_; (try simp only [Act.put, List.setIfInBounds_toArray, List.set_cons_zero, List.set_cons_succ]))
        iterate 2 (refine M_pure (by rfl) (by rfl) ?_; apply Exists.intro; apply And.intro; (case left => (intro w hSw; (try dsimp only at hSw); go_simp; try with_reducible rfl)); (try simp only [Act.put, List.setIfInBounds_toArray, List.set_cons_zero, List.set_cons_succ]))
        iterate 9 (refine M_off (by rfl) (by rfl) ?_; (try simp only [Act.put, List.setIfInBounds_toArray, List.set_cons_zero, List.set_cons_succ]))
        iterate 1 (refine M_pure (by rfl) (by rfl) ?_; apply Exists.intro; apply And.intro; (case left => (intro w hSw; (try dsimp only at hSw); go_simp; try with_reducible rfl)); (try simp only [Act.put, List.setIfInBounds_toArray, List.set_cons_zero, List.set_cons_succ]))
        refine M_nil ?_
        try dsimp only
        go_wp2_with fail
        go_roundw
        case rel => exact ⟨k + 1, mm, by omega, by rw [HF2.out, hit_rel HREL.out, ← HCN.out]; simp, by go_num, Lib.hid ⟨by have := HOW.out.1; omega, by rw [HF1.out, HREL.out]; simpa using HOW.out.2.drew⟩, HB.out.drew⟩
        case measure => simp [intOf]; omega
      clear a1
      obtain ⟨q0, hq0⟩ : ∃ q0 : Nat, rg = (q0 : Int) := ⟨rg.toNat, by omega⟩
      subst hq0
      have hqn : q0 < b.gg.n := by omega
      obtain ⟨pb, po, gg, hpa, hpb, hgx, _, hgc⟩ := HM.out.2.2.2.2.1.at_ (k := q0) hqn
      obtain rfl : GA = some ⟨pb, po, none⟩ := HGA.out.symm.trans hpa
      have hbg := (FD.out wr HB5r.out).2.2.2
      have g1 := hgc _ hbg 1 _ rfl
      have g2 := hgc _ hbg 2 _ rfl
      obtain ⟨u1, hu1⟩ : ∃ z, (gg.kind == 0) = z := ⟨_, rfl⟩
      obtain ⟨u2, hu2⟩ : ∃ z, (gg.target == t.place) = z := ⟨_, rfl⟩
      have n1 : (gg.kind != 0) = !u1 := by simp [bne, hu1]
      have n2 : (gg.target != t.place) = !u2 := by simp [bne, hu2]
      have HRR := Lib.hid (show relB b t.place (⟨(q0 : Int), rh, ⟨rlo, rhi⟩⟩ : Rdg) = (u1 && u2) by
        unfold relB
        simp only []
        rw [decide_eq_true (show 0 ≤ (q0 : Int) by omega), Int.toNat_natCast, hgx]
        simp only [Bool.true_and]
        rw [hu1, hu2])
      have hqq : (0 : Int) ≤ (q0 : Int) := by omega
      have hqi : (q0 : Int) < (b.gg.n : Int) := by omega
      have hqw : IntKind.i64.wrap (q0 : Int) = (q0 : Int) := wrapI_id (by omega) (by omega)
      have b1 : decide ((q0 : Int) < 0) = false := decide_eq_false (by omega)
      have b2 : decide ((b.gg.n : Int) ≤ (q0 : Int)) = false := decide_eq_false (by omega)
      have b3 : decide (b.gg.n ≤ q0) = false := decide_eq_false (by omega)
      clear hpa hgx hgc hbg hu1 hu2 hn0 hn1 hqn
      cases u1
      · have HREL := Lib.hid (show relB b t.place (⟨(q0 : Int), rh, ⟨rlo, rhi⟩⟩ : Rdg) = false by rw [HRR.out]; rfl)
        go_wp2_with fail
        refine wp_region_M [0, 1, 2, 3, 4, 5, 6, 7, 8, 9, 10, 11, 12, 13, 14, 15, 16, 17, 18, 19, 20, 21, 22, 23, 24, 25, 26, 27, 28] [] (fun W => W = wr.drew) (by kernel_rfl) (by kernel_rfl) rfl ?_
        iterate 19 (refine M_pure (by rfl) (by rfl) ?_; apply Exists.intro; apply And.intro; (case left => (intro w hSw; (try dsimp only at hSw); go_simp; try with_reducible rfl)); (try simp only [Act.put, List.setIfInBounds_toArray, List.set_cons_zero, List.set_cons_succ]))
        iterate 9 (refine M_off (by rfl) (by rfl) ?_; (try simp only [Act.put, List.setIfInBounds_toArray, List.set_cons_zero, List.set_cons_succ]))
        iterate 1 (refine M_pure (by rfl) (by rfl) ?_; apply Exists.intro; apply And.intro; (case left => (intro w hSw; (try dsimp only at hSw); go_simp; try with_reducible rfl)); (try simp only [Act.put, List.setIfInBounds_toArray, List.set_cons_zero, List.set_cons_succ]))
        refine M_nil ?_
        try dsimp only
        go_wp2_with fail
        go_roundw
        case rel => exact ⟨k + 1, mm, by omega, by rw [HF2.out, hit_rel HREL.out, ← HCN.out]; simp, by go_num, Lib.hid ⟨by have := HOW.out.1; omega, by rw [HF1.out, HREL.out]; simpa using HOW.out.2.drew⟩, HB.out.drew⟩
        case measure => simp [intOf]; omega
      cases u2
      · have HREL := Lib.hid (show relB b t.place (⟨(q0 : Int), rh, ⟨rlo, rhi⟩⟩ : Rdg) = false by rw [HRR.out]; rfl)
        go_wp2_with fail
        refine wp_region_M [0, 1, 2, 3, 4, 5, 6, 7, 8, 9, 10, 11, 12, 13, 14, 15, 16, 17, 18, 19, 20, 21, 22, 23, 24, 25, 26, 27, 28] [] (fun W => W = wr.drew) (by kernel_rfl) (by kernel_rfl) rfl ?_
        iterate 29 (refine M_pure (by rfl) (by rfl) ?_; apply Exists.intro; apply And.intro; (case left => (intro w hSw; (try dsimp only at hSw); go_simp; try with_reducible rfl)); (try simp only [Act.put, List.setIfInBounds_toArray, List.set_cons_zero, List.set_cons_succ]))
        refine M_nil ?_
        try dsimp only
        go_wp2_with fail
        go_roundw
        case rel => exact ⟨k + 1, mm, by omega, by rw [HF2.out, hit_rel HREL.out, ← HCN.out]; simp, by go_num, Lib.hid ⟨by have := HOW.out.1; omega, by rw [HF1.out, HREL.out]; simpa using HOW.out.2.drew⟩, HB.out.drew⟩
        case measure => simp [intOf]; omega
      have HREL := Lib.hid (show relB b t.place (⟨(q0 : Int), rh, ⟨rlo, rhi⟩⟩ : Rdg) = true by rw [HRR.out]; rfl)
      go_wp2_with fail
      refine wp_region_M [0, 1, 2, 3, 4, 5, 6, 7, 8, 9, 10, 11, 12, 13, 14, 15, 16, 17, 18, 19, 20, 21, 22, 23, 24, 25, 26, 27, 28] [] (fun W => W = wr.drew) (by kernel_rfl) (by kernel_rfl) rfl ?_
      iterate 29 (refine M_pure (by rfl) (by rfl) ?_; apply Exists.intro; apply And.intro; (case left => (intro w hSw; (try dsimp only at hSw); go_simp; try with_reducible rfl)); (try simp only [Act.put, List.setIfInBounds_toArray, List.set_cons_zero, List.set_cons_succ]))
      refine M_nil ?_
      try dsimp only
      go_upto_region 14 with fail
      go_wp2_with (at_builtin; go_must (refine wpList_append_own _ rfl (.tmp 95) (.tmp 100) 32 rfl W6.heap.size 36 i0 (.agg #[.int .i64 0, .int .i64 0, .int .i64 0, .int .i64 0]) 4 32 Try.underlying32 ti0 ti1 ti2 ti3 rfl (by decide) u14 mm (((s.l.take k).filter (relB b t.place)).flatMap cRdg) rfl (HOW.out.2.drew.alloc _) ⟨wr.heap.size, 0, none⟩ 1 1 (cRdg (⟨(q0 : Int), rh, ⟨rlo, rhi⟩⟩ : Rdg)) rfl rfl (new_cells _ rfl _ _) (by intro u hu; simp [cRdg] at hu; rcases hu with rfl | rfl | rfl | rfl <;> rfl) (by unfold maxLen; have := HOW.out.1; have := h12.out; omega) (by have := HOW.out.1; have := h12.out; omega) (by simp; omega) ?_))
      intro v2 w2 hown2 hg2 _
      have HO2 := Lib.hid (show w2.ownsRow W6.heap.size 36 4 v2 (mm + 1) (((s.l.take (k + 1)).filter (relB b t.place)).flatMap cRdg) by rw [HF1.out, HREL.out, List.flatMap_append]; simpa using hown2)
      have HB2w := Lib.hid (show Below W6.heap.size W6 w2 from (HB.out.drew.alloc hsz _).grown hg2 (by simp; omega) (fun j hj => (HOW.out.2.lt j hj).1))
      have HBX := Lib.hid (show Below W5.heap.size W5 w2 from HB6.out.trans (HB2w.out.mono HB6.out.size))
      clear hown2 hg2 c1 c2 c3 e0 e1 e2 e3 g1 g2
      have HL := Lib.hid (show ∀ W, Below w2.heap.size w2 W → (fun W => Below w2.heap.size w2 W ∧ (∀ j, W.cell? ⟨w.heap.size, j, none⟩ = (#[.string b.nm, .slice b.ow.a b.ow.n b.ow.c, .int .i64 b.cells, .slice b.pl.a b.pl.n b.pl.c, .slice b.lk.a b.lk.n b.lk.c, .slice (some ⟨tb, tof, none⟩) b.tw.n b.tw.c, .slice (some ⟨pb, po, none⟩) b.gg.n b.gg.c, .slice b.rd.a b.rd.n b.rd.c, .slice b.sh.a b.sh.n b.sh.c, .slice b.room.a b.room.n b.room.c, .int .i64 b.err] : Array Value)[j]?) ∧ W.cell? ⟨rb, ro + k * 4, none⟩ = some (.int .i64 (q0 : Int)) ∧ W.cell? ⟨rb, ro + k * 4 + 1, none⟩ = some (.int .i64 rh) ∧ W.cell? ⟨rb, ro + k * 4 + 2, none⟩ = some (.int .i64 rlo) ∧ W.cell? ⟨rb, ro + k * 4 + 3, none⟩ = some (.int .i64 rhi)) W from fun W hW => ⟨hW, (FD.out W (HBX.out.trans (hW.mono HBX.out.size))).1, HEC.out W (HBX.out.trans (hW.mono HBX.out.size))⟩)
      have HBD := Lib.hid (show Below w2.heap.size w2 w2.drew from (Below.refl _ _).drew)
      obtain ⟨⟨slo, shi⟩, hsp⟩ : ∃ z, (volF b (⟨(q0 : Int), rh, ⟨rlo, rhi⟩⟩ : Rdg)).1 = z := ⟨_, rfl⟩
      obtain ⟨vb, hvb⟩ : ∃ z, (volF b (⟨(q0 : Int), rh, ⟨rlo, rhi⟩⟩ : Rdg)).2 = z := ⟨_, rfl⟩
      have HSP := Lib.hid hsp
      have HVB := Lib.hid hvb
      go_upto_region 15 with fail
      go_cut [17, 18] from 55 to 124 (fun s17 s18 wx => ∃ a7, s17 = .pointer (some ⟨a7, 0, none⟩) ∧ s18 = .bool vb ∧ Bk wx a7 34 #[.int .i64 slo, .int .i64 shi] ∧ Below w2.heap.size w2 wx)
      case first =>
        go_wp2_with fail
        refine GoodN.region (by kernel_rfl) ?_
        refine GoodN.split 5 9 (by decide) ?_ ?_
        · skip
          refine GoodN.chain [0, 1, 2, 3, 4, 5, 6, 7, 8, 9, 10, 11] [5, 9, 10] (fun W => Below w2.heap.size w2 W ∧ (∀ j, W.cell? ⟨w.heap.size, j, none⟩ = (#[.string b.nm, .slice b.ow.a b.ow.n b.ow.c, .int .i64 b.cells, .slice b.pl.a b.pl.n b.pl.c, .slice b.lk.a b.lk.n b.lk.c, .slice (some ⟨tb, tof, none⟩) b.tw.n b.tw.c, .slice (some ⟨pb, po, none⟩) b.gg.n b.gg.c, .slice b.rd.a b.rd.n b.rd.c, .slice b.sh.a b.sh.n b.sh.c, .slice b.room.a b.room.n b.room.c, .int .i64 b.err] : Array Value)[j]?) ∧ W.cell? ⟨rb, ro + k * 4, none⟩ = some (.int .i64 (q0 : Int)) ∧ W.cell? ⟨rb, ro + k * 4 + 1, none⟩ = some (.int .i64 rh) ∧ W.cell? ⟨rb, ro + k * 4 + 2, none⟩ = some (.int .i64 rlo) ∧ W.cell? ⟨rb, ro + k * 4 + 3, none⟩ = some (.int .i64 rhi)) (by kernel_rfl) (HL.out _ HBD.out) ?_
          iterate 5 (refine M_pure (by rfl) (by rfl) ?_; apply Exists.intro; apply And.intro; (case left => (intro w hSw; (try dsimp only at hSw); go_simp; try with_reducible rfl)); (try simp only [Act.put, List.setIfInBounds_toArray, List.set_cons_zero, List.set_cons_succ]))
          (refine M_call (by rfl) (by rfl) ?_; apply Exists.intro; apply Exists.intro; apply And.intro; (case left => (go_simp; first | (refine ⟨?_, ?_⟩ <;> with_reducible rfl) | rfl)))
          refine (CV.out (⟨(q0 : Int), rh, ⟨rlo, rhi⟩⟩ : Rdg) HR.out w2.drew (FD.out _ (HBX.out.trans (HBD.out.mono HBX.out.size))).2.2.2).mono ?_
          rintro e W7 ⟨rfl, hb7⟩
          have HB7 := Lib.hid (show Below w2.heap.size w2 W7 from HBD.out.trans hb7)
          clear hb7
          rw [hsp, hvb]
          refine ⟨_, rfl, HL.out _ HB7.out, ?_⟩
          (try simp only [Act.put, List.setIfInBounds_toArray, List.set_cons_zero, List.set_cons_succ])
          iterate 3 (refine M_pure (by rfl) (by rfl) ?_; apply Exists.intro; apply And.intro; (case left => (intro w hSw; (try dsimp only at hSw); go_simp; try with_reducible rfl)); (try simp only [Act.put, List.setIfInBounds_toArray, List.set_cons_zero, List.set_cons_succ]))
          refine M_do (by rfl) (by rfl) ⟨.pointer (some ⟨W7.heap.size, 0, none⟩), W7.alloc (.cells #[.int .i64 0, .int .i64 0] 34), (by go_simp), HL.out _ (HB7.out.alloc HB7.out.size _), ?_⟩
          (try simp only [Act.put, List.setIfInBounds_toArray, List.set_cons_zero, List.set_cons_succ])
          have kz := Bk.new W7 34 #[.int .i64 0, .int .i64 0]
          have hbz : Below w2.heap.size w2 (W7.alloc (.cells #[.int .i64 0, .int .i64 0] 34)) := HB7.out.alloc HB7.out.size _
          obtain ⟨a7, ha7⟩ : ∃ z, W7.heap.size = z := ⟨_, rfl⟩
          have ha2 : w2.heap.size ≤ a7 := by rw [← ha7]; exact HB7.out.size
          obtain ⟨Wz, hWz⟩ : ∃ z, W7.alloc (.cells #[.int .i64 0, .int .i64 0] 34) = z := ⟨_, rfl⟩
          rw [hWz] at kz hbz ⊢
          rw [ha7] at kz ⊢
          clear ha7 hWz
          have cz := kz.cell
          have fz := kz.frozen
          have hb3 : Below w2.heap.size w2 ((Wz.setCell ⟨a7, 0, none⟩ (.int .i64 slo)).setCell ⟨a7, 1, none⟩ (.int .i64 shi)) := (hbz.setCell (p := ⟨a7, 0, none⟩) ha2 _).setCell (p := ⟨a7, 1, none⟩) ha2 _
          have ka3 : Bk ((Wz.setCell ⟨a7, 0, none⟩ (.int .i64 slo)).setCell ⟨a7, 1, none⟩ (.int .i64 shi)) a7 34 #[.int .i64 slo, .int .i64 shi] := (kz.set_ 0 _).set_ 1 _
          refine M_store (by rfl) (by rfl) ?_
          refine ⟨_, (by go_simp; try with_reducible rfl), HL.out _ hb3, ?_⟩
          (try simp only [Act.put, List.setIfInBounds_toArray, List.set_cons_zero, List.set_cons_succ])
          clear cz fz kz hbz
          iterate 1 (refine M_pure (by rfl) (by rfl) ?_; apply Exists.intro; apply And.intro; (case left => (intro w hSw; (try dsimp only at hSw); go_simp; try with_reducible rfl)); (try simp only [Act.put, List.setIfInBounds_toArray, List.set_cons_zero, List.set_cons_succ]))
          refine M_nil ?_
          try dsimp only
          have HK := Lib.hid (show _ ∧ _ from ⟨ka3, hb3⟩)
          clear ka3 hb3
          go_wp2_with fail
          go_meet
          exact ⟨a7, rfl, rfl, HK.out.1, HK.out.2⟩
        · skip
          refine GoodN.chain [0, 1, 2, 3, 4, 9, 5, 6, 7, 8, 10, 11] [9, 5, 10] (fun W => Below w2.heap.size w2 W ∧ (∀ j, W.cell? ⟨w.heap.size, j, none⟩ = (#[.string b.nm, .slice b.ow.a b.ow.n b.ow.c, .int .i64 b.cells, .slice b.pl.a b.pl.n b.pl.c, .slice b.lk.a b.lk.n b.lk.c, .slice (some ⟨tb, tof, none⟩) b.tw.n b.tw.c, .slice (some ⟨pb, po, none⟩) b.gg.n b.gg.c, .slice b.rd.a b.rd.n b.rd.c, .slice b.sh.a b.sh.n b.sh.c, .slice b.room.a b.room.n b.room.c, .int .i64 b.err] : Array Value)[j]?) ∧ W.cell? ⟨rb, ro + k * 4, none⟩ = some (.int .i64 (q0 : Int)) ∧ W.cell? ⟨rb, ro + k * 4 + 1, none⟩ = some (.int .i64 rh) ∧ W.cell? ⟨rb, ro + k * 4 + 2, none⟩ = some (.int .i64 rlo) ∧ W.cell? ⟨rb, ro + k * 4 + 3, none⟩ = some (.int .i64 rhi)) (by kernel_rfl) (HL.out _ HBD.out) ?_
          iterate 5 (refine M_pure (by rfl) (by rfl) ?_; apply Exists.intro; apply And.intro; (case left => (intro w hSw; (try dsimp only at hSw); go_simp; try with_reducible rfl)); (try simp only [Act.put, List.setIfInBounds_toArray, List.set_cons_zero, List.set_cons_succ]))
          have hb1 : Below w2.heap.size w2 (w2.drew.alloc (.cells #[.int .i64 0, .int .i64 0] 34)) := HBD.out.alloc (Nat.le_refl _) _
          refine M_do (by rfl) (by rfl) ⟨.pointer (some ⟨w2.heap.size, 0, none⟩), w2.drew.alloc (.cells #[.int .i64 0, .int .i64 0] 34), (by go_simp), HL.out _ hb1, ?_⟩
          (try simp only [Act.put, List.setIfInBounds_toArray, List.set_cons_zero, List.set_cons_succ])
          have kz0 : Bk (w2.drew.alloc (.cells #[.int .i64 0, .int .i64 0] 34)) w2.heap.size 34 #[.int .i64 0, .int .i64 0] := Bk.new w2.drew _ _
          obtain ⟨Wy, hWy⟩ : ∃ z, w2.drew.alloc (.cells #[.int .i64 0, .int .i64 0] 34) = z := ⟨_, rfl⟩
          rw [hWy] at kz0 hb1 ⊢
          clear hWy
          have HB1y := Lib.hid hb1
          have HKZ0 := Lib.hid kz0
          clear hb1 kz0
          (refine M_call (by rfl) (by rfl) ?_; apply Exists.intro; apply Exists.intro; apply And.intro; (case left => (go_simp; first | (refine ⟨?_, ?_⟩ <;> with_reducible rfl) | rfl)))
          refine (CV.out (⟨(q0 : Int), rh, ⟨rlo, rhi⟩⟩ : Rdg) HR.out Wy (FD.out _ (HBX.out.trans (HB1y.out.mono HBX.out.size))).2.2.2).mono ?_
          rintro e Wz ⟨rfl, hb7⟩
          have hbz : Below w2.heap.size w2 Wz := HB1y.out.trans (hb7.mono HB1y.out.size)
          have HBZ := Lib.hid hbz
          have kz := HKZ0.out.below hb7 HKZ0.out.lt
          clear hb7
          rw [hsp, hvb]
          have HKZ := Lib.hid kz
          clear kz hbz
          refine ⟨_, rfl, HL.out _ HBZ.out, ?_⟩
          (try simp only [Act.put, List.setIfInBounds_toArray, List.set_cons_zero, List.set_cons_succ])
          iterate 3 (refine M_pure (by rfl) (by rfl) ?_; apply Exists.intro; apply And.intro; (case left => (intro w hSw; (try dsimp only at hSw); go_simp; try with_reducible rfl)); (try simp only [Act.put, List.setIfInBounds_toArray, List.set_cons_zero, List.set_cons_succ]))
          have ha2 : w2.heap.size ≤ w2.heap.size := Nat.le_refl _
          have kz := HKZ.out
          have hbz := HBZ.out
          have cz := kz.cell
          have fz := kz.frozen
          have hb3 : Below w2.heap.size w2 ((Wz.setCell ⟨w2.heap.size, 0, none⟩ (.int .i64 slo)).setCell ⟨w2.heap.size, 1, none⟩ (.int .i64 shi)) := (hbz.setCell (p := ⟨w2.heap.size, 0, none⟩) ha2 _).setCell (p := ⟨w2.heap.size, 1, none⟩) ha2 _
          have ka3 : Bk ((Wz.setCell ⟨w2.heap.size, 0, none⟩ (.int .i64 slo)).setCell ⟨w2.heap.size, 1, none⟩ (.int .i64 shi)) w2.heap.size 34 #[.int .i64 slo, .int .i64 shi] := (kz.set_ 0 _).set_ 1 _
          refine M_store (by rfl) (by rfl) ?_
          refine ⟨_, (by go_simp; try with_reducible rfl), HL.out _ hb3, ?_⟩
          (try simp only [Act.put, List.setIfInBounds_toArray, List.set_cons_zero, List.set_cons_succ])
          clear cz fz kz hbz
          iterate 1 (refine M_pure (by rfl) (by rfl) ?_; apply Exists.intro; apply And.intro; (case left => (intro w hSw; (try dsimp only at hSw); go_simp; try with_reducible rfl)); (try simp only [Act.put, List.setIfInBounds_toArray, List.set_cons_zero, List.set_cons_succ]))
          refine M_nil ?_
          try dsimp only
          have HK := Lib.hid (show _ ∧ _ from ⟨ka3, hb3⟩)
          clear ka3 hb3
          go_wp2_with fail
          go_meet
          exact ⟨w2.heap.size, rfl, rfl, HK.out.1, HK.out.2⟩
      case rest =>
        obtain ⟨a7, rfl, rfl, kS, hbc⟩ := hcut
        have HB7 := Lib.hid (show Below W5.heap.size W5 wc from HBX.out.trans (hbc.mono HBX.out.size))
        have HB6c := Lib.hid (show Below W6.heap.size W6 wc from HB2w.out.trans (hbc.mono HB2w.out.size))
        have HO3 := Lib.hid (own_below HO2.out hbc)
        have HKS := Lib.hid kS
        obtain ⟨c1, c2, c3, _⟩ := FD.out wc HB7.out
        have cs := kS.cell
        clear kS hbc hsp hvb
        cases vb
        · have HHIT := Lib.hid (show hitB b t (⟨(q0 : Int), rh, ⟨rlo, rhi⟩⟩ : Rdg) = false by unfold hitB; rw [HREL.out, HVB.out]; rfl)
          go_wp2_with fail
          go_roundw
          case rel => exact ⟨k + 1, mm + 1, by omega, by rw [HF2.out, HHIT.out, ← HCN.out]; simp, by go_num, Lib.hid ⟨by have := HOW.out.1; omega, HO3.out⟩, HB6c.out⟩
          case measure => simp [intOf]; omega
        have hlo := volF_lo HVB.out
        rw [HSP.out] at hlo
        have hle : decide ((⟨slo, shi⟩ : Spn).lo ≤ (⟨slo, shi⟩ : Spn).hi) = true := decide_eq_true hlo
        have HLE := Lib.hid hle
        clear hlo hle
        go_wp2_with fail
        refine (spanRight_any ⟨slo, shi⟩ wc).mono ?_
        rintro e W9 ⟨rfl, hb9⟩
        rw [HLE.out]
        have HB9 := Lib.hid (show Below W5.heap.size W5 W9 from HB7.out.trans (hb9.mono HB7.out.size))
        have HB69 := Lib.hid (show Below W6.heap.size W6 W9 from HB6c.out.trans (hb9.mono HB6c.out.size))
        have HO9 := Lib.hid (own_below HO3.out hb9)
        have cs9 := (HKS.out.below hb9 HKS.out.lt).cell
        clear hb9 c1 c2 c3 cs
        obtain ⟨c1, c2, c3, _⟩ := FD.out W9 HB9.out
        obtain ⟨z, hz⟩ : ∃ z, decide (t.watch < slo) = z := ⟨_, rfl⟩
        have HHZ := Lib.hid (show hitB b t (⟨(q0 : Int), rh, ⟨rlo, rhi⟩⟩ : Rdg) = z by unfold hitB; rw [HREL.out, HVB.out, HSP.out]; simp only [Bool.true_and]; exact hz)
        cases z
        · have HHIT := HHZ
          go_wp2_with fail
          go_roundw
          case rel => exact ⟨k + 1, mm + 1, by omega, by rw [HF2.out, HHIT.out, ← HCN.out]; simp, by go_num, Lib.hid ⟨by have := HOW.out.1; omega, HO9.out⟩, HB69.out⟩
          case measure => simp [intOf]; omega
        have HHIT := HHZ
        have w1 := (cn_wrap hcnk).1
        have w2' := (cn_wrap hcnk).2
        go_wp2_with fail
        go_roundw
        case rel => exact ⟨k + 1, mm + 1, by omega, by rw [HF2.out, HHIT.out, ← HCN.out]; simp, by go_num, Lib.hid ⟨by have := HOW.out.1; omega, HO9.out⟩, HB69.out⟩
        case measure => simp [intOf]; omega
    · obtain rfl : k = n := by omega
      have HTK := Lib.hid (show s.l.take k = s.l from List.take_of_length_le (by rw [HS.out.len, HN.out]; exact Nat.le_refl _))
      obtain ⟨cn, hcn⟩ : ∃ z, ((s.l.take k).filter (hitB b t)).length = z := ⟨_, rfl⟩
      rw [hcn]
      have HCN := Lib.hid (show cn = (s.l.filter (hitB b t)).length by rw [← hcn, HTK.out])
      have how := HOW.out.2
      rw [HTK.out] at how
      obtain ⟨so, hso, hsol, hsm⟩ := own_rdgs how (by have := HOW.out.1; have := h12.out; unfold maxLen; omega)
      subst hso
      have CQ2 := Lib.hid (CQ.out τ t HTX.out so wr wr.heap.size wr (FD.out wr HB5r.out).2.2.2 hsm (Below.refl _ _) (Nat.le_refl _) (by rw [hsol]; intro r hr; exact HSO.out r (List.mem_filter.1 hr).1))
      rw [hsol, quorum_own, HQ.out] at CQ2
      clear hcn how hsol hsm HOW hlt hk
      obtain ⟨c1, c2, c3, _⟩ := FD.out wr HB5r.out
      cases q
      · skip
        go_wp2_with fail
        refine CQ2.out.mono ?_
        rintro e W9 ⟨rfl, hb9⟩
        have HB9 := Lib.hid (show Below W5.heap.size W5 W9 from HB5r.out.trans (hb9.mono HB5r.out.size))
        have HB9w := Lib.hid (show Below w.heap.size w W9 from (FD.out W9 HB9.out).2.2.2)
        clear hb9 c1 c2 c3
        obtain ⟨c1, c2, c3, _⟩ := FD.out W9 HB9.out
        go_wp2_with fail
        refine wp_region_M [0, 1, 2, 3, 4, 5, 6, 7, 8, 9, 10, 11, 12, 13, 14] [] (fun W => W = W9.drew) (by kernel_rfl) (by kernel_rfl) rfl ?_
        iterate 5 (refine M_pure (by rfl) (by rfl) ?_; apply Exists.intro; apply And.intro; (case left => (intro w hSw; (try dsimp only at hSw); go_simp; try with_reducible rfl)); (try simp only [Act.put, List.setIfInBounds_toArray, List.set_cons_zero, List.set_cons_succ]))
        iterate 7 (refine M_off (by rfl) (by rfl) ?_; (try simp only [Act.put, List.setIfInBounds_toArray, List.set_cons_zero, List.set_cons_succ]))
        iterate 3 (refine M_pure (by rfl) (by rfl) ?_; apply Exists.intro; apply And.intro; (case left => (intro w hSw; (try dsimp only at hSw); go_simp; try with_reducible rfl)); (try simp only [Act.put, List.setIfInBounds_toArray, List.set_cons_zero, List.set_cons_succ]))
        refine M_nil ?_
        try dsimp only
        go_wp2_with fail
        go_ret
        exact ⟨rfl, HB9w.out.drew⟩
      · have dlt : decide ((cn : Int) < t.quorum) = false := decide_eq_false (by
          have := quorum_count HQ.out
          rw [← HCN.out] at this
          omega)
        go_wp2_with fail
        refine CQ2.out.mono ?_
        rintro e W9 ⟨rfl, hb9⟩
        have HB9 := Lib.hid (show Below W5.heap.size W5 W9 from HB5r.out.trans (hb9.mono HB5r.out.size))
        have HB9w := Lib.hid (show Below w.heap.size w W9 from (FD.out W9 HB9.out).2.2.2)
        clear hb9 c1 c2 c3
        obtain ⟨c1, c2, c3, _⟩ := FD.out W9 HB9.out
        go_wp2_with fail
        have HG9 := Lib.hid (show ∀ W, Below W9.heap.size W9 W → (fun W => Below W9.heap.size W9 W ∧ (∀ j, W.cell? ⟨w.heap.size, j, none⟩ = (#[.string b.nm, .slice b.ow.a b.ow.n b.ow.c, .int .i64 b.cells, .slice b.pl.a b.pl.n b.pl.c, .slice b.lk.a b.lk.n b.lk.c, .slice (some ⟨tb, tof, none⟩) b.tw.n b.tw.c, .slice GA b.gg.n b.gg.c, .slice b.rd.a b.rd.n b.rd.c, .slice b.sh.a b.sh.n b.sh.c, .slice b.room.a b.room.n b.room.c, .int .i64 b.err] : Array Value)[j]?) ∧ (∀ j, W.cell? ⟨w.heap.size + 1, j, none⟩ = (#[.int .i64 m.gauge, .int .i64 m.hour, .int .i64 m.value.lo, .int .i64 m.value.hi] : Array Value)[j]?)) W from fun W hW => ⟨hW, (FD.out W (HB9.out.trans (hW.mono HB9.out.size))).1, (FD.out W (HB9.out.trans (hW.mono HB9.out.size))).2.1⟩)
        clear c1 c2 c3
        refine wp_region_M [0, 1, 2, 3, 4, 5, 6, 7, 9, 8, 10, 11, 12, 13, 14] [8, 10, 11] (fun W => Below W9.heap.size W9 W ∧ (∀ j, W.cell? ⟨w.heap.size, j, none⟩ = (#[.string b.nm, .slice b.ow.a b.ow.n b.ow.c, .int .i64 b.cells, .slice b.pl.a b.pl.n b.pl.c, .slice b.lk.a b.lk.n b.lk.c, .slice (some ⟨tb, tof, none⟩) b.tw.n b.tw.c, .slice GA b.gg.n b.gg.c, .slice b.rd.a b.rd.n b.rd.c, .slice b.sh.a b.sh.n b.sh.c, .slice b.room.a b.room.n b.room.c, .int .i64 b.err] : Array Value)[j]?) ∧ (∀ j, W.cell? ⟨w.heap.size + 1, j, none⟩ = (#[.int .i64 m.gauge, .int .i64 m.hour, .int .i64 m.value.lo, .int .i64 m.value.hi] : Array Value)[j]?)) (by kernel_rfl) (by kernel_rfl) (HG9.out _ (Below.refl _ _).drew) ?_
        iterate 9 (refine M_pure (by rfl) (by rfl) ?_; apply Exists.intro; apply And.intro; (case left => (intro w hSw; (try dsimp only at hSw); go_simp; try with_reducible rfl)); (try simp only [Act.put, List.setIfInBounds_toArray, List.set_cons_zero, List.set_cons_succ]))
        have hb8 : Below W9.heap.size W9 (W9.drew.alloc (.cells #[.int .i64 m.gauge, .int .i64 m.hour, .int .i64 m.value.lo, .int .i64 m.value.hi] 36)) := (Below.refl W9.heap.size W9).drew.alloc (Nat.le_refl _) _
        refine M_do (by rfl) (by rfl) ⟨.slice (some ⟨W9.heap.size, 0, none⟩) 1 1, W9.drew.alloc (.cells #[.int .i64 m.gauge, .int .i64 m.hour, .int .i64 m.value.lo, .int .i64 m.value.hi] 36), (by go_simp), HG9.out _ hb8, ?_⟩
        have hol : (W9.drew.alloc (.cells #[.int .i64 m.gauge, .int .i64 m.hour, .int .i64 m.value.lo, .int .i64 m.value.hi] 36)).ownsRow W9.heap.size 36 4 (.slice (some ⟨W9.heap.size, 0, none⟩) 1 1) 1 ([m].flatMap cRdg) := by simpa [cRdg] using World.ownsRow_lit (base := W9.heap.size) (e := 36) (size := 4) W9.drew #[.int .i64 m.gauge, .int .i64 m.hour, .int .i64 m.value.lo, .int .i64 m.value.hi] 1 (Nat.le_refl _) (by unfold maxLen; omega) rfl
        obtain ⟨Wl, hWl⟩ : ∃ z, W9.drew.alloc (.cells #[.int .i64 m.gauge, .int .i64 m.hour, .int .i64 m.value.lo, .int .i64 m.value.hi] 36) = z := ⟨_, rfl⟩
        rw [hWl] at hb8 hol ⊢
        clear hWl
        have HB8 := Lib.hid hb8
        have hbl : Below w.heap.size w Wl := HB9w.out.trans (hb8.mono HB9w.out.size)
        obtain ⟨vx, Wx, hrx, hox, hgx⟩ := run_append_rdgs hol HS.out hbl (by omega) (by rw [HN.out]; have := h12.out; omega) hb8.size
        have HBx := Lib.hid (show Below W9.heap.size W9 Wx from hb8.grown hgx (Nat.le_trans (Nat.le_refl _) hb8.size) (fun j hj => by have hj2 : some W9.heap.size = some j := hj; injection hj2 with hj2; omega))
        rw [HA.out, HN.out] at hrx
        have HRX := Lib.hid hrx
        have HOX := Lib.hid hox
        clear hb8 hol hbl hrx hox hgx
        (try simp only [Act.put, List.setIfInBounds_toArray, List.set_cons_zero, List.set_cons_succ])
        refine M_append2 (by rfl) (by rfl) _ _ 32 rfl _ _ vx Wx rfl rfl HRX.out (HG9.out _ HBx.out) ?_
        obtain ⟨sx, hvx, hsxl, hsxm⟩ := own_rdgs HOX.out (by rw [HN.out]; have := h12.out; unfold maxLen; omega)
        subst hvx
        have CX := Lib.hid (CQ.out τ t HTX.out sx Wx Wx.heap.size Wx (HB9w.out.trans (HBx.out.mono HB9w.out.size)) hsxm (Below.refl _ _) (Nat.le_refl _) (by rw [hsxl]; intro r hr; rcases List.mem_cons.1 hr with e | hr; (rw [e]; exact HMO.out); exact HSO.out r hr))
        rw [hsxl, show [m] ++ s.l = m :: s.l from rfl, quorum_more m HQ.out] at CX
        clear hsxl hsxm
        (try simp only [Act.put, List.setIfInBounds_toArray, List.set_cons_zero, List.set_cons_succ])
        (refine M_call (by rfl) (by rfl) ?_; apply Exists.intro; apply Exists.intro; apply And.intro; (case left => (go_simp; first | (refine ⟨?_, ?_⟩ <;> with_reducible rfl) | rfl)))
        refine CX.out.mono ?_
        rintro e Wf ⟨rfl, hbf⟩
        have HBf := Lib.hid (show Below W9.heap.size W9 Wf from HBx.out.trans (hbf.mono HBx.out.size))
        clear hbf
        refine ⟨_, rfl, HG9.out _ HBf.out, ?_⟩
        (try simp only [Act.put, List.setIfInBounds_toArray, List.set_cons_zero, List.set_cons_succ])
        iterate 3 (refine M_pure (by rfl) (by rfl) ?_; apply Exists.intro; apply And.intro; (case left => (intro w hSw; (try dsimp only at hSw); go_simp; try with_reducible rfl)); (try simp only [Act.put, List.setIfInBounds_toArray, List.set_cons_zero, List.set_cons_succ]))
        refine M_nil ?_
        try dsimp only
        go_wp2_with fail
        go_ret
        exact ⟨rfl, HB9w.out.trans (HBf.out.mono HB9w.out.size)⟩

end Go.Proofs.Ytmkbojhnbkdalaa
