/- The walk of harm.Hour where no links are known. -/
import Derived.Test.YtlhaoiplbebgnaaHarmE
import Derived.Test.YtlhaoiplbebgnaaRegionS
set_option linter.unusedSimpArgs false
set_option linter.unusedVariables false
namespace Go.Proofs.Ytlhaoiplbebgnaa
open Go.RowKit

def spanC (x : Int × Int) : List Value := [.int .i64 x.1, .int .i64 x.2]
def hiL (l : List (Int × Int)) (p : Int) : Int := (l[p.toNat]?.map (·.2)).getD 0
def loL (l : List (Int × Int)) (p : Int) : Int := (l[p.toNat]?.map (·.1)).getD 0
theorem loL_ok {l : List (Int × Int)} (h : ∀ x ∈ l, R64 x.1) (p : Int) : R64 (loL l p) := by
  unfold loL
  cases hx : l[p.toNat]? with
  | none => simp [R64]
  | some x => exact h x (List.mem_of_getElem? hx)

set_option maxHeartbeats 400000 in
theorem hour1_any (B : Nat) (A : Option Addr) (n cap : Nat) (l : List (Int × Int)) (w : World) (hn : n ≤ maxLen) (hB : Bk w B 95 #[.slice A n cap]) (hs : Sl (Pl spanC) 2 w w.heap.size A n l) (p : Int) (h0 : 0 ≤ p) (h1 : p < n) :
    Calls Try.prog 46 (#[.int .i64 p] ++ #[.pointer (some ⟨B, 0, none⟩)]) w fun e w' => e = .returned (.int .i64 (hiL l p)) ∧ w = w' := by
  unfold maxLen at hn
  obtain ⟨k, rfl⟩ : ∃ k : Nat, p = (k : Int) := ⟨p.toNat, by omega⟩
  have hk : k < n := by omega
  obtain ⟨b, o, x, rfl, _, hx, hc⟩ := hs.at_ hk
  have e0 := hc w (Below.refl _ _) 0 _ rfl
  have e1 := hc w (Below.refl _ _) 1 _ rfl
  simp only [Nat.add_zero] at e0
  have hv : hiL l (k : Int) = x.2 := by unfold hiL; simp [hx]
  have HV := Lib.hid hv
  have c := hB.cell
  clear hx hc hv hs
  show Calls Try.prog 46 #[.int .i64 (k : Int), .pointer (some ⟨B, 0, none⟩)] w _
  go_enter Try.func46, Try.ntmps46
  go_wp2
  go_ret
  exact ⟨ret_int (by rw [HV.out]), rfl⟩

set_option maxHeartbeats 400000 in
theorem hour2_any (B : Nat) (A : Option Addr) (n cap : Nat) (l : List (Int × Int)) (w : World) (hn : n ≤ maxLen) (hB : Bk w B 95 #[.slice A n cap]) (hs : Sl (Pl spanC) 2 w w.heap.size A n l) (p : Int) (h0 : 0 ≤ p) (h1 : p < n) :
    Calls Try.prog 48 (#[.int .i64 p] ++ #[.pointer (some ⟨B, 0, none⟩)]) w fun e w' => e = .returned (.int .i64 (hiL l p)) ∧ w = w' := by
  unfold maxLen at hn
  obtain ⟨k, rfl⟩ : ∃ k : Nat, p = (k : Int) := ⟨p.toNat, by omega⟩
  have hk : k < n := by omega
  obtain ⟨b, o, x, rfl, _, hx, hc⟩ := hs.at_ hk
  have e0 := hc w (Below.refl _ _) 0 _ rfl
  have e1 := hc w (Below.refl _ _) 1 _ rfl
  simp only [Nat.add_zero] at e0
  have hv : hiL l (k : Int) = x.2 := by unfold hiL; simp [hx]
  have HV := Lib.hid hv
  have c := hB.cell
  clear hx hc hv hs
  show Calls Try.prog 48 #[.int .i64 (k : Int), .pointer (some ⟨B, 0, none⟩)] w _
  go_enter Try.func48, Try.ntmps48
  go_wp2
  go_ret
  exact ⟨ret_int (by rw [HV.out]), rfl⟩

set_option maxHeartbeats 400000 in
theorem hour3_any (B : Nat) (h0 h2 h3 : Value) (A : Option Addr) (n cap : Nat) (l : List (Int × Int)) (w : World) (hn : n ≤ maxLen) (hB : Bk w B 99 #[h0, .slice A n cap, h2, h3]) (hs : Sl (Pl spanC) 2 w w.heap.size A n l) (p : Int) (hp0 : 0 ≤ p) (h1 : p < n) :
    Calls Try.prog 50 (#[.int .i64 p] ++ #[.pointer (some ⟨B, 0, none⟩)]) w fun e w' => e = .returned (.int .i64 (loL l p)) ∧ w = w' := by
  unfold maxLen at hn
  obtain ⟨k, rfl⟩ : ∃ k : Nat, p = (k : Int) := ⟨p.toNat, by omega⟩
  have hk : k < n := by omega
  obtain ⟨b, o, x, rfl, _, hx, hc⟩ := hs.at_ hk
  have e0 := hc w (Below.refl _ _) 0 _ rfl
  have e1 := hc w (Below.refl _ _) 1 _ rfl
  simp only [Nat.add_zero] at e0
  have hv : loL l (k : Int) = x.1 := by unfold loL; simp [hx]
  have HV := Lib.hid hv
  have c := hB.cell
  clear hx hc hv hs
  show Calls Try.prog 50 #[.int .i64 (k : Int), .pointer (some ⟨B, 0, none⟩)] w _
  go_enter Try.func50, Try.ntmps50
  go_wp2
  go_ret
  exact ⟨ret_int (by rw [HV.out]), rfl⟩


theorem cf_hour1 (args : Array Value) (W : World) : (callFunc 46 args).run Try.prog W = .ok (.enter 46 args) W := by kernel_rfl
theorem cf_hour2 (args : Array Value) (W : World) : (callFunc 48 args).run Try.prog W = .ok (.enter 48 args) W := by kernel_rfl
theorem cf_hour3 (args : Array Value) (W : World) : (callFunc 50 args).run Try.prog W = .ok (.enter 50 args) W := by kernel_rfl

def HourH (B : Nat) (vals : Array Value) : List Value → World → Prop
  | [], _ => True
  | [.pointer (some ⟨X, 0, none⟩)], w' => B ≤ X ∧ Bk w' X 61 #[.int .i64 0, .int .i64 0, .int .i64 0, .int .i64 0]
  | [_, .pointer (some ⟨X, 0, none⟩)], w' => B ≤ X ∧ Bk w' X 61 vals
  | _, _ => False
theorem hourH_keep {B : Nat} {vals : Array Value} {hh : List Value} {w w' : World} (h : HourH B vals hh w) (hb : Below w.heap.size w w') : HourH B vals hh w' := by
  unfold HourH at *
  split at h
  · trivial
  · exact ⟨h.1, h.2.below hb h.2.lt⟩
  · exact ⟨h.1, h.2.below hb h.2.lt⟩
  · exact h.elim

set_option maxRecDepth 100000 in
set_option maxHeartbeats 4000000 in
theorem hour0_any (v0 v1 v2 v4 v6 v7 v8 v9 v10 g0 g1 g2 h0 h2 : Value) (AP AT AL AM AV AK AS : Option Addr) (np cP nt cT cL nm cM nv cV nk cK ns cS : Nat) (places : List Plc) (towns : List Town) (vol pks spl : List (Int × Int)) (w : World)
    (hnp : np ≤ maxLen) (hnt : nt ≤ maxLen) (hnv : nv ≤ maxLen) (hnk : nk ≤ maxLen) (hns : ns ≤ maxLen) (hnm : nm ≤ maxLen)
    (hpl : Sl (Pl plcC) 12 w w.heap.size AP np places) (hto : Sl (Pl townC) 7 w w.heap.size AT nt towns) (hvo : Sl (Pl spanC) 2 w w.heap.size AV nv vol) (hpk : Sl (Pl spanC) 2 w w.heap.size AK nk pks) (hsp : Sl (Pl spanC) 2 w w.heap.size AS ns spl)
    (hfl : ∀ x ∈ places, R64 x.floor) (hvr : ∀ x ∈ vol, R64 x.1) :
    Calls Try.prog 41 #[.agg #[v0, v1, v2, .slice AP np cP, v4, .slice AT nt cT, v6, v7, v8, v9, v10], .agg #[g0, g1, g2, .slice AL 0 cL], .agg #[h0, .slice AV nv cV, h2, .slice AM nm cM], .slice AK nk cK, .slice AS ns cS] w fun e w' =>
      e = .returned (.agg #[.int .i64 (floodN towns (nk : Int) (hiL pks)), .int .i64 (spillK places (ns : Int) (hiL spl) places.length), .int .i64 (shortK places (nv : Int) (loL vol) places.length), .int .i64 0]) ∧ Below w.heap.size w w' := by
  have HPL0 := Lib.hid hpl
  have HTO0 := Lib.hid hto
  have HVO0 := Lib.hid hvo
  have HPK0 := Lib.hid hpk
  have HSP0 := Lib.hid hsp
  have HFL := Lib.hid hfl
  have HVO := Lib.hid hvr
  clear hpl hto hvo hpk hsp hfl hvr
  go_enter Try.func41, Try.ntmps41
  go_wp2_with fail
  obtain ⟨w2, hw2⟩ : ∃ w2, w2 = (((((w.alloc (.cells #[v0, v1, v2, .slice AP np cP, v4, .slice AT nt cT, v6, v7, v8, v9, v10] 93)).alloc (.cells #[g0, g1, g2, .slice AL 0 cL] 99)).alloc (.cells #[h0, .slice AV nv cV, h2, .slice AM nm cM] 99)).alloc (.cells #[.slice AK nk cK] 95)).alloc (.cells #[.slice AS ns cS] 95)).alloc (.cells #[.int .i64 0, .int .i64 0, .int .i64 0, .int .i64 0] 61) := ⟨_, rfl⟩
  have k0 : Bk w2 w.heap.size 93 #[v0, v1, v2, .slice AP np cP, v4, .slice AT nt cT, v6, v7, v8, v9, v10] := by rw [hw2]; exact (((((Bk.new w _ _).alloc _).alloc _).alloc _).alloc _).alloc _
  have k1 : Bk w2 (w.heap.size + 1) 99 #[g0, g1, g2, .slice AL 0 cL] := by rw [hw2]; exact ((((Bk.newAt _ (by simp) _ _).alloc _).alloc _).alloc _).alloc _
  have k2 : Bk w2 (w.heap.size + 1 + 1) 99 #[h0, .slice AV nv cV, h2, .slice AM nm cM] := by rw [hw2]; exact (((Bk.newAt _ (by simp) _ _).alloc _).alloc _).alloc _
  have k3 : Bk w2 (w.heap.size + 1 + 1 + 1) 95 #[.slice AK nk cK] := by rw [hw2]; exact ((Bk.newAt _ (by simp) _ _).alloc _).alloc _
  have k4 : Bk w2 (w.heap.size + 1 + 1 + 1 + 1) 95 #[.slice AS ns cS] := by rw [hw2]; exact (Bk.newAt _ (by simp) _ _).alloc _
  have k5 : Bk w2 (w.heap.size + 1 + 1 + 1 + 1 + 1) 61 #[.int .i64 0, .int .i64 0, .int .i64 0, .int .i64 0] := by rw [hw2]; exact Bk.newAt _ (by simp) _ _
  have hbw : Below w.heap.size w w2 := by rw [hw2]; exact ((((((Below.refl _ _).alloc (Nat.le_refl _) _).alloc (by simp) _).alloc (by simp; omega) _).alloc (by simp; omega) _).alloc (by simp; omega) _).alloc (by simp; omega) _
  rw [← hw2]
  obtain ⟨B0, e0⟩ : ∃ B, B = w.heap.size := ⟨_, rfl⟩
  obtain ⟨B1, e1⟩ : ∃ B, B = w.heap.size + 1 := ⟨_, rfl⟩
  obtain ⟨B2, e2⟩ : ∃ B, B = w.heap.size + 1 + 1 := ⟨_, rfl⟩
  obtain ⟨B3, e3⟩ : ∃ B, B = w.heap.size + 1 + 1 + 1 := ⟨_, rfl⟩
  obtain ⟨B4, e4⟩ : ∃ B, B = w.heap.size + 1 + 1 + 1 + 1 := ⟨_, rfl⟩
  obtain ⟨B5, e5⟩ : ∃ B, B = w.heap.size + 1 + 1 + 1 + 1 + 1 := ⟨_, rfl⟩
  rw [← e0] at k0
  rw [← e1] at k1
  rw [← e2] at k2
  rw [← e3] at k3
  rw [← e4] at k4
  rw [← e5] at k5
  rw [← e5, ← e4, ← e3, ← e2, ← e1, ← e0]
  have hlo5 : w.heap.size ≤ B5 := by omega
  have hl0 := k0.lt
  have hl1 := k1.lt
  have hl2 := k2.lt
  have hl3 := k3.lt
  have hl4 := k4.lt
  have hl5 := k5.lt
  have hkeep : ∀ W, Below w2.heap.size w2 W → Below w2.heap.size w2 W ∧ (∀ j, W.cell? ⟨B0, j, none⟩ = #[v0, v1, v2, .slice AP np cP, v4, .slice AT nt cT, v6, v7, v8, v9, v10][j]?) ∧ (∀ j, W.cell? ⟨B1, j, none⟩ = #[g0, g1, g2, .slice AL 0 cL][j]?) ∧ (∀ j, W.cell? ⟨B2, j, none⟩ = #[h0, .slice AV nv cV, h2, .slice AM nm cM][j]?) ∧ (∀ j, W.cell? ⟨B3, j, none⟩ = #[.slice AK nk cK][j]?) ∧ (∀ j, W.cell? ⟨B4, j, none⟩ = #[.slice AS ns cS][j]?) := fun W h => ⟨h, (k0.below h hl0).cell, (k1.below h hl1).cell, (k2.below h hl2).cell, (k3.below h hl3).cell, (k4.below h hl4).cell⟩
  have HKEEP := Lib.hid hkeep
  have hw2s : ∀ {α : Type} {c : α → List Value} {sz n : Nat} {A : Option Addr} {l : List α} (W : World), Below w2.heap.size w2 W → Sl (Pl c) sz w w.heap.size A n l → Sl (Pl c) sz W W.heap.size A n l :=
    fun W h hs => hs.keep (Pl.lasts _) (hbw.trans (h.mono hbw.size)) (Nat.le_trans hbw.size h.size)
  have HTO := Lib.hid (fun W h => hw2s W h HTO0.out)
  have HPL := Lib.hid (fun W h => hw2s W h HPL0.out)
  have HPK : Hid (∀ W0, Below w2.heap.size w2 W0 → ∀ W p, Below W0.heap.size W0 W → 0 ≤ p → p < (nk : Int) → Calls Try.prog 46 (#[.int .i64 p] ++ #[.pointer (some ⟨B3, 0, none⟩)]) W (fun e w' => e = .returned (.int .i64 (hiL pks p)) ∧ Below W.heap.size W w')) :=
    fun W0 h0 W p hb hp0 hp1 => by
      have h2 := h0.trans (hb.mono h0.size)
      exact (hour1_any B3 AK nk cK pks W hnk (k3.below h2 hl3) (hw2s W h2 HPK0.out) p hp0 hp1).mono fun e w' ⟨he, hw⟩ => ⟨he, by rw [← hw]; exact Below.refl _ _⟩
  have HSP : Hid (∀ W0, Below w2.heap.size w2 W0 → ∀ W p, Below W0.heap.size W0 W → 0 ≤ p → p < (ns : Int) → Calls Try.prog 48 (#[.int .i64 p] ++ #[.pointer (some ⟨B4, 0, none⟩)]) W (fun e w' => e = .returned (.int .i64 (hiL spl p)) ∧ Below W.heap.size W w')) :=
    fun W0 h0 W p hb hp0 hp1 => by
      have h2 := h0.trans (hb.mono h0.size)
      exact (hour2_any B4 AS ns cS spl W hns (k4.below h2 hl4) (hw2s W h2 HSP0.out) p hp0 hp1).mono fun e w' ⟨he, hw⟩ => ⟨he, by rw [← hw]; exact Below.refl _ _⟩
  have HVL : Hid (∀ W0, Below w2.heap.size w2 W0 → ∀ W p, Below W0.heap.size W0 W → 0 ≤ p → p < (nv : Int) → Calls Try.prog 50 (#[.int .i64 p] ++ #[.pointer (some ⟨B2, 0, none⟩)]) W (fun e w' => e = .returned (.int .i64 (loL vol p)) ∧ Below W.heap.size W w')) :=
    fun W0 hW0 W p hb hp0 hp1 => by
      have hh2 := hW0.trans (hb.mono hW0.size)
      exact (hour3_any B2 h0 h2 (.slice AM nm cM) AV nv cV vol W hnv (k2.below hh2 hl2) (hw2s W hh2 HVO0.out) p hp0 hp1).mono fun e w' ⟨he, hw⟩ => ⟨he, by rw [← hw]; exact Below.refl _ _⟩
  have HK5 := Lib.hid k5
  have HBW := Lib.hid hbw
  clear k0 k1 k2 k3 k4 k5 hbw e0 e1 e2 e3 e4 e5 hw2 hkeep hw2s HTO0 HPL0 HPK0 HSP0 HVO0
  refine wp_region_S [0, 1, 2, 3, 4, 5, 6, 7, 8, 9, 10, 11, 12, 13, 14, 15, 16, 17, 18] [17, 18] (fun hh w' => (Below w2.heap.size w2 w' ∧ (∀ j, w'.cell? ⟨B0, j, none⟩ = #[v0, v1, v2, .slice AP np cP, v4, .slice AT nt cT, v6, v7, v8, v9, v10][j]?) ∧ (∀ j, w'.cell? ⟨B1, j, none⟩ = #[g0, g1, g2, .slice AL 0 cL][j]?) ∧ (∀ j, w'.cell? ⟨B2, j, none⟩ = #[h0, .slice AV nv cV, h2, .slice AM nm cM][j]?) ∧ (∀ j, w'.cell? ⟨B3, j, none⟩ = #[.slice AK nk cK][j]?) ∧ (∀ j, w'.cell? ⟨B4, j, none⟩ = #[.slice AS ns cS][j]?)) ∧ HourH w2.heap.size #[.int .i64 (floodN towns (nk : Int) (hiL pks)), .int .i64 (spillK places (ns : Int) (hiL spl) places.length), .int .i64 (shortK places (nv : Int) (loL vol) places.length), .int .i64 0] hh w') (by kernel_rfl) (by kernel_rfl) ⟨HKEEP.out _ (Below.refl _ _).drew, trivial⟩ ?_
  iterate 4 (refine S_pure (by rfl) (by rfl) ?_; apply Exists.intro; apply And.intro; (case left => (intro hh w hSw; (try dsimp only at hSw); go_simp; try with_reducible rfl)); (try simp only [Act.put, List.setIfInBounds_toArray, List.set_cons_zero, List.set_cons_succ]))
  (refine S_call (by rfl) (by rfl) ?_; apply Exists.intro; apply Exists.intro; apply And.intro; (case left => (intro hh w hSw; go_simp; first | exact ⟨rfl, rfl⟩ | rfl)))
  refine ⟨.int .i64 (floodN towns (nk : Int) (hiL pks)), (fun hh W hSW => ?_), ?_⟩
  · refine (flooded_any v0 v1 v2 (.slice AP np cP) v4 v6 v7 v8 v9 v10 AT nt cT towns (nk : Int) 46 #[.pointer (some ⟨B3, 0, none⟩)] (hiL pks) W hnt (HTO.out W hSW.1.1) (cf_hour1) (HPK.out W hSW.1.1)).mono ?_
    rintro e w' ⟨rfl, hbW⟩
    exact ⟨rfl, ⟨HKEEP.out w' (hSW.1.1.trans (hbW.mono hSW.1.1.size)), hourH_keep hSW.2 hbW⟩⟩
  (try simp only [Act.put, List.setIfInBounds_toArray, List.set_cons_zero, List.set_cons_succ])
  iterate 4 (refine S_pure (by rfl) (by rfl) ?_; apply Exists.intro; apply And.intro; (case left => (intro hh w hSw; (try dsimp only at hSw); go_simp; try with_reducible rfl)); (try simp only [Act.put, List.setIfInBounds_toArray, List.set_cons_zero, List.set_cons_succ]))
  (refine S_call (by rfl) (by rfl) ?_; apply Exists.intro; apply Exists.intro; apply And.intro; (case left => (intro hh w hSw; go_simp; first | exact ⟨rfl, rfl⟩ | rfl)))
  refine ⟨.int .i64 (spillK places (ns : Int) (hiL spl) places.length), (fun hh W hSW => ?_), ?_⟩
  · refine (spilling_any v0 v1 v2 v4 (.slice AT nt cT) v6 v7 v8 v9 v10 AP np cP places (ns : Int) 48 #[.pointer (some ⟨B4, 0, none⟩)] (hiL spl) W hnp (HPL.out W hSW.1.1) (cf_hour2) (HSP.out W hSW.1.1)).mono ?_
    rintro e w' ⟨rfl, hbW⟩
    exact ⟨rfl, ⟨HKEEP.out w' (hSW.1.1.trans (hbW.mono hSW.1.1.size)), hourH_keep hSW.2 hbW⟩⟩
  (try simp only [Act.put, List.setIfInBounds_toArray, List.set_cons_zero, List.set_cons_succ])
  iterate 5 (refine S_pure (by rfl) (by rfl) ?_; apply Exists.intro; apply And.intro; (case left => (intro hh w hSw; (try dsimp only at hSw); go_simp; try with_reducible rfl)); (try simp only [Act.put, List.setIfInBounds_toArray, List.set_cons_zero, List.set_cons_succ]))
  (refine S_call (by rfl) (by rfl) ?_; apply Exists.intro; apply Exists.intro; apply And.intro; (case left => (intro hh w hSw; go_simp; first | exact ⟨rfl, rfl⟩ | rfl)))
  refine ⟨.int .i64 (shortK places (nv : Int) (loL vol) places.length), (fun hh W hSW => ?_), ?_⟩
  · refine (short_any v0 v1 v2 v4 (.slice AT nt cT) v6 v7 v8 v9 v10 AP np cP places (nv : Int) 50 #[.pointer (some ⟨B2, 0, none⟩)] (loL vol) W hnp (HPL.out W hSW.1.1) HFL.out (loL_ok HVO.out) (cf_hour3) (HVL.out W hSW.1.1)).mono ?_
    rintro e w' ⟨rfl, hbW⟩
    exact ⟨rfl, ⟨HKEEP.out w' (hSW.1.1.trans (hbW.mono hSW.1.1.size)), hourH_keep hSW.2 hbW⟩⟩
  (try simp only [Act.put, List.setIfInBounds_toArray, List.set_cons_zero, List.set_cons_succ])
  iterate 1 (refine S_pure (by rfl) (by rfl) ?_; apply Exists.intro; apply And.intro; (case left => (intro hh w hSw; (try dsimp only at hSw); go_simp; try with_reducible rfl)); (try simp only [Act.put, List.setIfInBounds_toArray, List.set_cons_zero, List.set_cons_succ]))
  refine S_do (by rfl) (by rfl) ?_
  intro wx hSx
  have hlx : w2.heap.size ≤ wx.heap.size := hSx.1.1.size
  refine ⟨.pointer (some ⟨wx.heap.size, 0, none⟩), wx.alloc (.cells #[.int .i64 0, .int .i64 0, .int .i64 0, .int .i64 0] 61), (by go_simp), ⟨HKEEP.out _ (hSx.1.1.alloc hlx _), hlx, Bk.new wx _ _⟩, ?_⟩
  obtain ⟨X, hX⟩ : ∃ X, X = wx.heap.size := ⟨_, rfl⟩
  rw [← hX]
  rw [← hX] at hlx
  have HXX := Lib.hid hX
  clear hX hSx
  (try simp only [Act.put, List.setIfInBounds_toArray, List.set_cons_zero, List.set_cons_succ])
  refine S_store (by rfl) (by rfl) ?_
  intro wy hSy
  have hbx := hSy.2.2
  have cX := hbx.cell
  have fX := hbx.frozen
  obtain ⟨hSyb, cb0, cb1, cb2, cb3, cb4⟩ := hSy.1
  have HBX := Lib.hid hbx
  clear hbx hSy
  refine ⟨_, (by go_simp; try with_reducible rfl), ⟨HKEEP.out _ ((((hSyb.setCell hlx _).setCell hlx _).setCell hlx _).setCell hlx _), hlx, (((HBX.out.set_ 0 _).set_ 1 _).set_ 2 _).set_ 3 _⟩, ?_⟩
  clear cX fX cb0 cb1 cb2 cb3 cb4 HBX hSyb
  (try simp only [Act.put, List.setIfInBounds_toArray, List.set_cons_zero, List.set_cons_succ])
  refine S_nil ?_
  intro wz hSz
  obtain ⟨⟨hbz, cb0, cb1, cb2, cb3, cb4⟩, _, hbx⟩ := hSz
  have cx := hbx.cell
  have k5z := HK5.out.below hbz hl5
  have c5 := k5z.cell
  have f5 := k5z.frozen
  have HBZ := Lib.hid hbz
  clear hbx k5z hbz cb0 cb3 cb4
  go_wp2
  go_loop [40] (fun i => i = .int .i64 0) (fun _ => 0)
  case atStart => rfl
  case round =>
    subst hrel
    go_wp2
    refine bodyPost_ret (v := .agg #[.int .i64 (floodN towns (nk : Int) (hiL pks)), .int .i64 (spillK places (ns : Int) (hiL spl) places.length), .int .i64 (shortK places (nv : Int) (loL vol) places.length), .int .i64 0]) ?_ rfl ⟨rfl, ?_⟩
    · simp [results, Try.results41, go_sem, *]
    · exact ((((HBW.out.trans (HBZ.out.mono HBW.out.size)).setCell hlo5 _).setCell hlo5 _).setCell hlo5 _).setCell hlo5 _

end Go.Proofs.Ytlhaoiplbebgnaa
