/- The walks of harm's spilling and short. -/
import Derived.Test.YtlhaoiplbebgnaaHarmD
set_option linter.unusedSimpArgs false
set_option linter.unusedVariables false
namespace Go.Proofs.Ytlhaoiplbebgnaa
open Go.RowKit

/-- A slice as it lies. -/
structure Sv where
  a : Option Addr
  n : Nat
  c : Nat
/-- A place, its slices as they lie. -/
structure Plc where
  nm : ByteArray
  kind : Int
  office : Int
  cap : Int
  lv : Sv
  st : Sv
  num : Int
  den : Int
  down : Int
  delay : Int
  floor : Int
  rn : Sv
def plcC (x : Plc) : List Value := [.string x.nm, .int .i64 x.kind, .int .i64 x.office, .int .i64 x.cap, .slice x.lv.a x.lv.n x.lv.c, .slice x.st.a x.st.n x.st.c, .int .i64 x.num, .int .i64 x.den, .int .i64 x.down, .int .i64 x.delay, .int .i64 x.floor, .slice x.rn.a x.rn.n x.rn.c]

def spillK (l : List Plc) (pl : Int) (pk : Int → Int) : Nat → Int
  | 0 => 0
  | k + 1 => match l[k]? with
    | some x => if x.kind = 1 ∧ (k : Int) < pl ∧ 0 < pk (k : Int) then spillK l pl pk k + 1 else spillK l pl pk k
    | none => spillK l pl pk k
theorem spillK_succ {l : List Plc} {k : Nat} {x : Plc} {pl : Int} {pk : Int → Int} (h : l[k]? = some x) : spillK l pl pk (k + 1) = if x.kind = 1 ∧ (k : Int) < pl ∧ 0 < pk (k : Int) then spillK l pl pk k + 1 else spillK l pl pk k := by
  show (match l[k]? with | some x => _ | none => _) = _
  rw [h]
theorem spillK_bd (l : List Plc) (pl : Int) (pk : Int → Int) : ∀ k, 0 ≤ spillK l pl pk k ∧ spillK l pl pk k ≤ k
  | 0 => by simp [spillK]
  | k + 1 => by
    have ih := spillK_bd l pl pk k
    unfold spillK
    split
    · split <;> omega
    · omega
def mx0 (n : Int) : Int := if 0 < n then n else 0
theorem mx0_bd {n : Int} (h : -9223372036854775808 ≤ n ∧ n ≤ 9223372036854775807) : R64 (mx0 n) := by unfold R64 mx0; split <;> omega
def shortK (l : List Plc) (pl : Int) (pk : Int → Int) : Nat → Int
  | 0 => 0
  | k + 1 => match l[k]? with
    | some x => if (k : Int) < pl then satI (shortK l pl pk k + mx0 (satI (x.floor - pk (k : Int)))) else shortK l pl pk k
    | none => shortK l pl pk k
theorem shortK_succ {l : List Plc} {k : Nat} {x : Plc} {pl : Int} {pk : Int → Int} (h : l[k]? = some x) : shortK l pl pk (k + 1) = if (k : Int) < pl then satI (shortK l pl pk k + mx0 (satI (x.floor - pk (k : Int)))) else shortK l pl pk k := by
  show (match l[k]? with | some x => _ | none => _) = _
  rw [h]
theorem shortK_bd (l : List Plc) (pl : Int) (pk : Int → Int) : ∀ k, R64 (shortK l pl pk k)
  | 0 => by unfold R64 shortK; omega
  | k + 1 => by
    have ih := shortK_bd l pl pk k
    unfold shortK
    split
    · split
      · exact satI_bd _
      · exact ih
    · exact ih

set_option maxRecDepth 100000 in
set_option maxHeartbeats 2000000 in
theorem spilling_any (v0 v1 v2 v4 v5 v6 v7 v8 v9 v10 : Value) (A : Option Addr) (n cap : Nat) (l : List Plc) (pl : Int) (fid : Nat) (cp : Array Value) (pk : Int → Int) (w : World) (hn : n ≤ maxLen) (hs : Sl (Pl plcC) 12 w w.heap.size A n l) 
    (hcf : ∀ (args : Array Value) (W : World), (callFunc fid args).run Try.prog W = .ok (.enter fid args) W) (hpk : ∀ W p, Below w.heap.size w W → 0 ≤ p → p < pl → Calls Try.prog fid (#[.int .i64 p] ++ cp) W (fun e w' => e = .returned (.int .i64 (pk p)) ∧ Below W.heap.size W w')) :
    Calls Try.prog 47 #[.agg #[v0, v1, v2, .slice A n cap, v4, v5, v6, v7, v8, v9, v10], .int .i64 pl, .func (.func fid) #[] cp] w fun e w' => e = .returned (.int .i64 (spillK l pl pk l.length)) ∧ Below w.heap.size w w' := by
  unfold maxLen at hn
  have HPK := Lib.hid hpk
  clear hpk
  go_enter Try.func47, Try.ntmps47
  have hb0 := Bk.new w 93 #[v0, v1, v2, .slice A n cap, v4, v5, v6, v7, v8, v9, v10]
  have c0 := hb0.cell
  have hbw : Below w.heap.size w (w.alloc (.cells #[v0, v1, v2, .slice A n cap, v4, v5, v6, v7, v8, v9, v10] 93)) := (Below.refl _ _).alloc (Nat.le_refl _) _
  have HBW := Lib.hid hbw
  clear hb0 hbw
  go_wp2
  go_loopw [7, 13] (fun v7 i wr => ∃ k : Nat, k ≤ n ∧ i = .int .i64 k ∧ v7 = .int .i64 (spillK l pl pk k) ∧ Below w.heap.size w wr) (fun _ i _ => n - (intOf i).toNat)
  case atStart => exact ⟨0, Nat.zero_le _, rfl, rfl, HBW.out⟩
  case round =>
    obtain ⟨k, hk, rfl, rfl, hb⟩ := hrel
    obtain ⟨wo, rfl⟩ : ∃ wo : World, wo = wr := ⟨_, rfl⟩
    clear c0
    by_cases hlt : k < n
    · obtain ⟨bo, oo, x, rfl, hbl, hx, hc⟩ := hs.at_ hlt
      have e0 := hc wo hb 0 _ rfl
      have e1 := hc wo hb 1 _ rfl
      have e2 := hc wo hb 2 _ rfl
      have e3 := hc wo hb 3 _ rfl
      have e4 := hc wo hb 4 _ rfl
      have e5 := hc wo hb 5 _ rfl
      have e6 := hc wo hb 6 _ rfl
      have e7 := hc wo hb 7 _ rfl
      have e8 := hc wo hb 8 _ rfl
      have e9 := hc wo hb 9 _ rfl
      have e10 := hc wo hb 10 _ rfl
      have e11 := hc wo hb 11 _ rfl
      simp only [Nat.add_zero] at e0
      have hkn : (k : Int) < (n : Int) := by omega
      have hk0 : (0 : Int) ≤ (k : Int) := by omega
      obtain ⟨X, hX⟩ : ∃ X, X = wo.heap.size := ⟨_, rfl⟩
      have hbX := Bk.new wo 84 #[.string x.nm, .int .i64 x.kind, .int .i64 x.office, .int .i64 x.cap, .slice x.lv.a x.lv.n x.lv.c, .slice x.st.a x.st.n x.st.c, .int .i64 x.num, .int .i64 x.den, .int .i64 x.down, .int .i64 x.delay, .int .i64 x.floor, .slice x.rn.a x.rn.n x.rn.c]
      have hb1 : Below w.heap.size w (wo.alloc (.cells #[.string x.nm, .int .i64 x.kind, .int .i64 x.office, .int .i64 x.cap, .slice x.lv.a x.lv.n x.lv.c, .slice x.st.a x.st.n x.st.c, .int .i64 x.num, .int .i64 x.den, .int .i64 x.down, .int .i64 x.delay, .int .i64 x.floor, .slice x.rn.a x.rn.n x.rn.c] 84)) := hb.alloc hb.size _
      rw [← hX] at hbX
      have HX := Lib.hid hX
      have HBX := Lib.hid hbX
      have HB1 := Lib.hid hb1
      have HBD := Lib.hid (hb1.drew)
      have cX : ∀ j, (wo.alloc (.cells #[.string x.nm, .int .i64 x.kind, .int .i64 x.office, .int .i64 x.cap, .slice x.lv.a x.lv.n x.lv.c, .slice x.st.a x.st.n x.st.c, .int .i64 x.num, .int .i64 x.den, .int .i64 x.down, .int .i64 x.delay, .int .i64 x.floor, .slice x.rn.a x.rn.n x.rn.c] 84)).drew.cell? ⟨X, j, none⟩ = #[.string x.nm, .int .i64 x.kind, .int .i64 x.office, .int .i64 x.cap, .slice x.lv.a x.lv.n x.lv.c, .slice x.st.a x.st.n x.st.c, .int .i64 x.num, .int .i64 x.den, .int .i64 x.down, .int .i64 x.delay, .int .i64 x.floor, .slice x.rn.a x.rn.n x.rn.c][j]? := hbX.cell
      have cX' : ∀ j, (wo.alloc (.cells #[.string x.nm, .int .i64 x.kind, .int .i64 x.office, .int .i64 x.cap, .slice x.lv.a x.lv.n x.lv.c, .slice x.st.a x.st.n x.st.c, .int .i64 x.num, .int .i64 x.den, .int .i64 x.down, .int .i64 x.delay, .int .i64 x.floor, .slice x.rn.a x.rn.n x.rn.c] 84)).cell? ⟨X, j, none⟩ = #[.string x.nm, .int .i64 x.kind, .int .i64 x.office, .int .i64 x.cap, .slice x.lv.a x.lv.n x.lv.c, .slice x.st.a x.st.n x.st.c, .int .i64 x.num, .int .i64 x.den, .int .i64 x.down, .int .i64 x.delay, .int .i64 x.floor, .slice x.rn.a x.rn.n x.rn.c][j]? := hbX.cell
      have hst := spillK_succ (pl := pl) (pk := pk) hx
      have hbd := spillK_bd l pl pk k
      have HST := Lib.hid hst
      clear hst hx hc hX hb1 hbX
      generalize spillK l pl pk k = c at *
      by_cases h1 : x.kind = 1
      · have hd1 : (x.kind == 1) = true := by simp [h1]
        have HK1 := Lib.hid h1
        clear h1
        by_cases h2 : (k : Int) < pl
        · have hd2 : decide ((k : Int) < pl) = true := by simpa using h2
          clear hd2
          go_wp2_with fail
          rw [show wo.heap.size = X from HX.out.symm]
          refine (HPK.out _ (k : Int) HB1.out hk0 h2).mono ?_
          rintro e W ⟨rfl, hbW⟩
          have HBW2 := Lib.hid (HB1.out.trans (hbW.mono HB1.out.size))
          clear hbW
          by_cases h3 : 0 < pk (k : Int)
          · have HN := Lib.hid (And.intro HK1.out (And.intro h2 h3))
            go_wp2
            go_roundw
            case rel => exact ⟨k + 1, by omega, by go_num, by rw [HST.out, if_pos HN.out], HBW2.out⟩
            case measure => simp [intOf]; omega
          · have HN := Lib.hid (show ¬ (x.kind = 1 ∧ (k : Int) < pl ∧ 0 < pk (k : Int)) from fun h => h3 h.2.2)
            have h3' : pk (k : Int) ≤ 0 := by omega
            go_wp2
            go_roundw
            case rel => exact ⟨k + 1, by omega, by go_num, by rw [HST.out, if_neg HN.out], HBW2.out⟩
            case measure => simp [intOf]; omega
        · have HN := Lib.hid (show ¬ (x.kind = 1 ∧ (k : Int) < pl ∧ 0 < pk (k : Int)) from fun h => h2 h.2.1)
          have h2' : pl ≤ (k : Int) := by omega
          go_wp2
          go_roundw
          case rel => exact ⟨k + 1, by omega, by go_num, by rw [HST.out, if_neg HN.out], HB1.out⟩
          case measure => simp [intOf]; omega
      · have hd1 : (x.kind == 1) = false := by simp [h1]
        have HN := Lib.hid (show ¬ (x.kind = 1 ∧ (k : Int) < pl ∧ 0 < pk (k : Int)) from fun h => h1 h.1)
        clear h1
        go_wp2
        go_roundw
        case rel => exact ⟨k + 1, by omega, by go_num, by rw [HST.out, if_neg HN.out], HB1.out⟩
        case measure => simp [intOf]; omega
    · have hkn : k = n := by omega
      subst hkn
      go_wp2
      go_ret
      exact ⟨ret_int (by rw [hs.1]), hb⟩

set_option maxRecDepth 100000 in
set_option maxHeartbeats 2000000 in
theorem short_any (v0 v1 v2 v4 v5 v6 v7 v8 v9 v10 : Value) (A : Option Addr) (n cap : Nat) (l : List Plc) (pl : Int) (fid : Nat) (cp : Array Value) (pk : Int → Int) (w : World) (hn : n ≤ maxLen) (hs : Sl (Pl plcC) 12 w w.heap.size A n l) (hfl : ∀ x ∈ l, R64 x.floor) (hpr : ∀ p, R64 (pk p))
    (hcf : ∀ (args : Array Value) (W : World), (callFunc fid args).run Try.prog W = .ok (.enter fid args) W) (hpk : ∀ W p, Below w.heap.size w W → 0 ≤ p → p < pl → Calls Try.prog fid (#[.int .i64 p] ++ cp) W (fun e w' => e = .returned (.int .i64 (pk p)) ∧ Below W.heap.size W w')) :
    Calls Try.prog 49 #[.agg #[v0, v1, v2, .slice A n cap, v4, v5, v6, v7, v8, v9, v10], .int .i64 pl, .func (.func fid) #[] cp] w fun e w' => e = .returned (.int .i64 (shortK l pl pk l.length)) ∧ Below w.heap.size w w' := by
  have HFLO := Lib.hid hfl
  have HPR := Lib.hid hpr
  clear hfl hpr
  unfold maxLen at hn
  have HPK := Lib.hid hpk
  clear hpk
  go_enter Try.func49, Try.ntmps49
  have hb0 := Bk.new w 93 #[v0, v1, v2, .slice A n cap, v4, v5, v6, v7, v8, v9, v10]
  have c0 := hb0.cell
  have hbw : Below w.heap.size w (w.alloc (.cells #[v0, v1, v2, .slice A n cap, v4, v5, v6, v7, v8, v9, v10] 93)) := (Below.refl _ _).alloc (Nat.le_refl _) _
  have HBW := Lib.hid hbw
  clear hb0 hbw
  go_wp2
  go_loopw [7, 13] (fun v7 i wr => ∃ k : Nat, k ≤ n ∧ i = .int .i64 k ∧ v7 = .int .i64 (shortK l pl pk k) ∧ Below w.heap.size w wr) (fun _ i _ => n - (intOf i).toNat)
  case atStart => exact ⟨0, Nat.zero_le _, rfl, rfl, HBW.out⟩
  case round =>
    obtain ⟨k, hk, rfl, rfl, hb⟩ := hrel
    obtain ⟨wo, rfl⟩ : ∃ wo : World, wo = wr := ⟨_, rfl⟩
    clear c0
    by_cases hlt : k < n
    · obtain ⟨bo, oo, x, rfl, hbl, hx, hc⟩ := hs.at_ hlt
      have e0 := hc wo hb 0 _ rfl
      have e1 := hc wo hb 1 _ rfl
      have e2 := hc wo hb 2 _ rfl
      have e3 := hc wo hb 3 _ rfl
      have e4 := hc wo hb 4 _ rfl
      have e5 := hc wo hb 5 _ rfl
      have e6 := hc wo hb 6 _ rfl
      have e7 := hc wo hb 7 _ rfl
      have e8 := hc wo hb 8 _ rfl
      have e9 := hc wo hb 9 _ rfl
      have e10 := hc wo hb 10 _ rfl
      have e11 := hc wo hb 11 _ rfl
      simp only [Nat.add_zero] at e0
      have hkn : (k : Int) < (n : Int) := by omega
      have hk0 : (0 : Int) ≤ (k : Int) := by omega
      obtain ⟨X, hX⟩ : ∃ X, X = wo.heap.size := ⟨_, rfl⟩
      have hbX := Bk.new wo 84 #[.string x.nm, .int .i64 x.kind, .int .i64 x.office, .int .i64 x.cap, .slice x.lv.a x.lv.n x.lv.c, .slice x.st.a x.st.n x.st.c, .int .i64 x.num, .int .i64 x.den, .int .i64 x.down, .int .i64 x.delay, .int .i64 x.floor, .slice x.rn.a x.rn.n x.rn.c]
      have hb1 : Below w.heap.size w (wo.alloc (.cells #[.string x.nm, .int .i64 x.kind, .int .i64 x.office, .int .i64 x.cap, .slice x.lv.a x.lv.n x.lv.c, .slice x.st.a x.st.n x.st.c, .int .i64 x.num, .int .i64 x.den, .int .i64 x.down, .int .i64 x.delay, .int .i64 x.floor, .slice x.rn.a x.rn.n x.rn.c] 84)) := hb.alloc hb.size _
      rw [← hX] at hbX
      have HX := Lib.hid hX
      have HBX := Lib.hid hbX
      have HB1 := Lib.hid hb1
      have HBD := Lib.hid (hb1.drew)
      have cX : ∀ j, (wo.alloc (.cells #[.string x.nm, .int .i64 x.kind, .int .i64 x.office, .int .i64 x.cap, .slice x.lv.a x.lv.n x.lv.c, .slice x.st.a x.st.n x.st.c, .int .i64 x.num, .int .i64 x.den, .int .i64 x.down, .int .i64 x.delay, .int .i64 x.floor, .slice x.rn.a x.rn.n x.rn.c] 84)).drew.cell? ⟨X, j, none⟩ = #[.string x.nm, .int .i64 x.kind, .int .i64 x.office, .int .i64 x.cap, .slice x.lv.a x.lv.n x.lv.c, .slice x.st.a x.st.n x.st.c, .int .i64 x.num, .int .i64 x.den, .int .i64 x.down, .int .i64 x.delay, .int .i64 x.floor, .slice x.rn.a x.rn.n x.rn.c][j]? := hbX.cell
      have cX' : ∀ j, (wo.alloc (.cells #[.string x.nm, .int .i64 x.kind, .int .i64 x.office, .int .i64 x.cap, .slice x.lv.a x.lv.n x.lv.c, .slice x.st.a x.st.n x.st.c, .int .i64 x.num, .int .i64 x.den, .int .i64 x.down, .int .i64 x.delay, .int .i64 x.floor, .slice x.rn.a x.rn.n x.rn.c] 84)).cell? ⟨X, j, none⟩ = #[.string x.nm, .int .i64 x.kind, .int .i64 x.office, .int .i64 x.cap, .slice x.lv.a x.lv.n x.lv.c, .slice x.st.a x.st.n x.st.c, .int .i64 x.num, .int .i64 x.den, .int .i64 x.down, .int .i64 x.delay, .int .i64 x.floor, .slice x.rn.a x.rn.n x.rn.c][j]? := hbX.cell
      have hst := shortK_succ (pl := pl) (pk := pk) hx
      have HSB := Lib.hid (shortK_bd l pl pk k)
      have HST := Lib.hid hst
      have HFL := Lib.hid (HFLO.out x (List.mem_of_getElem? hx))
      have HMX := Lib.hid (show R64 (mx0 (satI (x.floor - pk (k : Int)))) from mx0_bd (satI_bd _))
      clear hst hx hc hX hb1 hbX
      by_cases h2 : (k : Int) < pl
      · have HN := Lib.hid h2
        go_wp2_with fail
        rw [show wo.heap.size = X from HX.out.symm]
        refine wp_region_M [0, 1, 2, 3, 4, 5, 6, 7, 8, 9] [5, 6, 8] (fun w' => ∀ j, w'.cell? ⟨X, j, none⟩ = #[.string x.nm, .int .i64 x.kind, .int .i64 x.office, .int .i64 x.cap, .slice x.lv.a x.lv.n x.lv.c, .slice x.st.a x.st.n x.st.c, .int .i64 x.num, .int .i64 x.den, .int .i64 x.down, .int .i64 x.delay, .int .i64 x.floor, .slice x.rn.a x.rn.n x.rn.c][j]?) (by kernel_rfl) (by kernel_rfl) cX ?_
        iterate 5 (refine M_pure (by rfl) (by rfl) ?_; apply Exists.intro; apply And.intro; (case left => (intro w hSw; (try dsimp only at hSw); go_simp; try with_reducible rfl)); (try simp only [Act.put, List.setIfInBounds_toArray, List.set_cons_zero, List.set_cons_succ]))
        (refine M_call (by rfl) (by rfl) ?_; apply Exists.intro; apply Exists.intro; apply And.intro; (case left => (go_simp; first | exact ⟨rfl, rfl⟩ | rfl)))
        refine (HPK.out _ (k : Int) HBD.out hk0 h2).mono ?_
        rintro e W ⟨rfl, hbW⟩
        have hbx2 := (HBX.out.drew).below hbW HBX.out.lt
        have HBW2 := Lib.hid (HBD.out.trans (hbW.mono HBD.out.size))
        have HC := Lib.hid hbx2.cell
        clear hbW hbx2
        refine ⟨_, rfl, HC.out, ?_⟩
        (try simp only [Act.put, List.setIfInBounds_toArray, List.set_cons_zero, List.set_cons_succ])
        (refine M_call (by rfl) (by rfl) ?_; apply Exists.intro; apply Exists.intro; apply And.intro; (case left => (go_simp; first | exact ⟨rfl, rfl⟩ | rfl)))
        refine (subE_any x.floor (pk (k : Int)) _ HFL.out (HPR.out _)).mono ?_
        rintro e W2 ⟨rfl, rfl⟩
        refine ⟨_, rfl, HC.out, ?_⟩
        (try simp only [Act.put, List.setIfInBounds_toArray, List.set_cons_zero, List.set_cons_succ])
        iterate 1 (refine M_pure (by rfl) (by rfl) ?_; apply Exists.intro; apply And.intro; (case left => (intro w hSw; (try dsimp only at hSw); go_simp; try with_reducible rfl)); (try simp only [Act.put, List.setIfInBounds_toArray, List.set_cons_zero, List.set_cons_succ]))
        (refine M_call (by rfl) (by rfl) ?_; apply Exists.intro; apply Exists.intro; apply And.intro; (case left => (go_simp; first | exact ⟨rfl, rfl⟩ | rfl)))
        refine (addE_any (shortK l pl pk k) _ _ HSB.out HMX.out).mono ?_
        rintro e W2 ⟨rfl, rfl⟩
        refine ⟨_, rfl, HC.out, ?_⟩
        (try simp only [Act.put, List.setIfInBounds_toArray, List.set_cons_zero, List.set_cons_succ])
        iterate 1 (refine M_pure (by rfl) (by rfl) ?_; apply Exists.intro; apply And.intro; (case left => (intro w hSw; (try dsimp only at hSw); go_simp; try with_reducible rfl)); (try simp only [Act.put, List.setIfInBounds_toArray, List.set_cons_zero, List.set_cons_succ]))
        refine M_nil ?_
        try dsimp only
        clear cX cX'
        go_wp2
        go_roundw
        case rel => exact ⟨k + 1, by omega, by go_num, by rw [HST.out, if_pos HN.out], HBW2.out⟩
        case measure => simp [intOf]; omega
      · have HN := Lib.hid h2
        have h2' : pl ≤ (k : Int) := by omega
        go_wp2
        go_roundw
        case rel => exact ⟨k + 1, by omega, by go_num, by rw [HST.out, if_neg HN.out], HB1.out⟩
        case measure => simp [intOf]; omega
    · have hkn : k = n := by omega
      subst hkn
      go_wp2
      go_ret
      exact ⟨ret_int (by rw [hs.1]), hb⟩


end Go.Proofs.Ytlhaoiplbebgnaa
