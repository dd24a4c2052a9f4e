/- The walk of slopes. -/
import Derived.Test.YtmkbojhnbkdalaaVals
import Derived.Test.YtmkbojhnbkdalaaRightB
import Derived.Test.YtmkbojhnbkdalaaBasP
import Derived.Test.YtmkbojhnbkdalaaRow
import Derived.Test.YtmkbojhnbkdalaaRegionL
import Derived.Deep.DeepCutAuto
import Derived.Deep.CutBlock
set_option linter.unusedSimpArgs false
set_option linter.unusedVariables false
namespace Go.Proofs.Ytmkbojhnbkdalaa
open Go.RowKit

theorem hereI_bd (x : Lnk) : 0 ≤ hereI x ∧ hereI x ≤ 2251799813685250 := by
  unfold hereI
  have h1 := steepN_bd x.rate.l (x.rate.l.length - 1)
  have h2 := steepN_bd x.band.lo.l (x.band.lo.l.length - 1)
  have h3 := steepN_bd x.band.hi.l (x.band.hi.l.length - 1)
  have h4 := slopeI_bd x.num x.den
  unfold steepI
  split
  · omega
  · split <;> omega
theorem thereI_bd (x : Lnk) : 0 ≤ thereI x ∧ thereI x ≤ 2251799813685250 := by
  unfold thereI
  have h4 := slopeI_bd x.bnum x.bden
  split <;> omega
def bdL (L : List Int) (B : Int) : Prop := ∀ x ∈ L, 0 ≤ x ∧ x ≤ B
theorem bumpI_len (L : List Int) (i : Nat) (d : Int) : (bumpI L i d).length = L.length := by
  unfold bumpI
  split <;> simp
theorem bumpI_at {L : List Int} {i : Nat} {v : Int} (h : L[i]? = some v) (d : Int) : bumpI L i d = L.set i (v + d) := by unfold bumpI; rw [h]
theorem bumpI_bd {L : List Int} {B d : Int} (h : bdL L B) (i : Nat) (hd : 0 ≤ d ∧ d ≤ 2251799813685250) : bdL (bumpI L i d) (B + 2251799813685250) := by
  unfold bumpI
  intro x hx
  split at hx
  · rename_i v hv
    rcases List.mem_or_eq_of_mem_set hx with h1 | h1
    · have := h x h1; omega
    · have := h v (List.mem_iff_getElem?.2 ⟨i, hv⟩); omega
  · have := h x hx; omega
theorem slopeStep_len (L : List Int) (x : Lnk) : (slopeStep L x).length = L.length := by
  unfold slopeStep
  simp only []
  split
  · rw [bumpI_len, bumpI_len]
  · rw [bumpI_len]
theorem slopeStep_bd {L : List Int} {B : Int} (h : bdL L B) (x : Lnk) : bdL (slopeStep L x) (B + 4503599627370500) := by
  unfold slopeStep
  simp only []
  have h1 := bumpI_bd h x.frm.toNat (hereI_bd x)
  split
  · have h2 := bumpI_bd h1 x.to.toNat (thereI_bd x)
    intro y hy
    have := h2 y hy
    omega
  · intro y hy
    have := h1 y hy
    omega
def slopesK (b : Bas) (k : Nat) : List Int := (b.lk.l.take k).foldl slopeStep (b.pl.l.map fun p => slopeI p.num p.den)
theorem slopesK_succ {b : Bas} {k : Nat} {x : Lnk} (h : b.lk.l[k]? = some x) : slopesK b (k + 1) = slopeStep (slopesK b k) x := by
  unfold slopesK
  have hl := (List.getElem?_eq_some_iff.1 h).1
  rw [List.take_succ_eq_append_getElem hl, (List.getElem?_eq_some_iff.1 h).2, List.foldl_append]
  rfl
theorem slopesK_len (b : Bas) : ∀ k, (slopesK b k).length = b.pl.l.length
  | 0 => by unfold slopesK; simp
  | k + 1 => by
    cases h : b.lk.l[k]? with
    | none =>
      have ih := slopesK_len b k
      have hl : b.lk.l.length ≤ k := List.getElem?_eq_none_iff.1 h
      unfold slopesK at ih ⊢
      rw [List.take_of_length_le (by omega)]
      rw [List.take_of_length_le hl] at ih
      exact ih
    | some x => rw [slopesK_succ h, slopeStep_len, slopesK_len b k]
theorem slopesK_bd (b : Bas) : ∀ k : Nat, bdL (slopesK b k) (1125899906842625 + (k : Int) * 4503599627370500)
  | 0 => by
    intro x hx
    unfold slopesK at hx
    simp only [List.take_zero, List.foldl_nil] at hx
    obtain ⟨p, _, rfl⟩ := List.mem_map.1 hx
    have := slopeI_bd p.num p.den
    omega
  | k + 1 => by
    cases h : b.lk.l[k]? with
    | none =>
      have ih := slopesK_bd b k
      have hl : b.lk.l.length ≤ k := List.getElem?_eq_none_iff.1 h
      unfold slopesK at ih ⊢
      rw [List.take_of_length_le (by omega)]
      rw [List.take_of_length_le hl] at ih
      intro x hx
      have := ih x hx
      omega
    | some x =>
      rw [slopesK_succ h]
      intro y hy
      have := slopeStep_bd (slopesK_bd b k) x y hy
      omega
theorem set_map {α : Type} {f : α → Int} {l : List α} {L : List Int} {k : Nat} {x : α} (hx : l[k]? = some x) (hL : L.length = l.length) (h : ∀ j, j < k → L[j]? = (l[j]?).map f) : (∀ j, j < k + 1 → (L.set k (f x))[j]? = (l[j]?).map f) := by
  intro j hj
  have hk := (List.getElem?_eq_some_iff.1 hx).1
  rw [List.getElem?_set]
  by_cases hjk : k = j
  · subst hjk
    rw [if_pos rfl, if_pos (by rw [hL]; exact hk), hx]
    rfl
  · rw [if_neg hjk]
    exact h j (by omega)
theorem end_map {α : Type} {f : α → Int} {l : List α} {L : List Int} (hL : L.length = l.length) (h : ∀ j, j < l.length → L[j]? = (l[j]?).map f) : L = l.map f := by
  apply List.ext_getElem?
  intro j
  by_cases hj : j < l.length
  · rw [h j hj, List.getElem?_map]
  · rw [List.getElem?_eq_none (by omega), List.getElem?_eq_none (by simp; omega)]

set_option maxRecDepth 100000 in
set_option maxHeartbeats 4000000 in
theorem slopes_any (b : Bas) (w w0 : World) (B : Nat) (hM : MBas w0 B b) (hw : Below B w0 w) (hB : B ≤ w.heap.size) (hn : b.pl.n ≤ 64) (hm : b.lk.n ≤ 96)
    (hlk : ∀ x ∈ b.lk.l, 0 ≤ x.frm ∧ x.frm < (b.pl.n : Int) ∧ (x.to = -1 ∨ (0 ≤ x.to ∧ x.to < (b.pl.n : Int)))) :
    Calls Try.prog 22 #[.agg #[.string b.nm, .slice b.ow.a b.ow.n b.ow.c, .int .i64 b.cells, .slice b.pl.a b.pl.n b.pl.c, .slice b.lk.a b.lk.n b.lk.c, .slice b.tw.a b.tw.n b.tw.c, .slice b.gg.a b.gg.n b.gg.c, .slice b.rd.a b.rd.n b.rd.c, .slice b.sh.a b.sh.n b.sh.c, .slice b.room.a b.room.n b.room.c, .int .i64 b.err]] w fun e w' => ∃ s : SlR Int, e = .returned (.slice s.a s.n s.c) ∧ s.l = slopesL b ∧ SlR.Mem (Rw intC mem0) 1 w' w'.heap.size s ∧ Below w.heap.size w w' := by
  obtain ⟨mo, mp, ml, m4, m5, m6, m7, m8⟩ := hM
  clear mo m4 m5 m6 m7 m8
  have HMP := Lib.hid mp
  have HML := Lib.hid ml
  have HHW := Lib.hid hw
  have HLK := Lib.hid hlk
  obtain ⟨PA, hPA⟩ : ∃ z, b.pl.a = z := ⟨_, rfl⟩
  obtain ⟨LA, hLA⟩ : ∃ z, b.lk.a = z := ⟨_, rfl⟩
  obtain ⟨n, hnn⟩ : ∃ z, b.pl.n = z := ⟨_, rfl⟩
  obtain ⟨m, hmm⟩ : ∃ z, b.lk.n = z := ⟨_, rfl⟩
  rw [hPA, hLA, hnn, hmm]
  rw [hnn] at hn HLK
  rw [hmm] at hm
  have HPA := Lib.hid hPA
  have HLA := Lib.hid hLA
  have HNN := Lib.hid hnn
  have HMM := Lib.hid hmm
  obtain ⟨W1, hW1⟩ : ∃ z, z = w.alloc (.cells #[.string b.nm, .slice b.ow.a b.ow.n b.ow.c, .int .i64 b.cells, .slice PA n b.pl.c, .slice LA m b.lk.c, .slice b.tw.a b.tw.n b.tw.c, .slice b.gg.a b.gg.n b.gg.c, .slice b.rd.a b.rd.n b.rd.c, .slice b.sh.a b.sh.n b.sh.c, .slice b.room.a b.room.n b.room.c, .int .i64 b.err] 31) := ⟨_, rfl⟩
  have hz1 : W1.heap.size = w.heap.size + 1 := by rw [hW1]; simp
  have k1 : Bk W1 w.heap.size 31 #[.string b.nm, .slice b.ow.a b.ow.n b.ow.c, .int .i64 b.cells, .slice PA n b.pl.c, .slice LA m b.lk.c, .slice b.tw.a b.tw.n b.tw.c, .slice b.gg.a b.gg.n b.gg.c, .slice b.rd.a b.rd.n b.rd.c, .slice b.sh.a b.sh.n b.sh.c, .slice b.room.a b.room.n b.room.c, .int .i64 b.err] := by rw [hW1]; exact Bk.new w _ _
  have hb1 : Below w.heap.size w W1 := by rw [hW1]; exact (Below.refl _ _).alloc (Nat.le_refl _) _
  obtain ⟨W2, hW2⟩ : ∃ z, z = W1.alloc (.cells (vals (List.replicate n 0)) 3) := ⟨_, rfl⟩
  have hz2 : W2.heap.size = w.heap.size + 2 := by rw [hW2]; simp [hz1]
  have k2 : Bk W2 w.heap.size 31 #[.string b.nm, .slice b.ow.a b.ow.n b.ow.c, .int .i64 b.cells, .slice PA n b.pl.c, .slice LA m b.lk.c, .slice b.tw.a b.tw.n b.tw.c, .slice b.gg.a b.gg.n b.gg.c, .slice b.rd.a b.rd.n b.rd.c, .slice b.sh.a b.sh.n b.sh.c, .slice b.room.a b.room.n b.room.c, .int .i64 b.err] := by rw [hW2]; exact k1.alloc _
  have kg : Bk W2 (w.heap.size + 1) 3 (vals (List.replicate n 0)) := by rw [hW2, ← hz1]; exact Bk.new W1 _ _
  have hb2 : Below w.heap.size w W2 := by rw [hW2]; exact hb1.alloc (by omega) _
  have hmk := run_make_ints n (by omega) W1
  rw [← hW2] at hmk
  obtain ⟨g, hg⟩ : ∃ z, W1.heap.size = z := ⟨_, rfl⟩
  rw [hg] at hmk hz1
  rw [← hz1] at kg
  have HB2 := Lib.hid hb2
  have HKG := Lib.hid kg
  have HZ2 := Lib.hid hz2
  have HZ1 := Lib.hid hz1
  have FB := Lib.hid (show ∀ W, Below g W2 W → (∀ j, W.cell? ⟨w.heap.size, j, none⟩ = (#[.string b.nm, .slice b.ow.a b.ow.n b.ow.c, .int .i64 b.cells, .slice PA n b.pl.c, .slice LA m b.lk.c, .slice b.tw.a b.tw.n b.tw.c, .slice b.gg.a b.gg.n b.gg.c, .slice b.rd.a b.rd.n b.rd.c, .slice b.sh.a b.sh.n b.sh.c, .slice b.room.a b.room.n b.room.c, .int .i64 b.err] : Array Value)[j]?) from fun W hW => (k2.below hW (by omega)).cell)
  have c1 := k1.cell
  have HW1 := Lib.hid hW1
  have HGW := Lib.hid (show w.heap.size ≤ g ∧ W2.heap.size = g + 1 by omega)
  clear mp ml hw hlk hPA hLA hnn hmm hW1 hW2 hb1 hb2 k1 k2 kg hz1 hz2 hg
  go_enter Try.func22, Try.ntmps22
  go_upto_region 1 with fail
  rw [← HW1.out]
  have c2 := FB.out W2 (Below.refl _ _)
  go_wp2_with fail
  clear hmk c1
  go_loopw [17] (fun ix wr => ∃ (k : Nat) (L : List Int), k ≤ n ∧ ix = .int .i64 (k : Int) ∧ Hid (Bk wr g 3 (vals L) ∧ L.length = n ∧ ∀ j, j < k → L[j]? = (b.pl.l[j]?).map fun p => slopeI p.num p.den) ∧ Below g W2 wr ∧ g < wr.heap.size) (fun ix _ => n - (intOf ix).toNat)
  case atStart => exact ⟨0, List.replicate n 0, by omega, rfl, Lib.hid ⟨HKG.out, by simp, fun j h => absurd h (Nat.not_lt_zero _)⟩, Below.refl _ _, HKG.out.lt⟩
  case round =>
    clear c2
    obtain ⟨k, L, hk, rfl, HL, hbr, hgs⟩ := hrel
    have HB := Lib.hid hbr
    have hsz := hbr.size
    clear hbr
    by_cases hlt : k < n
    · have hk0 : (0 : Int) ≤ (k : Int) := by omega
      have hki : (k : Int) < (n : Int) := by omega
      obtain ⟨pb, po, p, hpa, hpb, hx, _, hc⟩ := HMP.out.at_ (k := k) (by rw [HNN.out]; exact hlt)
      obtain rfl : PA = some ⟨pb, po, none⟩ := HPA.out.symm.trans hpa
      have hbw := HHW.out.trans ((HB2.out.trans (HB.out.mono HGW.out.1)).mono hB)
      have HC := Lib.hid (show ∀ (j : Nat) (v : Value), #[.string p.nm, .int .i64 p.kind, .int .i64 p.office, .int .i64 p.cap, .slice p.lv.a p.lv.n p.lv.c, .slice p.st.a p.st.n p.st.c, .int .i64 p.num, .int .i64 p.den, .int .i64 p.down, .int .i64 p.delay, .int .i64 p.floor, .slice p.rn.a p.rn.n p.rn.c].toList[j]? = some v → wr.cell? ((⟨pb, po + k * 12, none⟩ : Addr).add j) = some v from fun j v hv => by
        rw [Go.WideShapes.add_plain]
        exact hc _ hbw j v hv)
      have HX := Lib.hid hx
      have hkw : IntKind.i64.wrap (k : Int) = (k : Int) := wrapI_id (by omega) (by omega)
      clear hpa hx hc hbw
      go_wp2_with (first | refine wpList_load_cells rfl 70 _ rfl ⟨pb, po + k * 12, none⟩ rfl #[.string p.nm, .int .i64 p.kind, .int .i64 p.office, .int .i64 p.cap, .slice p.lv.a p.lv.n p.lv.c, .slice p.st.a p.st.n p.st.c, .int .i64 p.num, .int .i64 p.den, .int .i64 p.down, .int .i64 p.delay, .int .i64 p.floor, .slice p.rn.a p.rn.n p.rn.c] HC.out _ Try.underlying70 rfl (by kernel_rfl) ?_ | refine wpList_store_rowC rfl 70 _ _ rfl wr.heap.size rfl #[.string p.nm, .int .i64 p.kind, .int .i64 p.office, .int .i64 p.cap, .slice p.lv.a p.lv.n p.lv.c, .slice p.st.a p.st.n p.st.c, .int .i64 p.num, .int .i64 p.den, .int .i64 p.down, .int .i64 p.delay, .int .i64 p.floor, .slice p.rn.a p.rn.n p.rn.c] rfl 70 _ (Bk.new wr _ _) (by kernel_rfl) (by kernel_rfl) (by kernel_rfl) ?_)
      intro W3 HK3 HG3
      have HB3 := Lib.hid ((HB.out.alloc (by omega) _).grown HG3.out (by simp; omega) (fun j hj => by injection hj with hj; omega))
      have HL3 := Lib.hid (show Bk W3 g 3 (vals L) from (HL.out.1.alloc _).grown HG3.out (fun h => by injection h with h; omega))
      obtain ⟨h, hh⟩ : ∃ z, wr.heap.size = z := ⟨_, rfl⟩
      rw [hh] at HK3 hgs ⊢
      have c3 := HK3.out.cell
      have HH3 := Lib.hid HK3.out.lt
      have CS := Lib.hid (slope_any p.num p.den W3)
      obtain ⟨sv, hsv⟩ : ∃ z, slopeI p.num p.den = z := ⟨_, rfl⟩
      rw [hsv] at CS
      have HSV := Lib.hid hsv
      clear HK3 HG3 hh HC hsv
      go_wp2_with fail
      refine CS.out.mono ?_
      rintro e W4 ⟨rfl, hb4⟩
      have HB4 := Lib.hid (HB3.out.trans (hb4.mono (by have := HB3.out.size; have := HGW.out.2; omega)))
      have hkg := HL3.out.below hb4 HL3.out.lt
      have HKG4 := Lib.hid hkg
      have HLL := Lib.hid HL.out.2
      have cg := hkg.cell
      have fg := hkg.frozen
      obtain ⟨old, hold⟩ : ∃ z, L[k]? = some z := ⟨L[k]'(by rw [HL.out.2.1]; exact hlt), List.getElem?_eq_getElem _⟩
      have cgk : W4.cell? ⟨g, k, none⟩ = some (.int .i64 old) := (cg k).trans (vals_get hold)
      clear hb4 hkg c3 cg
      go_wp2_with fail
      go_roundw
      case rel =>
        refine ⟨k + 1, L.set k sv, by omega, by go_num, Lib.hid ⟨by rw [← vals_set]; exact HKG4.out.set_ k _, by rw [List.length_set]; exact HLL.out.1, by rw [← HSV.out]; exact set_map HX.out (by rw [HLL.out.1, HMP.out.len, HNN.out]) HLL.out.2⟩, HB4.out.setCell (p := ⟨g, k, none⟩) (Nat.le_refl _) _, ?_⟩
        have := HKG4.out.lt
        simp
        exact this
      case measure => simp [intOf]; omega
    · obtain rfl : k = n := by omega
      obtain ⟨n, rfl⟩ : ∃ n, n = k := ⟨k, rfl⟩
      have HL0 := Lib.hid (show L = slopesK b 0 from end_map (by rw [HL.out.2.1, HMP.out.len, HNN.out]) (fun j hj => HL.out.2.2 j (by rw [HMP.out.len, HNN.out] at hj; exact hj)))
      have HKGR := Lib.hid HL.out.1
      have c2 := FB.out wr HB.out
      go_wp2_with fail
      clear c2
      obtain ⟨wo, hwo⟩ : ∃ wo : World, wo = wr := ⟨_, rfl⟩
      rw [← hwo] at HKGR HB hgs ⊢
      clear HL hwo hsz
      go_loopw [34] (fun ix wr => ∃ (k : Nat), k ≤ m ∧ ix = .int .i64 (k : Int) ∧ Hid (Bk wr g 3 (vals (slopesK b k))) ∧ Below g W2 wr ∧ g < wr.heap.size) (fun ix _ => m - (intOf ix).toNat)
      case atStart => exact ⟨0, by omega, rfl, Lib.hid (by rw [← HL0.out]; exact HKGR.out), HB.out, hgs⟩
      case round =>
        clear HKGR HL0 HB hgs
        obtain ⟨q, hq, rfl, HL, hbr, hgs⟩ := hrel
        have HB := Lib.hid hbr
        have hsz := hbr.size
        clear hbr
        by_cases hlq : q < m
        · have hq0 : (0 : Int) ≤ (q : Int) := by omega
          have hqi : (q : Int) < (m : Int) := by omega
          obtain ⟨pb, po, x, hpa, hpb, hx, hmx, hc⟩ := HML.out.at_ (k := q) (by rw [HMM.out]; exact hlq)
          obtain rfl : LA = some ⟨pb, po, none⟩ := HLA.out.symm.trans hpa
          have hbw := HHW.out.trans ((HB2.out.trans (HB.out.mono HGW.out.1)).mono hB)
          have HC := Lib.hid (show ∀ (j : Nat) (v : Value), #[.string x.nm, .int .i64 x.kind, .int .i64 x.frm, .int .i64 x.to, .slice x.rate.a x.rate.n x.rate.c, .slice x.band.lo.a x.band.lo.n x.band.lo.c, .slice x.band.hi.a x.band.hi.n x.band.hi.c, .int .i64 x.pos, .int .i64 x.speed, .int .i64 x.leak, .int .i64 x.crest, .int .i64 x.num, .int .i64 x.den, .int .i64 x.prime, .int .i64 x.brk, .int .i64 x.bnum, .int .i64 x.bden, .int .i64 x.delay].toList[j]? = some v → wr.cell? ((⟨pb, po + q * 18, none⟩ : Addr).add j) = some v from fun j v hv => by
            rw [Go.WideShapes.add_plain]
            exact hc _ hbw j v hv)
          have HX := Lib.hid hx
          have HMX := Lib.hid hmx
          obtain ⟨hf0, hf1, hto⟩ := HLK.out x (List.mem_iff_getElem?.2 ⟨q, hx⟩)
          have hqw : IntKind.i64.wrap (q : Int) = (q : Int) := wrapI_id (by omega) (by omega)
          clear hpa hx hc hbw hmx
          go_wp2_with (first | refine wpList_load_cells rfl 79 _ rfl ⟨pb, po + q * 18, none⟩ rfl #[.string x.nm, .int .i64 x.kind, .int .i64 x.frm, .int .i64 x.to, .slice x.rate.a x.rate.n x.rate.c, .slice x.band.lo.a x.band.lo.n x.band.lo.c, .slice x.band.hi.a x.band.hi.n x.band.hi.c, .int .i64 x.pos, .int .i64 x.speed, .int .i64 x.leak, .int .i64 x.crest, .int .i64 x.num, .int .i64 x.den, .int .i64 x.prime, .int .i64 x.brk, .int .i64 x.bnum, .int .i64 x.bden, .int .i64 x.delay] HC.out _ Try.underlying79 rfl (by kernel_rfl) ?_ | refine wpList_store_rowC rfl 79 _ _ rfl wr.heap.size rfl #[.string x.nm, .int .i64 x.kind, .int .i64 x.frm, .int .i64 x.to, .slice x.rate.a x.rate.n x.rate.c, .slice x.band.lo.a x.band.lo.n x.band.lo.c, .slice x.band.hi.a x.band.hi.n x.band.hi.c, .int .i64 x.pos, .int .i64 x.speed, .int .i64 x.leak, .int .i64 x.crest, .int .i64 x.num, .int .i64 x.den, .int .i64 x.prime, .int .i64 x.brk, .int .i64 x.bnum, .int .i64 x.bden, .int .i64 x.delay] rfl 79 _ (Bk.new wr _ _) (by kernel_rfl) (by kernel_rfl) (by kernel_rfl) ?_)
          intro W3 HK3 HG3
          have HB3 := Lib.hid ((HB.out.alloc (by omega) _).grown HG3.out (by simp; omega) (fun j hj => by injection hj with hj; omega))
          have HL3 := Lib.hid (show Bk W3 g 3 (vals (slopesK b q)) from (HL.out.alloc _).grown HG3.out (fun h => by injection h with h; omega))
          obtain ⟨h, hh⟩ : ∃ z, wr.heap.size = z := ⟨_, rfl⟩
          rw [hh] at HK3 hgs ⊢
          have HS := Lib.hid (show ∀ W, Below W3.heap.size W3 W → (∀ j, W.cell? ⟨h, j, none⟩ = (#[.string x.nm, .int .i64 x.kind, .int .i64 x.frm, .int .i64 x.to, .slice x.rate.a x.rate.n x.rate.c, .slice x.band.lo.a x.band.lo.n x.band.lo.c, .slice x.band.hi.a x.band.hi.n x.band.hi.c, .int .i64 x.pos, .int .i64 x.speed, .int .i64 x.leak, .int .i64 x.crest, .int .i64 x.num, .int .i64 x.den, .int .i64 x.prime, .int .i64 x.brk, .int .i64 x.bnum, .int .i64 x.bden, .int .i64 x.delay] : Array Value)[j]?) ∧ Below W3.heap.size W3 W from fun W hW => ⟨(HK3.out.below hW HK3.out.lt).cell, hW⟩)
          have HKL := Lib.hid (show ∀ W, Below W3.heap.size W3 W → Bk W h 79 #[.string x.nm, .int .i64 x.kind, .int .i64 x.frm, .int .i64 x.to, .slice x.rate.a x.rate.n x.rate.c, .slice x.band.lo.a x.band.lo.n x.band.lo.c, .slice x.band.hi.a x.band.hi.n x.band.hi.c, .int .i64 x.pos, .int .i64 x.speed, .int .i64 x.leak, .int .i64 x.crest, .int .i64 x.num, .int .i64 x.den, .int .i64 x.prime, .int .i64 x.brk, .int .i64 x.bnum, .int .i64 x.bden, .int .i64 x.delay] ∧ Bk W g 3 (vals (slopesK b q)) ∧ Below g W2 W ∧ Below B w0 W from fun W hW => ⟨HK3.out.below hW HK3.out.lt, HL3.out.below hW HL3.out.lt, HB3.out.trans (hW.mono (Nat.le_of_lt HL3.out.lt)), HHW.out.trans ((HB2.out.trans ((HB3.out.trans (hW.mono (Nat.le_of_lt HL3.out.lt))).mono HGW.out.1)).mono hB)⟩)
          have hhg : h ≠ g := by omega
          have HHG := Lib.hid (show g < W3.heap.size from HL3.out.lt)
          have HBB := Lib.hid (show B ≤ W3.heap.size from Nat.le_trans hB (Nat.le_trans HGW.out.1 (Nat.le_of_lt HL3.out.lt)))
          clear HK3 HG3 hh HC HL3
          obtain ⟨s1, hs1⟩ : ∃ z, slopeI x.num x.den = z := ⟨_, rfl⟩
          obtain ⟨s2, hs2⟩ : ∃ z, slopeI x.bnum x.bden = z := ⟨_, rfl⟩
          have bs1 := slopeI_bd x.num x.den
          have bs2 := slopeI_bd x.bnum x.bden
          rw [hs1] at bs1
          rw [hs2] at bs2
          have C1 := Lib.hid (slope_any x.num x.den)
          have C2 := Lib.hid (slope_any x.bnum x.bden)
          rw [hs1] at C1
          rw [hs2] at C2
          have HS1 := Lib.hid hs1
          have HS2 := Lib.hid hs2
          have HBS := Lib.hid (And.intro bs1 bs2)
          clear hs1 hs2 bs1 bs2
          go_wp2_with fail
          refine wp_region_M [0, 1, 2, 3, 5, 6, 7, 8, 4, 9, 10, 11] [4, 9] (fun W => (∀ j, W.cell? ⟨h, j, none⟩ = (#[.string x.nm, .int .i64 x.kind, .int .i64 x.frm, .int .i64 x.to, .slice x.rate.a x.rate.n x.rate.c, .slice x.band.lo.a x.band.lo.n x.band.lo.c, .slice x.band.hi.a x.band.hi.n x.band.hi.c, .int .i64 x.pos, .int .i64 x.speed, .int .i64 x.leak, .int .i64 x.crest, .int .i64 x.num, .int .i64 x.den, .int .i64 x.prime, .int .i64 x.brk, .int .i64 x.bnum, .int .i64 x.bden, .int .i64 x.delay] : Array Value)[j]?) ∧ Below W3.heap.size W3 W) (by kernel_rfl) (by kernel_rfl) (HS.out _ (Below.refl _ _).drew) ?_
          iterate 8 (refine M_pure (by rfl) (by rfl) ?_; apply Exists.intro; apply And.intro; (case left => (intro w hSw; (try dsimp only at hSw); go_simp; try with_reducible rfl)); (try simp only [Act.put, List.setIfInBounds_toArray, List.set_cons_zero, List.set_cons_succ]))
          (refine M_call (by rfl) (by rfl) ?_; apply Exists.intro; apply Exists.intro; apply And.intro; (case left => (go_simp; first | (refine ⟨?_, ?_⟩ <;> with_reducible rfl) | rfl)))
          refine (C1.out _).mono ?_
          rintro e W4 ⟨rfl, hb4⟩
          have H4x := Lib.hid (show Below W3.heap.size W3 W4 from ((Below.refl W3.heap.size W3).drew).trans (hb4.mono ((Below.refl W3.heap.size W3).drew).size))
          clear hb4
          refine ⟨_, rfl, HS.out W4 H4x.out, ?_⟩
          (try simp only [Act.put, List.setIfInBounds_toArray, List.set_cons_zero, List.set_cons_succ])
          (refine M_call (by rfl) (by rfl) ?_; apply Exists.intro; apply Exists.intro; apply And.intro; (case left => (go_simp; first | (refine ⟨?_, ?_⟩ <;> with_reducible rfl) | rfl)))
          refine (C2.out _).mono ?_
          rintro e W5 ⟨rfl, hb5⟩
          have H5x := Lib.hid (show Below W3.heap.size W3 W5 from (H4x.out).trans (hb5.mono (H4x.out).size))
          clear hb5
          refine ⟨_, rfl, HS.out W5 H5x.out, ?_⟩
          (try simp only [Act.put, List.setIfInBounds_toArray, List.set_cons_zero, List.set_cons_succ])
          iterate 2 (refine M_pure (by rfl) (by rfl) ?_; apply Exists.intro; apply And.intro; (case left => (intro w hSw; (try dsimp only at hSw); go_simp; try with_reducible rfl)); (try simp only [Act.put, List.setIfInBounds_toArray, List.set_cons_zero, List.set_cons_succ]))
          refine M_nil ?_
          try dsimp only
          have HB5 := Lib.hid H5x.out
          clear H4x H5x
          obtain ⟨c3, _⟩ := HS.out W5 HB5.out
          go_upto_block 4 with fail
          go_cut [8, 9] from 35 to 89 (fun s8 s9 wx => s8 = .int .i64 (hereI x) ∧ s9 = .int .i64 (thereI x) ∧ Below W3.heap.size W3 wx)
          case first =>
            by_cases hk0 : x.kind = 0
            · have b0 : (x.kind == 0) = true := by simp [hk0]
              have HH := Lib.hid (show hereI x = max (max (steepI x.rate.l) (steepI x.band.lo.l)) (steepI x.band.hi.l) by unfold hereI; rw [if_pos hk0])
              have HTH := Lib.hid (show thereI x = s2 by unfold thereI; rw [if_neg (by omega), HS2.out])
              obtain ⟨e1, he1⟩ : ∃ z, steepI x.rate.l = z := ⟨_, rfl⟩
              obtain ⟨e2, he2⟩ : ∃ z, steepI x.band.lo.l = z := ⟨_, rfl⟩
              obtain ⟨e3, he3⟩ : ∃ z, steepI x.band.hi.l = z := ⟨_, rfl⟩
              have D1 := Lib.hid (fun W (hW : Below W3.heap.size W3 W) => steepest_any x.rate W w0 B HMX.out.1 (HKL.out W hW).2.2.2 (Nat.le_trans HBB.out hW.size))
              have D2 := Lib.hid (fun W (hW : Below W3.heap.size W3 W) => steepest_any x.band.lo W w0 B HMX.out.2.1 (HKL.out W hW).2.2.2 (Nat.le_trans HBB.out hW.size))
              have D3 := Lib.hid (fun W (hW : Below W3.heap.size W3 W) => steepest_any x.band.hi W w0 B HMX.out.2.2 (HKL.out W hW).2.2.2 (Nat.le_trans HBB.out hW.size))
              rw [he1] at D1
              rw [he2] at D2
              rw [he3] at D3
              rw [he1, he2, he3] at HH
              clear hk0 he1 he2 he3
              go_wp2_with fail
              refine wp_region_M [0, 1, 3, 4, 5, 7, 8, 9, 2, 6, 10, 11, 12] [2, 6, 10] (fun W => (∀ j, W.cell? ⟨h, j, none⟩ = (#[.string x.nm, .int .i64 x.kind, .int .i64 x.frm, .int .i64 x.to, .slice x.rate.a x.rate.n x.rate.c, .slice x.band.lo.a x.band.lo.n x.band.lo.c, .slice x.band.hi.a x.band.hi.n x.band.hi.c, .int .i64 x.pos, .int .i64 x.speed, .int .i64 x.leak, .int .i64 x.crest, .int .i64 x.num, .int .i64 x.den, .int .i64 x.prime, .int .i64 x.brk, .int .i64 x.bnum, .int .i64 x.bden, .int .i64 x.delay] : Array Value)[j]?) ∧ Below W3.heap.size W3 W) (by kernel_rfl) (by kernel_rfl) (HS.out _ HB5.out.drew) ?_
              iterate 8 (refine M_pure (by rfl) (by rfl) ?_; apply Exists.intro; apply And.intro; (case left => (intro w hSw; (try dsimp only at hSw); go_simp; try with_reducible rfl)); (try simp only [Act.put, List.setIfInBounds_toArray, List.set_cons_zero, List.set_cons_succ]))
              (refine M_call (by rfl) (by rfl) ?_; apply Exists.intro; apply Exists.intro; apply And.intro; (case left => (go_simp; first | (refine ⟨?_, ?_⟩ <;> with_reducible rfl) | rfl)))
              refine (D1.out _ HB5.out.drew).mono ?_
              rintro e W6 ⟨rfl, hb6⟩
              have H6x := Lib.hid (show Below W3.heap.size W3 W6 from (HB5.out.drew).trans (hb6.mono (HB5.out.drew).size))
              clear hb6
              refine ⟨_, rfl, HS.out W6 H6x.out, ?_⟩
              (try simp only [Act.put, List.setIfInBounds_toArray, List.set_cons_zero, List.set_cons_succ])
              (refine M_call (by rfl) (by rfl) ?_; apply Exists.intro; apply Exists.intro; apply And.intro; (case left => (go_simp; first | (refine ⟨?_, ?_⟩ <;> with_reducible rfl) | rfl)))
              refine (D2.out _ H6x.out).mono ?_
              rintro e W7 ⟨rfl, hb7⟩
              have H7x := Lib.hid (show Below W3.heap.size W3 W7 from (H6x.out).trans (hb7.mono (H6x.out).size))
              clear hb7
              refine ⟨_, rfl, HS.out W7 H7x.out, ?_⟩
              (try simp only [Act.put, List.setIfInBounds_toArray, List.set_cons_zero, List.set_cons_succ])
              (refine M_call (by rfl) (by rfl) ?_; apply Exists.intro; apply Exists.intro; apply And.intro; (case left => (go_simp; first | (refine ⟨?_, ?_⟩ <;> with_reducible rfl) | rfl)))
              refine (D3.out _ H7x.out).mono ?_
              rintro e W8 ⟨rfl, hb8⟩
              have H8x := Lib.hid (show Below W3.heap.size W3 W8 from (H7x.out).trans (hb8.mono (H7x.out).size))
              clear hb8
              refine ⟨_, rfl, HS.out W8 H8x.out, ?_⟩
              (try simp only [Act.put, List.setIfInBounds_toArray, List.set_cons_zero, List.set_cons_succ])
              iterate 2 (refine M_pure (by rfl) (by rfl) ?_; apply Exists.intro; apply And.intro; (case left => (intro w hSw; (try dsimp only at hSw); go_simp; try with_reducible rfl)); (try simp only [Act.put, List.setIfInBounds_toArray, List.set_cons_zero, List.set_cons_succ]))
              refine M_nil ?_
              try dsimp only
              have HB8 := Lib.hid H8x.out
              go_wp2_with fail
              all_goals
                go_meet
                case rel =>
                  refine ⟨?_, by rw [HTH.out], HB8.out⟩
                  rw [HH.out]
                  congr 1
                  omega
            by_cases hk4 : x.kind = 4
            · have b0 : (x.kind == 0) = false := by simp [hk0]
              have b4 : (x.kind == 4) = true := by simp [hk4]
              obtain ⟨z1, hz1⟩ : ∃ z, 2 * s1 = z := ⟨_, rfl⟩
              obtain ⟨z2, hz2⟩ : ∃ z, 2 * s2 = z := ⟨_, rfl⟩
              have HH := Lib.hid (show hereI x = z1 by unfold hereI; rw [if_neg hk0, if_pos hk4, HS1.out, hz1])
              have HTH := Lib.hid (show thereI x = z2 by unfold thereI; rw [if_pos hk4, HS2.out, hz2])
              have bb := HBS.out
              have w1 : IntKind.i64.wrap (2 * s1) = z1 := by rw [wrapI_id (by omega) (by omega), hz1]
              have w2 : IntKind.i64.wrap (2 * s2) = z2 := by rw [wrapI_id (by omega) (by omega), hz2]
              have w3 : wrap64 (2 * s1) = z1 := by rw [wrap64_id (by omega) (by omega), hz1]
              have w4 : wrap64 (2 * s2) = z2 := by rw [wrap64_id (by omega) (by omega), hz2]
              clear hk0 hk4 hz1 hz2 bb
              go_wp2_with fail
              go_meet
              case rel => exact ⟨by rw [HH.out], by rw [HTH.out], HB5.out⟩
            · have b0 : (x.kind == 0) = false := by simp [hk0]
              have b4 : (x.kind == 4) = false := by simp [hk4]
              have HH := Lib.hid (show hereI x = s1 by unfold hereI; rw [if_neg hk0, if_neg hk4, HS1.out])
              have HTH := Lib.hid (show thereI x = s2 by unfold thereI; rw [if_neg hk4, HS2.out])
              clear hk0 hk4
              go_wp2_with fail
              go_meet
              case rel => exact ⟨by rw [HH.out], by rw [HTH.out], HB5.out⟩
          case rest =>
            clear c3
            obtain ⟨rfl, rfl, hbc⟩ := hcut
            obtain ⟨kl, kg, hb2c, _⟩ := HKL.out wc hbc
            obtain ⟨f, hf⟩ : ∃ f : Nat, x.frm = (f : Int) := ⟨x.frm.toNat, by omega⟩
            have hfn : f < n := by omega
            obtain ⟨hr, hhr⟩ : ∃ z, hereI x = z := ⟨_, rfl⟩
            obtain ⟨th, hth⟩ : ∃ z, thereI x = z := ⟨_, rfl⟩
            have bhr := hereI_bd x
            have bth := thereI_bd x
            rw [hhr] at bhr
            rw [hth] at bth
            rw [hhr, hth]
            have hlen := slopesK_len b q
            rw [HMP.out.len, HNN.out] at hlen
            have hbd := slopesK_bd b q
            obtain ⟨v, hv⟩ : ∃ z, (slopesK b q)[f]? = some z := ⟨_, List.getElem?_eq_getElem (by omega)⟩
            have bv := hbd v (List.mem_iff_getElem?.2 ⟨f, hv⟩)
            have hbump := bumpI_at hv hr
            obtain ⟨z1, hz1⟩ : ∃ z, v + hr = z := ⟨_, rfl⟩
            rw [hz1] at hbump
            have w1 : IntKind.i64.wrap (v + hr) = z1 := by rw [wrapI_id (by omega) (by omega), hz1]
            have w1' : wrap64 (v + hr) = z1 := by rw [wrap64_id (by omega) (by omega), hz1]
            have cgf : wc.cell? ⟨g, f, none⟩ = some (.int .i64 v) := (kg.cell f).trans (vals_get hv)
            have fgf : wc.frozen? ⟨g, f, none⟩ = false := kg.frozen f
            have cl : ∀ j, wc.cell? ⟨h, j, none⟩ = _ := kl.cell
            have kg5 : Bk (wc.setCell ⟨g, f, none⟩ (.int .i64 z1)) g 3 (vals (bumpI (slopesK b q) f hr)) := by rw [hbump, ← vals_set]; exact kg.set_ f _
            have cl5 : ∀ j, (wc.setCell ⟨g, f, none⟩ (.int .i64 z1)).cell? ⟨h, j, none⟩ = _ := (kl.far (p := ⟨g, f, none⟩) hhg _).cell
            have hf0' : (0 : Int) ≤ (f : Int) := by omega
            have hfn' : (f : Int) < (n : Int) := by omega
            have hfw : IntKind.i64.wrap (f : Int) = (f : Int) := wrapI_id (by omega) (by omega)
            have HB5 := Lib.hid (show Below g W2 (wc.setCell ⟨g, f, none⟩ (.int .i64 z1)) from hb2c.setCell (p := ⟨g, f, none⟩) (Nat.le_refl _) _)
            have HK5 := Lib.hid kg5
            have HZ := Lib.hid (show g < wc.heap.size from Nat.lt_of_lt_of_le HHG.out hbc.size)
            have bd1 := bumpI_bd hbd f bhr
            rcases hto with hto | ⟨ht0, htn⟩
            · have HST := Lib.hid (show slopesK b (q + 1) = bumpI (slopesK b q) f hr by
                rw [slopesK_succ HX.out]
                unfold slopeStep
                rw [if_neg (by omega), hf, Int.toNat_natCast, hhr])
              have hdt : decide (0 ≤ x.to) = false := decide_eq_false (by omega)
              clear hf0 hf1 bhr bth hlen hbd hv bv hbump hz1 kl kg kg5 hb2c hbc hhr hth hto bd1 hfn
              go_wp2_with fail
              go_roundw
              case rel => exact ⟨q + 1, by omega, by go_num, Lib.hid (by rw [HST.out]; exact HK5.out), HB5.out, by simp; exact HZ.out⟩
              case measure => simp [intOf]; omega
            · obtain ⟨t, ht⟩ : ∃ t : Nat, x.to = (t : Int) := ⟨x.to.toNat, by omega⟩
              have htn' : t < n := by omega
              have hdt : decide (0 ≤ x.to) = true := decide_eq_true ht0
              have hdt' : decide ((0 : Int) ≤ (t : Int)) = true := decide_eq_true (by omega)
              obtain ⟨v2, hv2⟩ : ∃ z, (bumpI (slopesK b q) f hr)[t]? = some z := ⟨_, List.getElem?_eq_getElem (by rw [bumpI_len]; omega)⟩
              have bv2 := bd1 v2 (List.mem_iff_getElem?.2 ⟨t, hv2⟩)
              have hbump2 := bumpI_at hv2 th
              obtain ⟨z2, hz2⟩ : ∃ z, v2 + th = z := ⟨_, rfl⟩
              rw [hz2] at hbump2
              have HST := Lib.hid (show slopesK b (q + 1) = bumpI (bumpI (slopesK b q) f hr) t th by
                rw [slopesK_succ HX.out]
                unfold slopeStep
                simp only []
                rw [if_pos ht0, hf, Int.toNat_natCast, hhr, ht, Int.toNat_natCast, hth])
              have w2 : IntKind.i64.wrap (v2 + th) = z2 := by rw [wrapI_id (by omega) (by omega), hz2]
              have w2' : wrap64 (v2 + th) = z2 := by rw [wrap64_id (by omega) (by omega), hz2]
              have cgt : (wc.setCell ⟨g, f, none⟩ (.int .i64 z1)).cell? ⟨g, t, none⟩ = some (.int .i64 v2) := (kg5.cell t).trans (vals_get hv2)
              have fgt : (wc.setCell ⟨g, f, none⟩ (.int .i64 z1)).frozen? ⟨g, t, none⟩ = false := kg5.frozen t
              have HK6 := Lib.hid (show Bk ((wc.setCell ⟨g, f, none⟩ (.int .i64 z1)).setCell ⟨g, t, none⟩ (.int .i64 z2)) g 3 (vals (bumpI (bumpI (slopesK b q) f hr) t th)) by rw [hbump2, ← vals_set]; exact kg5.set_ t _)
              have HB6 := Lib.hid (HB5.out.setCell (p := ⟨g, t, none⟩) (Nat.le_refl _) (.int .i64 z2))
              have ht0' : (0 : Int) ≤ (t : Int) := by omega
              have htn2 : (t : Int) < (n : Int) := by omega
              have htw : IntKind.i64.wrap (t : Int) = (t : Int) := wrapI_id (by omega) (by omega)
              clear hf0 hf1 bhr bth hlen hbd hv bv hbump hz1 kl kg kg5 hb2c hbc hhr hth ht0 htn bd1 hfn htn' hv2 bv2 hbump2 hz2
              go_wp2_with fail
              go_roundw
              case rel => exact ⟨q + 1, by omega, by go_num, Lib.hid (by rw [HST.out]; exact HK6.out), HB6.out, by simp; exact HZ.out⟩
              case measure => simp [intOf]; omega
        · obtain rfl : q = m := by omega
          have HE := Lib.hid (show slopesK b q = slopesL b by
            unfold slopesK slopesL
            rw [List.take_of_length_le (by rw [HML.out.len, HMM.out]; exact Nat.le_refl _)])
          have HSM := Lib.hid (slR_vals (n := n) HL.out (by rw [slopesK_len, HMP.out.len, HNN.out]) (by unfold maxLen; omega))
          go_wp2_with fail
          go_ret
          refine ⟨⟨some ⟨g, 0, none⟩, n, n, slopesK b q⟩, rfl, HE.out, HSM.out, HB2.out.trans (HB.out.mono HGW.out.1)⟩

end Go.Proofs.Ytmkbojhnbkdalaa
