/- What the listed variables give the walks of digest. -/
import Derived.Test.YtnfpahanbnidpaaDoorOpen
import Derived.Test.YtnfpahanbnidpaaDoorDigE
import Derived.ProofKit
import Derived.LaidMore
import Derived.OpenShut
import Derived.Stop.Joined
set_option linter.unusedSimpArgs false
set_option linter.unusedVariables false
namespace Go.Proofs.YtnfpahanbnidpaaDoor
open Go.ChangeShapes Go.WideShapes Go.ChangeAt Go.RowKit

def rowsI : List (List Int) := [[0, 1, 2, 3, 4, 5, 6, 7, 8, 9, 10, 11, 12, 13, 14, 15], [14, 10, 4, 8, 9, 15, 13, 6, 1, 12, 0, 2, 11, 7, 5, 3], [11, 8, 12, 0, 5, 2, 15, 13, 10, 14, 3, 6, 7, 1, 9, 4], [7, 9, 3, 1, 13, 12, 11, 14, 2, 6, 5, 10, 4, 0, 15, 8], [9, 0, 5, 7, 2, 4, 10, 15, 14, 1, 11, 12, 6, 8, 3, 13], [2, 12, 6, 10, 0, 11, 8, 3, 4, 13, 7, 5, 15, 14, 1, 9], [12, 5, 1, 15, 14, 13, 4, 10, 0, 7, 6, 3, 9, 2, 8, 11], [13, 11, 7, 14, 12, 1, 3, 9, 5, 0, 15, 4, 8, 6, 2, 10], [6, 15, 14, 9, 11, 3, 0, 8, 12, 2, 13, 7, 1, 4, 10, 5], [10, 2, 8, 4, 7, 6, 1, 5, 15, 11, 9, 14, 3, 12, 13, 0]]
def firstI : List Int := firstN.map fun (n : Nat) => (n : Int)
def laidD : List (String × DataW Unit) := [("bourne/digest.first", Rows.laid_bourne_digest_first), ("bourne/digest.orders", Rows.laid_bourne_digest_orders)]
theorem gFirst : Tryd.prog.globalNamed "bourne/digest.first" = some 0 := by kernel_rfl
theorem gOrders : Tryd.prog.globalNamed "bourne/digest.orders" = some 1 := by kernel_rfl
theorem tFirst : (Tryd.prog.globals[0]?).map (·.type) = some 45 := by kernel_rfl
theorem tOrders : (Tryd.prog.globals[1]?).map (·.type) = some 56 := by kernel_rfl

section
variable {P : Program} {H : Type} {enc : TypeId × Value → H} {w : World} {base : Nat} {spare : Nat → Bool} {held : Bool} {fuel : Nat} {cs : List Value} {t e : TypeId} {n : Nat} {k : IntKind} {ps : List MemPlace}
theorem arr_ints (ht : P.underlying t = some (.array n e)) (he : P.underlying e = some (.int k)) (hc : P.cellsOf e = 1) (hct : P.cellsOf t = n) {l : List Int} {x : DataW H × List MemPlace}
    (h : DataW.trod enc P w base spare held fuel t cs = some x) (hx1 : x.1 = .agg (l.map fun z => .lit (.int k z))) : cs = l.map fun z => Value.int k z := by
  obtain ⟨xs, m, rfl, rfl, hl, hn, hel⟩ := DataW.trod_array ht h
  simp only [DataW.agg.injEq] at hx1
  have hlen : l.length = n := by have := congrArg List.length hx1; simp at this; omega
  apply List.ext_getElem?
  intro i
  by_cases hi : i < n
  · have h1 := hel i hi
    rw [hc, Nat.mul_one] at h1
    have hxi : xs[i]? = some xs[i] := List.getElem?_eq_getElem (by omega)
    rw [hxi] at h1
    obtain ⟨z, hz, hz2, _⟩ := DataW.trod_int he h1
    have h2 : (xs.map (·.1))[i]? = (l.map fun z => DataW.lit (.int k z))[i]? := by rw [hx1]
    have hli : l[i]? = some l[i] := List.getElem?_eq_getElem (by omega)
    rw [List.getElem?_map, List.getElem?_map, hxi, hz2, hli] at h2
    simp only [Option.map_some, Option.some.injEq, DataW.lit.injEq, Lit.int.injEq, true_and] at h2
    have h3 : ((cs.drop i).take 1)[0]? = some (.int k z) := by rw [hz]; rfl
    rw [List.getElem?_take_of_lt (by omega), List.getElem?_drop] at h3
    rw [List.getElem?_map, hli, Option.map_some, ← h2]
    simpa using h3
  · rw [List.getElem?_eq_none (by omega), List.getElem?_eq_none (by simp; omega)]
theorem arr_rows {b : TypeId} {m : Nat} (ht : P.underlying t = some (.array n e)) (he : P.underlying e = some (.array m b)) (hb : P.underlying b = some (.int k)) (hc : P.cellsOf b = 1) (hce : P.cellsOf e = m) {ll : List (List Int)} {x : DataW H × List MemPlace}
    (h : DataW.trod enc P w base spare held fuel t cs = some x) (hx1 : x.1 = .agg (ll.map fun l => .agg (l.map fun z => .lit (.int k z)))) : ∀ i l, ll[i]? = some l → (cs.drop (i * m)).take m = l.map fun z => Value.int k z := by
  obtain ⟨xs, q, rfl, rfl, hl, hn, hel⟩ := DataW.trod_array ht h
  simp only [DataW.agg.injEq] at hx1
  have hlen : ll.length = n := by have := congrArg List.length hx1; simp at this; omega
  intro i l hli
  have hi : i < n := by rw [← hlen]; exact (List.getElem?_eq_some_iff.1 hli).1
  have h1 := hel i hi
  rw [hce] at h1
  have hxi : xs[i]? = some xs[i] := List.getElem?_eq_getElem (by omega)
  rw [hxi] at h1
  have h2 : (xs.map (·.1))[i]? = (ll.map fun l => DataW.agg (l.map fun z => .lit (.int k z)))[i]? := by rw [hx1]
  rw [List.getElem?_map, List.getElem?_map, hxi, hli] at h2
  simp only [Option.map_some, Option.some.injEq] at h2
  exact arr_ints he hb hc hce h1 h2
end

theorem ordersN_len : ordersN.length = 160 := by decide +kernel
theorem rows_at : ∀ j, j < 160 → (rowsI.getD (j / 16) [])[j % 16]? = some ((ordersN.getD j 0 : Nat) : Int) := by decide +kernel

theorem of_laid {W : World} (h : laidMetH Tryd.prog laidD W) : LaidAt W := by
  rw [MakeChecks.laidMetH_plain _ _ _ (by kernel_rfl)] at h
  obtain ⟨ps, ⟨g0, t0, cs0, f0, p0, q0, hg0, ht0, hv0, hd0, ⟨g1, t1, cs1, f1, p1, q1, hg1, ht1, hv1, hd1, _, _⟩, _⟩, _, _⟩ := h
  obtain rfl := Option.some.inj (gFirst.symm.trans hg0)
  obtain rfl := Option.some.inj (gOrders.symm.trans hg1)
  obtain rfl := Option.some.inj (tFirst.symm.trans ht0)
  obtain rfl := Option.some.inj (tOrders.symm.trans ht1)
  have e0 := arr_ints (k := .u32) (l := firstI) Tryd.underlying45 Tryd.underlying44 (by kernel_rfl) (by kernel_rfl) hd0 rfl
  have e1 := arr_rows (k := .u8) (ll := rowsI) Tryd.underlying56 Tryd.underlying55 Tryd.underlying5 (by kernel_rfl) (by kernel_rfl) hd1 rfl
  refine ⟨fun j v hv => ?_, fun j v hv => ?_, ?_⟩
  · rw [World.var?_cell hg0 hv0 j, ← Array.getElem?_toList, e0]
    have : (u32s firstN)[j]? = (firstI.map fun z => Value.int .u32 z)[j]? := by simp [u32s, firstI]; rfl
    rw [← this]
    exact hv
  · rw [World.var?_cell hg1 hv1 j, ← Array.getElem?_toList]
    have hj : j < 160 := by
      have := (Array.getElem?_eq_some_iff.1 hv).1
      rw [u8s_size, ordersN_len] at this
      exact this
    have hv' : v = .int .u8 ((ordersN.getD j 0 : Nat) : Int) := by
      simp only [u8s, List.getElem?_toArray, List.getElem?_map] at hv
      rw [List.getElem?_eq_getElem (by rw [ordersN_len]; exact hj)] at hv
      simp only [Option.map_some, Option.some.injEq] at hv
      rw [← hv, List.getD_eq_getElem?_getD, List.getElem?_eq_getElem (by rw [ordersN_len]; exact hj)]
      rfl
    have hr := rows_at j hj
    have hlr : rowsI[j / 16]? = some (rowsI.getD (j / 16) []) := by
      have : j / 16 < rowsI.length := by show j / 16 < 10; omega
      rw [List.getD_eq_getElem?_getD, List.getElem?_eq_getElem this]
      rfl
    have h2 := congrArg (fun l => l[j % 16]?) (e1 _ _ hlr)
    simp only [List.getElem?_map, hr, Option.map_some] at h2
    rw [List.getElem?_take_of_lt (Nat.mod_lt _ (by decide)), List.getElem?_drop, show j / 16 * 16 + j % 16 = j by omega] at h2
    rw [h2, hv']
  · have := World.var?_cell hg1 hv1 0
    rcases Nat.lt_or_ge W.heap.size 2 with hlt | hge
    · exfalso
      have h0 := e1 0 _ rfl
      have hc : W.cell? ⟨1, 0, none⟩ = none := by
        simp [World.cell?, Array.getElem?_eq_none (show W.heap.size ≤ 1 by omega)]
      rw [show (1 : Nat) = 1 from rfl, hc] at this
      have hcl := this.symm
      rw [Array.getElem?_eq_none_iff] at hcl
      have hz : cs1.toList = [] := List.eq_nil_of_length_eq_zero (by simpa using hcl)
      rw [hz] at h0
      simp at h0
    · exact hge

end Go.Proofs.YtnfpahanbnidpaaDoor
