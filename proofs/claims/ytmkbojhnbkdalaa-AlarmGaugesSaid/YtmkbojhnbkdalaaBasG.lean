/- The walks of curve.at. -/
import Derived.Test.YtmkbojhnbkdalaaBasB
import Derived.Test.YtmkbojhnbkdalaaBasF
import Derived.Test.YtmkbojhnbkdalaaExact
import Derived.RegionTactic
import Derived.ChangeAlike
set_option linter.unusedSimpArgs false
set_option linter.unusedVariables false
namespace Go.Proofs.Ytmkbojhnbkdalaa
open Go.RowKit

def geB (l : List Pt) (x : Int) (k : Nat) : Bool := match l[k]? with | some p => decide (x ≤ p.x) | none => false
theorem curveB_pt {l : List Pt} (h : curveB l = true) {k : Nat} {p : Pt} (hp : l[k]? = some p) : 0 ≤ p.x ∧ p.x ≤ maxVolI ∧ 0 ≤ p.y ∧ p.y ≤ maxVolI := by
  unfold curveB at h
  simp only [Bool.and_eq_true, List.all_eq_true] at h
  have h1 := h.1 k (List.mem_range.2 (List.getElem?_eq_some_iff.1 hp).1)
  unfold okP at h1
  rw [hp] at h1
  simp only [Bool.and_eq_true] at h1
  have h2 := h1.1
  unfold inB volB at h2
  simp only [Bool.and_eq_true] at h2
  have a := wthB_true h2.1
  have b := wthB_true h2.2
  omega
theorem curveB_step {l : List Pt} (h : curveB l = true) {k : Nat} {p q : Pt} (hp : l[k]? = some p) (hq : l[k + 1]? = some q) : p.x < q.x ∧ p.y ≤ q.y := by
  unfold curveB at h
  simp only [Bool.and_eq_true, List.all_eq_true] at h
  have h1 := h.1 (k + 1) (List.mem_range.2 (List.getElem?_eq_some_iff.1 hq).1)
  rw [okP_succ hq hp] at h1
  simp only [Bool.and_eq_true, decide_eq_true_eq] at h1
  exact h1.2
theorem curveB_len {l : List Pt} (h : curveB l = true) : 0 < l.length ∧ l.length ≤ 32 := by
  unfold curveB at h
  simp only [Bool.and_eq_true, decide_eq_true_eq] at h
  exact h.2

set_option maxRecDepth 100000 in
set_option maxHeartbeats 400000 in
theorem at1_any (s : SlR Pt) (x : Int) (bc bx i : Nat) (W w0 : World) (B : Nat) (hM : SlR.Mem (Rw cPt MPt) 2 w0 B s) (hW : Below B w0 W) (hi : i < s.n)
    (hc : W.cell? ⟨bc, 0, none⟩ = some (.slice s.a s.n s.c)) (hx : W.cell? ⟨bx, 0, none⟩ = some (.int .i64 x)) :
    Calls Try.prog 80 #[.int .i64 (i : Int), .pointer (some ⟨bc, 0, none⟩), .pointer (some ⟨bx, 0, none⟩)] W fun e w' => e = .returned (.bool (geB s.l x i)) ∧ Below W.heap.size W w' := by
  have hn := two_byte hM.le
  obtain ⟨pb, po, p, hpa, hpb, hx', _, hcc⟩ := hM.at_ hi
  have e0 := hcc W hW 0 _ rfl
  simp only [Nat.add_zero] at e0
  rw [hpa] at hc
  have HG := Lib.hid (show geB s.l x i = decide (x ≤ p.x) by unfold geB; rw [hx'])
  have hi0 : (0 : Int) ≤ (i : Int) := by omega
  have hin : (i : Int) < (s.n : Int) := by omega
  have hiw : IntKind.i64.wrap (i : Int) = (i : Int) := i64_id i (by omega)
  clear hM hW hpa hx' hcc
  go_enter Try.func80, Try.ntmps80
  go_wp2_with fail
  refine wp_region_head 8 (fun w' => w' = W.drew) (by kernel_rfl) (by kernel_rfl) rfl ?_
  iterate 8 (refine chain_pure (by rfl) ?_; apply Exists.intro; apply And.intro; (case left => (intro w hSw; (try dsimp only at hSw); go_simp; try with_reducible rfl)); (try simp only [Act.put, List.setIfInBounds_toArray, List.set_cons_zero, List.set_cons_succ]))
  intro W' hSW
  subst hSW
  go_wp2
  go_ret
  exact ⟨by rw [HG.out]; rfl, (Below.refl _ _).drew⟩

def atI (l : List Pt) (x : Int) : Nat := searchI (geB l x) l.length
def atD (l : List Pt) (x : Int) : Int := match l[atI l x - 1]?, l[atI l x]? with
  | some p, some q => if atI l x = 0 then q.y else p.y + scaleQ (q.y - p.y) (x - p.x) (q.x - p.x)
  | some p, none => p.y
  | none, some q => q.y
  | none, none => 0
def atU (l : List Pt) (x : Int) : Int := match l[atI l x - 1]?, l[atI l x]? with
  | some p, some q => if atI l x = 0 then q.y else atD l x + (if 0 < scaleR (q.y - p.y) (x - p.x) (q.x - p.x) then 1 else 0)
  | some p, none => p.y
  | none, some q => q.y
  | none, none => 0

end Go.Proofs.Ytmkbojhnbkdalaa
