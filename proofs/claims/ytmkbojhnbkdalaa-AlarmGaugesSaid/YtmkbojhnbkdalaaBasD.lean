/- The walk of basin's needless. -/
import Derived.Test.YtmkbojhnbkdalaaBasA
import Derived.Deep.DeepCutAuto
set_option linter.unusedSimpArgs false
set_option linter.unusedVariables false
namespace Go.Proofs.Ytmkbojhnbkdalaa
open Go.RowKit

def cvI (l : Lnk) : Int := wrap64 (wrap64 ((l.rate.n : Int) + (l.band.lo.n : Int)) + (l.band.hi.n : Int))
def needB (l : Lnk) : Bool :=
  if l.kind = 0 then (l.crest == 0) && (l.num == 0) && (l.den == 0) && (l.prime == 0) && (l.brk == 0)
  else if l.kind = 1 ∨ l.kind = 5 then (cvI l == 0) && (l.pos == 0) && (l.speed == 0) && (l.leak == 0) && (l.prime == 0) && (l.brk == 0) && (l.bnum == 0) && (l.bden == 0)
  else if l.kind = 2 then (cvI l == 0) && (l.leak == 0) && (l.crest == 0) && (l.den == 0) && (l.prime == 0) && (l.brk == 0) && (l.bnum == 0) && (l.bden == 0)
  else if l.kind = 3 then (cvI l == 0) && (l.pos == 0) && (l.speed == 0) && (l.leak == 0) && (l.crest == 0) && (l.bnum == 0) && (l.bden == 0)
  else (cvI l == 0) && (l.pos == 0) && (l.speed == 0) && (l.leak == 0) && (l.crest == 0) && (l.prime == 0) && (l.brk == 0)

set_option maxRecDepth 100000 in
set_option maxHeartbeats 1000000 in
theorem needless_k0 (l : Lnk) (w : World) (h : l.kind = 0) : Calls Try.prog 52 #[.agg #[.string l.nm, .int .i64 l.kind, .int .i64 l.frm, .int .i64 l.to, .slice l.rate.a l.rate.n l.rate.c, .slice l.band.lo.a l.band.lo.n l.band.lo.c, .slice l.band.hi.a l.band.hi.n l.band.hi.c, .int .i64 l.pos, .int .i64 l.speed, .int .i64 l.leak, .int .i64 l.crest, .int .i64 l.num, .int .i64 l.den, .int .i64 l.prime, .int .i64 l.brk, .int .i64 l.bnum, .int .i64 l.bden, .int .i64 l.delay]] w fun e w' => e = .returned (.bool (needB l)) ∧ Below w.heap.size w w' := by
  have HD := Lib.hid (show needB l = ((l.crest == 0) && (l.num == 0) && (l.den == 0) && (l.prime == 0) && (l.brk == 0)) from by unfold needB; rw [h]; rfl)
  have b0 : (l.kind == 0) = true := by rw [h]; rfl
  have b1 : (l.kind == 1) = false := by rw [h]; rfl
  have b2 : (l.kind == 2) = false := by rw [h]; rfl
  have b3 : (l.kind == 3) = false := by rw [h]; rfl
  have b5 : (l.kind == 5) = false := by rw [h]; rfl
  obtain ⟨cv, hcv⟩ : ∃ z, z = cvI l := ⟨_, rfl⟩
  skip
  have hcw : wrap64 (wrap64 ((l.rate.n : Int) + (l.band.lo.n : Int)) + (l.band.hi.n : Int)) = cv := by rw [hcv]; rfl
  have c0 := (Bk.new w 79 #[.string l.nm, .int .i64 l.kind, .int .i64 l.frm, .int .i64 l.to, .slice l.rate.a l.rate.n l.rate.c, .slice l.band.lo.a l.band.lo.n l.band.lo.c, .slice l.band.hi.a l.band.hi.n l.band.hi.c, .int .i64 l.pos, .int .i64 l.speed, .int .i64 l.leak, .int .i64 l.crest, .int .i64 l.num, .int .i64 l.den, .int .i64 l.prime, .int .i64 l.brk, .int .i64 l.bnum, .int .i64 l.bden, .int .i64 l.delay]).cell
  have HBW := Lib.hid (show Below w.heap.size w (w.alloc (.cells #[.string l.nm, .int .i64 l.kind, .int .i64 l.frm, .int .i64 l.to, .slice l.rate.a l.rate.n l.rate.c, .slice l.band.lo.a l.band.lo.n l.band.lo.c, .slice l.band.hi.a l.band.hi.n l.band.hi.c, .int .i64 l.pos, .int .i64 l.speed, .int .i64 l.leak, .int .i64 l.crest, .int .i64 l.num, .int .i64 l.den, .int .i64 l.prime, .int .i64 l.brk, .int .i64 l.bnum, .int .i64 l.bden, .int .i64 l.delay] 79)) from (Below.refl _ _).alloc (Nat.le_refl _) _)
  obtain ⟨W0, hW0⟩ : ∃ W, W = w.alloc (.cells #[.string l.nm, .int .i64 l.kind, .int .i64 l.frm, .int .i64 l.to, .slice l.rate.a l.rate.n l.rate.c, .slice l.band.lo.a l.band.lo.n l.band.lo.c, .slice l.band.hi.a l.band.hi.n l.band.hi.c, .int .i64 l.pos, .int .i64 l.speed, .int .i64 l.leak, .int .i64 l.crest, .int .i64 l.num, .int .i64 l.den, .int .i64 l.prime, .int .i64 l.brk, .int .i64 l.bnum, .int .i64 l.bden, .int .i64 l.delay] 79) := ⟨_, rfl⟩
  rw [← hW0] at c0 HBW
  clear h hcv
  go_enter Try.func52, Try.ntmps52
  have HW0 := Lib.hid hW0
  clear hW0
  go_upto_region 1 with fail
  rw [← HW0.out]
  go_wp2
  all_goals
    go_ret
    exact ⟨by rw [HD.out]; simp [*], HBW.out⟩
set_option maxRecDepth 100000 in
set_option maxHeartbeats 1000000 in
theorem needless_k1 (l : Lnk) (w : World) (h : l.kind = 1) : Calls Try.prog 52 #[.agg #[.string l.nm, .int .i64 l.kind, .int .i64 l.frm, .int .i64 l.to, .slice l.rate.a l.rate.n l.rate.c, .slice l.band.lo.a l.band.lo.n l.band.lo.c, .slice l.band.hi.a l.band.hi.n l.band.hi.c, .int .i64 l.pos, .int .i64 l.speed, .int .i64 l.leak, .int .i64 l.crest, .int .i64 l.num, .int .i64 l.den, .int .i64 l.prime, .int .i64 l.brk, .int .i64 l.bnum, .int .i64 l.bden, .int .i64 l.delay]] w fun e w' => e = .returned (.bool (needB l)) ∧ Below w.heap.size w w' := by
  have HD := Lib.hid (show needB l = ((cvI l == 0) && (l.pos == 0) && (l.speed == 0) && (l.leak == 0) && (l.prime == 0) && (l.brk == 0) && (l.bnum == 0) && (l.bden == 0)) from by unfold needB; rw [h]; rfl)
  have b0 : (l.kind == 0) = false := by rw [h]; rfl
  have b1 : (l.kind == 1) = true := by rw [h]; rfl
  have b2 : (l.kind == 2) = false := by rw [h]; rfl
  have b3 : (l.kind == 3) = false := by rw [h]; rfl
  have b5 : (l.kind == 5) = false := by rw [h]; rfl
  obtain ⟨cv, hcv⟩ : ∃ z, z = cvI l := ⟨_, rfl⟩
  rw [← hcv] at HD
  have hcw : wrap64 (wrap64 ((l.rate.n : Int) + (l.band.lo.n : Int)) + (l.band.hi.n : Int)) = cv := by rw [hcv]; rfl
  have c0 := (Bk.new w 79 #[.string l.nm, .int .i64 l.kind, .int .i64 l.frm, .int .i64 l.to, .slice l.rate.a l.rate.n l.rate.c, .slice l.band.lo.a l.band.lo.n l.band.lo.c, .slice l.band.hi.a l.band.hi.n l.band.hi.c, .int .i64 l.pos, .int .i64 l.speed, .int .i64 l.leak, .int .i64 l.crest, .int .i64 l.num, .int .i64 l.den, .int .i64 l.prime, .int .i64 l.brk, .int .i64 l.bnum, .int .i64 l.bden, .int .i64 l.delay]).cell
  have HBW := Lib.hid (show Below w.heap.size w (w.alloc (.cells #[.string l.nm, .int .i64 l.kind, .int .i64 l.frm, .int .i64 l.to, .slice l.rate.a l.rate.n l.rate.c, .slice l.band.lo.a l.band.lo.n l.band.lo.c, .slice l.band.hi.a l.band.hi.n l.band.hi.c, .int .i64 l.pos, .int .i64 l.speed, .int .i64 l.leak, .int .i64 l.crest, .int .i64 l.num, .int .i64 l.den, .int .i64 l.prime, .int .i64 l.brk, .int .i64 l.bnum, .int .i64 l.bden, .int .i64 l.delay] 79)) from (Below.refl _ _).alloc (Nat.le_refl _) _)
  obtain ⟨W0, hW0⟩ : ∃ W, W = w.alloc (.cells #[.string l.nm, .int .i64 l.kind, .int .i64 l.frm, .int .i64 l.to, .slice l.rate.a l.rate.n l.rate.c, .slice l.band.lo.a l.band.lo.n l.band.lo.c, .slice l.band.hi.a l.band.hi.n l.band.hi.c, .int .i64 l.pos, .int .i64 l.speed, .int .i64 l.leak, .int .i64 l.crest, .int .i64 l.num, .int .i64 l.den, .int .i64 l.prime, .int .i64 l.brk, .int .i64 l.bnum, .int .i64 l.bden, .int .i64 l.delay] 79) := ⟨_, rfl⟩
  rw [← hW0] at c0 HBW
  clear h hcv
  go_enter Try.func52, Try.ntmps52
  have HW0 := Lib.hid hW0
  clear hW0
  go_upto_region 1 with fail
  rw [← HW0.out]
  go_wp2
  all_goals
    go_ret
    exact ⟨by rw [HD.out]; simp [*], HBW.out⟩
set_option maxRecDepth 100000 in
set_option maxHeartbeats 1000000 in
theorem needless_k5 (l : Lnk) (w : World) (h : l.kind = 5) : Calls Try.prog 52 #[.agg #[.string l.nm, .int .i64 l.kind, .int .i64 l.frm, .int .i64 l.to, .slice l.rate.a l.rate.n l.rate.c, .slice l.band.lo.a l.band.lo.n l.band.lo.c, .slice l.band.hi.a l.band.hi.n l.band.hi.c, .int .i64 l.pos, .int .i64 l.speed, .int .i64 l.leak, .int .i64 l.crest, .int .i64 l.num, .int .i64 l.den, .int .i64 l.prime, .int .i64 l.brk, .int .i64 l.bnum, .int .i64 l.bden, .int .i64 l.delay]] w fun e w' => e = .returned (.bool (needB l)) ∧ Below w.heap.size w w' := by
  have HD := Lib.hid (show needB l = ((cvI l == 0) && (l.pos == 0) && (l.speed == 0) && (l.leak == 0) && (l.prime == 0) && (l.brk == 0) && (l.bnum == 0) && (l.bden == 0)) from by unfold needB; rw [h]; rfl)
  have b0 : (l.kind == 0) = false := by rw [h]; rfl
  have b1 : (l.kind == 1) = false := by rw [h]; rfl
  have b2 : (l.kind == 2) = false := by rw [h]; rfl
  have b3 : (l.kind == 3) = false := by rw [h]; rfl
  have b5 : (l.kind == 5) = true := by rw [h]; rfl
  obtain ⟨cv, hcv⟩ : ∃ z, z = cvI l := ⟨_, rfl⟩
  rw [← hcv] at HD
  have hcw : wrap64 (wrap64 ((l.rate.n : Int) + (l.band.lo.n : Int)) + (l.band.hi.n : Int)) = cv := by rw [hcv]; rfl
  have c0 := (Bk.new w 79 #[.string l.nm, .int .i64 l.kind, .int .i64 l.frm, .int .i64 l.to, .slice l.rate.a l.rate.n l.rate.c, .slice l.band.lo.a l.band.lo.n l.band.lo.c, .slice l.band.hi.a l.band.hi.n l.band.hi.c, .int .i64 l.pos, .int .i64 l.speed, .int .i64 l.leak, .int .i64 l.crest, .int .i64 l.num, .int .i64 l.den, .int .i64 l.prime, .int .i64 l.brk, .int .i64 l.bnum, .int .i64 l.bden, .int .i64 l.delay]).cell
  have HBW := Lib.hid (show Below w.heap.size w (w.alloc (.cells #[.string l.nm, .int .i64 l.kind, .int .i64 l.frm, .int .i64 l.to, .slice l.rate.a l.rate.n l.rate.c, .slice l.band.lo.a l.band.lo.n l.band.lo.c, .slice l.band.hi.a l.band.hi.n l.band.hi.c, .int .i64 l.pos, .int .i64 l.speed, .int .i64 l.leak, .int .i64 l.crest, .int .i64 l.num, .int .i64 l.den, .int .i64 l.prime, .int .i64 l.brk, .int .i64 l.bnum, .int .i64 l.bden, .int .i64 l.delay] 79)) from (Below.refl _ _).alloc (Nat.le_refl _) _)
  obtain ⟨W0, hW0⟩ : ∃ W, W = w.alloc (.cells #[.string l.nm, .int .i64 l.kind, .int .i64 l.frm, .int .i64 l.to, .slice l.rate.a l.rate.n l.rate.c, .slice l.band.lo.a l.band.lo.n l.band.lo.c, .slice l.band.hi.a l.band.hi.n l.band.hi.c, .int .i64 l.pos, .int .i64 l.speed, .int .i64 l.leak, .int .i64 l.crest, .int .i64 l.num, .int .i64 l.den, .int .i64 l.prime, .int .i64 l.brk, .int .i64 l.bnum, .int .i64 l.bden, .int .i64 l.delay] 79) := ⟨_, rfl⟩
  rw [← hW0] at c0 HBW
  clear h hcv
  go_enter Try.func52, Try.ntmps52
  have HW0 := Lib.hid hW0
  clear hW0
  go_upto_region 1 with fail
  rw [← HW0.out]
  go_wp2
  all_goals
    go_ret
    exact ⟨by rw [HD.out]; simp [*], HBW.out⟩
set_option maxRecDepth 100000 in
set_option maxHeartbeats 1000000 in
theorem needless_k2 (l : Lnk) (w : World) (h : l.kind = 2) : Calls Try.prog 52 #[.agg #[.string l.nm, .int .i64 l.kind, .int .i64 l.frm, .int .i64 l.to, .slice l.rate.a l.rate.n l.rate.c, .slice l.band.lo.a l.band.lo.n l.band.lo.c, .slice l.band.hi.a l.band.hi.n l.band.hi.c, .int .i64 l.pos, .int .i64 l.speed, .int .i64 l.leak, .int .i64 l.crest, .int .i64 l.num, .int .i64 l.den, .int .i64 l.prime, .int .i64 l.brk, .int .i64 l.bnum, .int .i64 l.bden, .int .i64 l.delay]] w fun e w' => e = .returned (.bool (needB l)) ∧ Below w.heap.size w w' := by
  have HD := Lib.hid (show needB l = ((cvI l == 0) && (l.leak == 0) && (l.crest == 0) && (l.den == 0) && (l.prime == 0) && (l.brk == 0) && (l.bnum == 0) && (l.bden == 0)) from by unfold needB; rw [h]; rfl)
  have b0 : (l.kind == 0) = false := by rw [h]; rfl
  have b1 : (l.kind == 1) = false := by rw [h]; rfl
  have b2 : (l.kind == 2) = true := by rw [h]; rfl
  have b3 : (l.kind == 3) = false := by rw [h]; rfl
  have b5 : (l.kind == 5) = false := by rw [h]; rfl
  obtain ⟨cv, hcv⟩ : ∃ z, z = cvI l := ⟨_, rfl⟩
  rw [← hcv] at HD
  have hcw : wrap64 (wrap64 ((l.rate.n : Int) + (l.band.lo.n : Int)) + (l.band.hi.n : Int)) = cv := by rw [hcv]; rfl
  have c0 := (Bk.new w 79 #[.string l.nm, .int .i64 l.kind, .int .i64 l.frm, .int .i64 l.to, .slice l.rate.a l.rate.n l.rate.c, .slice l.band.lo.a l.band.lo.n l.band.lo.c, .slice l.band.hi.a l.band.hi.n l.band.hi.c, .int .i64 l.pos, .int .i64 l.speed, .int .i64 l.leak, .int .i64 l.crest, .int .i64 l.num, .int .i64 l.den, .int .i64 l.prime, .int .i64 l.brk, .int .i64 l.bnum, .int .i64 l.bden, .int .i64 l.delay]).cell
  have HBW := Lib.hid (show Below w.heap.size w (w.alloc (.cells #[.string l.nm, .int .i64 l.kind, .int .i64 l.frm, .int .i64 l.to, .slice l.rate.a l.rate.n l.rate.c, .slice l.band.lo.a l.band.lo.n l.band.lo.c, .slice l.band.hi.a l.band.hi.n l.band.hi.c, .int .i64 l.pos, .int .i64 l.speed, .int .i64 l.leak, .int .i64 l.crest, .int .i64 l.num, .int .i64 l.den, .int .i64 l.prime, .int .i64 l.brk, .int .i64 l.bnum, .int .i64 l.bden, .int .i64 l.delay] 79)) from (Below.refl _ _).alloc (Nat.le_refl _) _)
  obtain ⟨W0, hW0⟩ : ∃ W, W = w.alloc (.cells #[.string l.nm, .int .i64 l.kind, .int .i64 l.frm, .int .i64 l.to, .slice l.rate.a l.rate.n l.rate.c, .slice l.band.lo.a l.band.lo.n l.band.lo.c, .slice l.band.hi.a l.band.hi.n l.band.hi.c, .int .i64 l.pos, .int .i64 l.speed, .int .i64 l.leak, .int .i64 l.crest, .int .i64 l.num, .int .i64 l.den, .int .i64 l.prime, .int .i64 l.brk, .int .i64 l.bnum, .int .i64 l.bden, .int .i64 l.delay] 79) := ⟨_, rfl⟩
  rw [← hW0] at c0 HBW
  clear h hcv
  go_enter Try.func52, Try.ntmps52
  have HW0 := Lib.hid hW0
  clear hW0
  go_upto_region 1 with fail
  rw [← HW0.out]
  go_wp2
  all_goals
    go_ret
    exact ⟨by rw [HD.out]; simp [*], HBW.out⟩
set_option maxRecDepth 100000 in
set_option maxHeartbeats 1000000 in
theorem needless_k3 (l : Lnk) (w : World) (h : l.kind = 3) : Calls Try.prog 52 #[.agg #[.string l.nm, .int .i64 l.kind, .int .i64 l.frm, .int .i64 l.to, .slice l.rate.a l.rate.n l.rate.c, .slice l.band.lo.a l.band.lo.n l.band.lo.c, .slice l.band.hi.a l.band.hi.n l.band.hi.c, .int .i64 l.pos, .int .i64 l.speed, .int .i64 l.leak, .int .i64 l.crest, .int .i64 l.num, .int .i64 l.den, .int .i64 l.prime, .int .i64 l.brk, .int .i64 l.bnum, .int .i64 l.bden, .int .i64 l.delay]] w fun e w' => e = .returned (.bool (needB l)) ∧ Below w.heap.size w w' := by
  have HD := Lib.hid (show needB l = ((cvI l == 0) && (l.pos == 0) && (l.speed == 0) && (l.leak == 0) && (l.crest == 0) && (l.bnum == 0) && (l.bden == 0)) from by unfold needB; rw [h]; rfl)
  have b0 : (l.kind == 0) = false := by rw [h]; rfl
  have b1 : (l.kind == 1) = false := by rw [h]; rfl
  have b2 : (l.kind == 2) = false := by rw [h]; rfl
  have b3 : (l.kind == 3) = true := by rw [h]; rfl
  have b5 : (l.kind == 5) = false := by rw [h]; rfl
  obtain ⟨cv, hcv⟩ : ∃ z, z = cvI l := ⟨_, rfl⟩
  rw [← hcv] at HD
  have hcw : wrap64 (wrap64 ((l.rate.n : Int) + (l.band.lo.n : Int)) + (l.band.hi.n : Int)) = cv := by rw [hcv]; rfl
  have c0 := (Bk.new w 79 #[.string l.nm, .int .i64 l.kind, .int .i64 l.frm, .int .i64 l.to, .slice l.rate.a l.rate.n l.rate.c, .slice l.band.lo.a l.band.lo.n l.band.lo.c, .slice l.band.hi.a l.band.hi.n l.band.hi.c, .int .i64 l.pos, .int .i64 l.speed, .int .i64 l.leak, .int .i64 l.crest, .int .i64 l.num, .int .i64 l.den, .int .i64 l.prime, .int .i64 l.brk, .int .i64 l.bnum, .int .i64 l.bden, .int .i64 l.delay]).cell
  have HBW := Lib.hid (show Below w.heap.size w (w.alloc (.cells #[.string l.nm, .int .i64 l.kind, .int .i64 l.frm, .int .i64 l.to, .slice l.rate.a l.rate.n l.rate.c, .slice l.band.lo.a l.band.lo.n l.band.lo.c, .slice l.band.hi.a l.band.hi.n l.band.hi.c, .int .i64 l.pos, .int .i64 l.speed, .int .i64 l.leak, .int .i64 l.crest, .int .i64 l.num, .int .i64 l.den, .int .i64 l.prime, .int .i64 l.brk, .int .i64 l.bnum, .int .i64 l.bden, .int .i64 l.delay] 79)) from (Below.refl _ _).alloc (Nat.le_refl _) _)
  obtain ⟨W0, hW0⟩ : ∃ W, W = w.alloc (.cells #[.string l.nm, .int .i64 l.kind, .int .i64 l.frm, .int .i64 l.to, .slice l.rate.a l.rate.n l.rate.c, .slice l.band.lo.a l.band.lo.n l.band.lo.c, .slice l.band.hi.a l.band.hi.n l.band.hi.c, .int .i64 l.pos, .int .i64 l.speed, .int .i64 l.leak, .int .i64 l.crest, .int .i64 l.num, .int .i64 l.den, .int .i64 l.prime, .int .i64 l.brk, .int .i64 l.bnum, .int .i64 l.bden, .int .i64 l.delay] 79) := ⟨_, rfl⟩
  rw [← hW0] at c0 HBW
  clear h hcv
  go_enter Try.func52, Try.ntmps52
  have HW0 := Lib.hid hW0
  clear hW0
  go_upto_region 1 with fail
  rw [← HW0.out]
  go_wp2
  all_goals
    go_ret
    exact ⟨by rw [HD.out]; simp [*], HBW.out⟩
set_option maxRecDepth 100000 in
set_option maxHeartbeats 1000000 in
theorem needless_kz (l : Lnk) (w : World) (h0 : l.kind ≠ 0) (h1 : l.kind ≠ 1) (h2 : l.kind ≠ 2) (h3 : l.kind ≠ 3) (h5 : l.kind ≠ 5) : Calls Try.prog 52 #[.agg #[.string l.nm, .int .i64 l.kind, .int .i64 l.frm, .int .i64 l.to, .slice l.rate.a l.rate.n l.rate.c, .slice l.band.lo.a l.band.lo.n l.band.lo.c, .slice l.band.hi.a l.band.hi.n l.band.hi.c, .int .i64 l.pos, .int .i64 l.speed, .int .i64 l.leak, .int .i64 l.crest, .int .i64 l.num, .int .i64 l.den, .int .i64 l.prime, .int .i64 l.brk, .int .i64 l.bnum, .int .i64 l.bden, .int .i64 l.delay]] w fun e w' => e = .returned (.bool (needB l)) ∧ Below w.heap.size w w' := by
  have HD := Lib.hid (show needB l = ((cvI l == 0) && (l.pos == 0) && (l.speed == 0) && (l.leak == 0) && (l.crest == 0) && (l.prime == 0) && (l.brk == 0)) from by unfold needB; rw [if_neg h0, if_neg (by rintro (h | h); exact h1 h; exact h5 h), if_neg h2, if_neg h3])
  have b0 : (l.kind == 0) = false := by simpa using h0
  have b1 : (l.kind == 1) = false := by simpa using h1
  have b2 : (l.kind == 2) = false := by simpa using h2
  have b3 : (l.kind == 3) = false := by simpa using h3
  have b5 : (l.kind == 5) = false := by simpa using h5
  obtain ⟨cv, hcv⟩ : ∃ z, z = cvI l := ⟨_, rfl⟩
  rw [← hcv] at HD
  have hcw : wrap64 (wrap64 ((l.rate.n : Int) + (l.band.lo.n : Int)) + (l.band.hi.n : Int)) = cv := by rw [hcv]; rfl
  have c0 := (Bk.new w 79 #[.string l.nm, .int .i64 l.kind, .int .i64 l.frm, .int .i64 l.to, .slice l.rate.a l.rate.n l.rate.c, .slice l.band.lo.a l.band.lo.n l.band.lo.c, .slice l.band.hi.a l.band.hi.n l.band.hi.c, .int .i64 l.pos, .int .i64 l.speed, .int .i64 l.leak, .int .i64 l.crest, .int .i64 l.num, .int .i64 l.den, .int .i64 l.prime, .int .i64 l.brk, .int .i64 l.bnum, .int .i64 l.bden, .int .i64 l.delay]).cell
  have HBW := Lib.hid (show Below w.heap.size w (w.alloc (.cells #[.string l.nm, .int .i64 l.kind, .int .i64 l.frm, .int .i64 l.to, .slice l.rate.a l.rate.n l.rate.c, .slice l.band.lo.a l.band.lo.n l.band.lo.c, .slice l.band.hi.a l.band.hi.n l.band.hi.c, .int .i64 l.pos, .int .i64 l.speed, .int .i64 l.leak, .int .i64 l.crest, .int .i64 l.num, .int .i64 l.den, .int .i64 l.prime, .int .i64 l.brk, .int .i64 l.bnum, .int .i64 l.bden, .int .i64 l.delay] 79)) from (Below.refl _ _).alloc (Nat.le_refl _) _)
  obtain ⟨W0, hW0⟩ : ∃ W, W = w.alloc (.cells #[.string l.nm, .int .i64 l.kind, .int .i64 l.frm, .int .i64 l.to, .slice l.rate.a l.rate.n l.rate.c, .slice l.band.lo.a l.band.lo.n l.band.lo.c, .slice l.band.hi.a l.band.hi.n l.band.hi.c, .int .i64 l.pos, .int .i64 l.speed, .int .i64 l.leak, .int .i64 l.crest, .int .i64 l.num, .int .i64 l.den, .int .i64 l.prime, .int .i64 l.brk, .int .i64 l.bnum, .int .i64 l.bden, .int .i64 l.delay] 79) := ⟨_, rfl⟩
  rw [← hW0] at c0 HBW
  clear h0 h1 h2 h3 h5 hcv
  go_enter Try.func52, Try.ntmps52
  have HW0 := Lib.hid hW0
  clear hW0
  go_upto_region 1 with fail
  rw [← HW0.out]
  go_wp2
  all_goals
    go_ret
    exact ⟨by rw [HD.out]; simp [*], HBW.out⟩
theorem needless_any (l : Lnk) (w : World) : Calls Try.prog 52 #[.agg #[.string l.nm, .int .i64 l.kind, .int .i64 l.frm, .int .i64 l.to, .slice l.rate.a l.rate.n l.rate.c, .slice l.band.lo.a l.band.lo.n l.band.lo.c, .slice l.band.hi.a l.band.hi.n l.band.hi.c, .int .i64 l.pos, .int .i64 l.speed, .int .i64 l.leak, .int .i64 l.crest, .int .i64 l.num, .int .i64 l.den, .int .i64 l.prime, .int .i64 l.brk, .int .i64 l.bnum, .int .i64 l.bden, .int .i64 l.delay]] w fun e w' => e = .returned (.bool (needB l)) ∧ Below w.heap.size w w' := by
  by_cases h0 : l.kind = 0
  · exact needless_k0 l w h0
  by_cases h1 : l.kind = 1
  · exact needless_k1 l w h1
  by_cases h5 : l.kind = 5
  · exact needless_k5 l w h5
  by_cases h2 : l.kind = 2
  · exact needless_k2 l w h2
  by_cases h3 : l.kind = 3
  · exact needless_k3 l w h3
  exact needless_kz l w h0 h1 h2 h3 h5

end Go.Proofs.Ytmkbojhnbkdalaa
