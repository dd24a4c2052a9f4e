/- The example that each law of layer 44 checks first. -/
import Derived.Test.YtlhaoiplbebgnaaWardenF
set_option linter.unusedSimpArgs false
set_option linter.unusedVariables false
namespace Go.Proofs.Ytlhaoiplbebgnaa
open Go.RowKit

theorem due_post (g b : Nat) (wd hour : Int) (s : St) (n : Nat) (hgd : Good s n) (w : World) (hp : Post w g b wd s) (hwd : wd ≤ 16) (hh : -9223372036854775808 ≤ hour ∧ hour ≤ 9223372036854775807) :
    Calls Try.prog 29 #[.pointer (some ⟨g, 0, none⟩), .int .i64 hour] w fun e w' =>
      ∃ A cap, e = .returned (.slice A (dueL s.F wd hour).length cap) ∧ Below w.heap.size w w' ∧ Post w' g b wd s ∧ (∀ a, A = some a → w.heap.size ≤ a.block) ∧ Sl (Pl callC) 4 w' w'.heap.size A (dueL s.F wd hour).length (dueL s.F wd hour) :=
  (due_any g b wd s.many hour s.F w hp.rep hwd hh (fun t o h => ⟨(hgd.od t o h).2.2.2.2.1, (hgd.od t o h).2.2.2.2.2.1⟩)).mono fun e w' ⟨A, cap, he, hb, hl, hs⟩ => ⟨A, cap, he, hb, hp.below hb, hl, hs⟩
theorem awaits_post (g b : Nat) (wd : Int) (c : Cl) (s : St) (w : World) (hp : Post w g b wd s) :
    Calls Try.prog 26 #[.pointer (some ⟨g, 0, none⟩), .agg #[.int .i64 c.town, .int .i64 c.level, .int .i64 c.number, .int .i64 c.warden]] w fun e w' =>
      e = .returned (.bool (awaitsB s.F wd c.town c.number c.warden)) ∧ Below w.heap.size w w' ∧ Post w' g b wd s :=
  (awaits_any g b wd s.many c.town c.level c.number c.warden s.F w hp.rep).mono fun e w' ⟨he, hb⟩ => ⟨he, hb, hp.below hb⟩

def s0 : St := ⟨0, fun _ => none⟩
def s1 : St := raiseS s0 3 3 10
def s2 : St := raiseS s1 3 2 20
def s3 : St := ackS 2 s2 ⟨3, 0, 1, 0⟩
def s4 : St := ackS 2 s3 ⟨3, 0, 2, 1⟩
theorem g1 : Good s1 1 := Good.start.raise 3 3 10
theorem g2 : Good s2 2 := g1.raise 3 2 20
theorem g3 : Good s3 2 := g2.ack 2 _
theorem g4 : Good s4 2 := g3.ack 2 _
theorem x1 : raiseN s0 3 3 10 = 1 := by decide +kernel
theorem x2 : raiseN s1 3 2 20 = 2 := by decide +kernel
theorem x3 : dueL s1.F 2 10 = [⟨3, 3, 1, 0⟩] := by kernel_rfl
theorem x4 : dueL s1.F 2 13 = [⟨3, 3, 1, 0⟩, ⟨3, 3, 1, 1⟩] := by kernel_rfl
theorem x5 : awaitsB s2.F 2 3 1 0 = false := by decide +kernel
theorem x6 : awaitsB s3.F 2 3 2 1 = true := by decide +kernel
theorem x7 : awaitsB s4.F 2 3 2 1 = false := by decide +kernel
theorem x8 : dueL s4.F 2 20 = [] := by kernel_rfl

set_option maxRecDepth 100000 in
set_option maxHeartbeats 1000000 in
theorem small44_any (w : World) : Calls Try.prog 19 #[] w fun e w' => e = .returned (.bool true) ∧ Below w.heap.size w w' := by
  go_enter Try.func19, Try.ntmps19
  go_wp2_with fail
  refine (new_in 2 _ (by omega) (by omega)).mono ?_
  rintro e w0 ⟨rfl, hb0, hz0, hp0⟩
  have hP0 : Post w0 (w.heap.size + 1) w.heap.size 2 s0 := ⟨hp0⟩
  clear hp0
  generalize hg : w.heap.size + 1 = g at *
  have HG := Lib.hid hg
  have hgw : w.heap.size < g := by omega
  clear hg
  have HP0 := Lib.hid hP0
  clear hP0
  go_wp2_with fail
  refine (raise_any g w.heap.size 2 3 3 10 s0 0 (by omega) Good.start _ HP0.out).mono ?_
  rintro e w1 ⟨rfl, ho1, hp1⟩
  rw [x1]
  have HP1 : Hid (Post w1 g w.heap.size 2 s1) := hp1
  clear hp1
  go_wp2_with fail
  refine (due_post g w.heap.size 2 10 s1 1 g1 _ HP1.out (by omega) (by omega)).mono ?_
  rintro e w2 ⟨A2, cap2, rfl, hb2, hp2, _, _⟩
  rw [x3]
  have HP2 := Lib.hid hp2
  clear hp2
  go_wp2_with fail
  refine (due_post g w.heap.size 2 13 s1 1 g1 _ HP2.out (by omega) (by omega)).mono ?_
  rintro e w3 ⟨A3, cap3, rfl, hb3, hp3, hl3, hs3⟩
  rw [x4] at hs3 ⊢
  have HP3 := Lib.hid hp3
  obtain ⟨bo, oo, y, rfl, hbl, hy, hcy⟩ := hs3.at_ (k := 1) (by decide)
  obtain rfl : (⟨3, 3, 1, 1⟩ : Cl) = y := by injection hy
  have hbo := hl3 _ rfl
  have hg2 := (HP2.out).rep.cells.lt
  have hbw2 := (HP2.out).rep.map.lt
  have hne1 : bo ≠ g := by show bo ≠ g; have : w2.heap.size ≤ bo := hbo; omega
  have hne2 : bo ≠ w.heap.size := by have : w2.heap.size ≤ bo := hbo; omega
  have f0 := hcy w3 (Below.refl _ _) 0 _ rfl
  have f1 := hcy w3 (Below.refl _ _) 1 _ rfl
  have f2 := hcy w3 (Below.refl _ _) 2 _ rfl
  have f3 := hcy w3 (Below.refl _ _) 3 _ rfl
  have HC : Hid (w3.cell? ⟨bo, oo + 4, none⟩ = some (.int .i64 3) ∧ w3.cell? ⟨bo, oo + 4 + 1, none⟩ = some (.int .i64 3) ∧ w3.cell? ⟨bo, oo + 4 + 2, none⟩ = some (.int .i64 1) ∧ w3.cell? ⟨bo, oo + 4 + 3, none⟩ = some (.int .i64 1)) := ⟨f0, f1, f2, f3⟩
  clear hp3 hs3 hy hcy f0 f1 f2 f3 hl3 hbo
  go_wp2_with fail
  refine (raise_any g w.heap.size 2 3 2 20 s1 1 (by omega) g1 _ HP3.out).mono ?_
  rintro e w4 ⟨rfl, ho4, hp4⟩
  rw [x2]
  have HP4 : Hid (Post w4 g w.heap.size 2 s2) := hp4
  clear hp4
  go_wp2_with fail
  refine (ack_any g w.heap.size 2 ⟨3, 0, 1, 0⟩ s2 _ HP4.out).mono ?_
  rintro e w5 ⟨rfl, ho5, hp5⟩
  rw [show awaitsB s2.F 2 (⟨3, 0, 1, 0⟩ : Cl).town (⟨3, 0, 1, 0⟩ : Cl).number (⟨3, 0, 1, 0⟩ : Cl).warden = false from x5]
  have HP5 : Hid (Post w5 g w.heap.size 2 s3) := hp5
  have hlt5 := hp5.rep.cells.lt
  have hlm5 := hp5.rep.map.lt
  have q : ∀ j, w5.cell? ⟨bo, j, none⟩ = w3.cell? ⟨bo, j, none⟩ := fun j => (World.cell?_of_block (ho5.block bo (Nat.lt_of_lt_of_le hbl ho4.size) hne1 hne2)).trans (World.cell?_of_block (ho4.block bo hbl hne1 hne2))
  have hbl5 : bo < w5.heap.size := Nat.lt_of_lt_of_le (Nat.lt_of_lt_of_le hbl ho4.size) ho5.size
  obtain ⟨f0, f1, f2, f3⟩ := HC.out
  clear hp5
  have hk6 := Bk.new w5 42 #[.int .i64 3, .int .i64 0, .int .i64 2, .int .i64 1]
  have hal : Below w5.heap.size w5 (w5.alloc (.cells #[.int .i64 3, .int .i64 0, .int .i64 2, .int .i64 1] 42)) := (Below.refl _ _).alloc (Nat.le_refl _) _
  have hsz6 : (w5.alloc (.cells #[.int .i64 3, .int .i64 0, .int .i64 2, .int .i64 1] 42)).heap.size = w5.heap.size + 1 := by simp
  go_wp2_with fail
  refine (awaits_post g w.heap.size 2 ⟨3, 0, 2, 1⟩ s3 _ (HP5.out.below hal)).mono ?_
  rintro e w6 ⟨rfl, hb6, hp6⟩
  rw [show awaitsB s3.F 2 (⟨3, 0, 2, 1⟩ : Cl).town (⟨3, 0, 2, 1⟩ : Cl).number (⟨3, 0, 2, 1⟩ : Cl).warden = true from x6]
  have hk6' := hk6.below hb6 (by rw [hsz6]; omega)
  have hz6 := hb6.size
  rw [hsz6] at hz6
  have HP6 := Lib.hid hp6
  have hbw6 : Below w5.heap.size w5 w6 := hal.trans (hb6.mono (by omega))
  clear hp6 hk6 hal hb6 hsz6 q f0 f1 f2 f3
  have c6 := hk6'.cell
  go_wp2_with fail
  refine (ack_any g w.heap.size 2 ⟨3, 0, 2, 1⟩ s3 _ HP6.out).mono ?_
  rintro e w7 ⟨rfl, ho7, hp7⟩
  rw [show awaitsB s3.F 2 (⟨3, 0, 2, 1⟩ : Cl).town (⟨3, 0, 2, 1⟩ : Cl).number (⟨3, 0, 2, 1⟩ : Cl).warden = true from x6]
  have HP7 : Hid (Post w7 g w.heap.size 2 s4) := hp7
  have hk7 : Bk w7 w5.heap.size 42 _ := (ho7.block w5.heap.size (by omega) (by omega) (by omega)).trans hk6'
  have hz7 := hp7.rep.cells.lt
  clear c6 hp7
  have c7 := hk7.cell
  go_wp2_with fail
  refine (awaits_post g w.heap.size 2 ⟨3, 0, 2, 1⟩ s4 _ HP7.out).mono ?_
  rintro e w8 ⟨rfl, hb8, hp8⟩
  rw [show awaitsB s4.F 2 (⟨3, 0, 2, 1⟩ : Cl).town (⟨3, 0, 2, 1⟩ : Cl).number (⟨3, 0, 2, 1⟩ : Cl).warden = false from x7]
  have HP8 := Lib.hid hp8
  clear hp8 c7
  go_wp2_with fail
  refine (due_post g w.heap.size 2 20 s4 2 g4 _ HP8.out (by omega) (by omega)).mono ?_
  rintro e w9 ⟨A9, cap9, rfl, hb9, _, _, _⟩
  rw [x8]
  go_wp2_with fail
  refine (new_out 0 _ (by omega)).mono ?_
  rintro e w10 ⟨rfl, rfl⟩
  go_wp2
  go_ret
  have z1 := ho1.size
  have z2 := hb2.size
  have z3 := hb3.size
  have z4 := ho4.size
  have z5 := ho5.size
  have hB : Below w.heap.size w w5 := by
    have h01 := (hb0.trans (ho1.to_below (B := w.heap.size) (by omega) (Nat.le_refl _) (by omega)))
    have h23 := (hb2.mono (B' := w.heap.size) (by have := ho1.size; omega)).trans (hb3.mono (B' := w.heap.size) (by have := ho1.size; have := hb2.size; omega))
    have h4 := ho4.to_below (B := w.heap.size) (by omega) (Nat.le_refl _) (by omega)
    have h5 := ho5.to_below (B := w.heap.size) (by omega) (Nat.le_refl _) (by omega)
    exact ((h01.trans h23).trans h4).trans h5
  have h7 := ho7.to_below (B := w.heap.size) (by omega) (Nat.le_refl _) (by omega)
  exact ⟨rfl, (((hB.trans (hbw6.mono (by omega))).trans h7).trans (hb8.mono (by omega))).trans (hb9.mono (by have := hb8.size; omega))⟩

end Go.Proofs.Ytlhaoiplbebgnaa
