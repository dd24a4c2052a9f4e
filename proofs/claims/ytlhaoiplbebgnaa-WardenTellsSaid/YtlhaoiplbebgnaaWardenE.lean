/- A post as a state machine; the law file's run. -/
import Derived.Test.YtlhaoiplbebgnaaWardenD
set_option linter.unusedSimpArgs false
set_option linter.unusedVariables false
namespace Go.Proofs.Ytlhaoiplbebgnaa
open Go.RowKit

structure St where
  many : Int
  F : Int → Option Od

def raiseS (s : St) (town level hour : Int) : St := if raiseOk town level hour then ⟨s.many + 1, fun k => if k = town then some ⟨level, s.many + 1, hour, false⟩ else s.F k⟩ else s
def raiseN (s : St) (town level hour : Int) : Int := if raiseOk town level hour then s.many + 1 else 0
def ackS (wd : Int) (s : St) (c : Cl) : St := match s.F c.town with
  | some o => if awaitsB s.F wd c.town c.number c.warden then ⟨s.many, fun k => if k = c.town then some ⟨o.level, o.number, o.hour, true⟩ else s.F k⟩ else s
  | none => s

/-- A post in a state. -/
structure Post (w : World) (g b : Nat) (wd : Int) (s : St) : Prop where
  rep : PostR w g b wd s.many s.F

structure Good (s : St) (n : Nat) : Prop where
  lo : 0 ≤ s.many
  hi : s.many ≤ n
  od : ∀ t o, s.F t = some o → 0 ≤ t ∧ t < 40 ∧ 0 ≤ o.level ∧ o.level ≤ 3 ∧ 0 ≤ o.hour ∧ o.hour ≤ 16777216 ∧ 1 ≤ o.number ∧ o.number ≤ s.many

theorem Good.start : Good ⟨0, fun _ => none⟩ 0 := ⟨by decide, by decide, fun t o h => by cases h⟩
theorem Good.mono {s : St} {n m : Nat} (h : Good s n) (hm : n ≤ m) : Good s m := ⟨h.lo, by have := h.hi; omega, h.od⟩
theorem Good.raise {s : St} {n : Nat} (h : Good s n) (town level hour : Int) : Good (raiseS s town level hour) (n + 1) := by
  unfold raiseS
  split
  · rename_i hr
    obtain ⟨t0, t1, l0, l1, u0, u1⟩ := hr
    have h0 := h.lo
    have h1 := h.hi
    refine ⟨by show 0 ≤ s.many + 1; omega, by show s.many + 1 ≤ _; omega, fun t o ho => ?_⟩
    simp only at ho
    split at ho
    · rename_i ht
      injection ho with ho
      subst ho ht
      exact ⟨t0, t1, l0, l1, u0, u1, by show 1 ≤ s.many + 1; omega, by show s.many + 1 ≤ s.many + 1; omega⟩
    · obtain ⟨a1, a2, a3, a4, a5, a6, a7, a8⟩ := h.od t o ho
      exact ⟨a1, a2, a3, a4, a5, a6, a7, by show o.number ≤ s.many + 1; omega⟩
  · exact h.mono (by omega)
theorem Good.ack {s : St} {n : Nat} (h : Good s n) (wd : Int) (c : Cl) : Good (ackS wd s c) n := by
  unfold ackS
  split
  · rename_i o hF
    split
    · refine ⟨h.lo, h.hi, fun t o' ho => ?_⟩
      simp only at ho
      split at ho
      · rename_i ht
        injection ho with ho
        subst ho ht
        exact h.od _ o hF
      · exact h.od t o' ho
    · exact h
  · exact h

theorem Only2.of_below {w w' : World} (g b : Nat) (h : Below w.heap.size w w') : Only2 w w' g b := ⟨h.os, h.tape, h.output, h.size, fun j hj _ _ => h.block j hj⟩
theorem Only2.refl (w : World) (g b : Nat) : Only2 w w g b := ⟨rfl, rfl, rfl, Nat.le_refl _, fun _ _ _ _ => rfl⟩
theorem Only2.trans {w w1 w2 : World} {g b : Nat} (h : Only2 w w1 g b) (k : Only2 w1 w2 g b) : Only2 w w2 g b :=
  ⟨k.os.trans h.os, k.tape.trans h.tape, k.output.trans h.output, Nat.le_trans h.size k.size, fun j hj h1 h2 => (k.block j (Nat.lt_of_lt_of_le hj h.size) h1 h2).trans (h.block j hj h1 h2)⟩
theorem Only2.drew {w w1 : World} {g b : Nat} (h : Only2 w w1 g b) : Only2 w w1.drew g b := ⟨h.os, h.tape, h.output, h.size, h.block⟩
/-- Blocks of the call's own (from B on) may turn. -/
theorem Only2.to_below {w w' : World} {g b B : Nat} (h : Only2 w w' g b) (hg : B ≤ g) (hb : B ≤ b) (hB : B ≤ w.heap.size) : Below B w w' :=
  ⟨h.os, h.tape, h.output, h.size, fun j hj => h.block j (by omega) (by omega) (by omega)⟩
/-- Another post stays. -/
theorem Post.other {w w' : World} {g b g' b' : Nat} {wd : Int} {s : St} (h : Post w g b wd s) (ho : Only2 w w' g' b') (h1 : g ≠ g') (h2 : g ≠ b') (h3 : b ≠ g') (h4 : b ≠ b') : Post w' g b wd s :=
  ⟨⟨(ho.block g h.rep.cells.lt h1 h2).trans h.rep.cells, h.rep.map.of_block (ho.block b h.rep.map.lt h3 h4), h.rep.ne_⟩⟩
theorem Post.below {w w' : World} {g b : Nat} {wd : Int} {s : St} (h : Post w g b wd s) (hb : Below w.heap.size w w') : Post w' g b wd s := ⟨h.rep.below hb h.rep.cells.lt h.rep.map.lt⟩

theorem raise_any (g b : Nat) (wd town level hour : Int) (s : St) (n : Nat) (hn : n ≤ 1000000) (hgd : Good s n) (w : World) (hp : Post w g b wd s) :
    Calls Try.prog 22 #[.pointer (some ⟨g, 0, none⟩), .int .i64 town, .int .i64 level, .int .i64 hour] w fun e w' =>
      e = .returned (.int .i64 (raiseN s town level hour)) ∧ Only2 w w' g b ∧ Post w' g b wd (raiseS s town level hour) := by
  unfold raiseN raiseS
  by_cases h : raiseOk town level hour
  · rw [if_pos h, if_pos h]
    exact (raise_in g b wd s.many town level hour s.F w h hgd.lo (by have := hgd.hi; omega) hp.rep).mono fun e w' ⟨he, ho, hr⟩ => ⟨he, ho, ⟨hr⟩⟩
  · rw [if_neg h, if_neg h]
    refine (raise_out g town level hour w h).mono fun e w' ⟨he, hw⟩ => ?_
    subst hw
    exact ⟨he, Only2.refl _ _ _, hp⟩

theorem ack_any (g b : Nat) (wd : Int) (c : Cl) (s : St) (w : World) (hp : Post w g b wd s) :
    Calls Try.prog 24 #[.pointer (some ⟨g, 0, none⟩), .agg #[.int .i64 c.town, .int .i64 c.level, .int .i64 c.number, .int .i64 c.warden]] w fun e w' =>
      e = .returned (.bool (awaitsB s.F wd c.town c.number c.warden)) ∧ Only2 w w' g b ∧ Post w' g b wd (ackS wd s c) := by
  cases ha : awaitsB s.F wd c.town c.number c.warden with
  | false =>
    have hs : ackS wd s c = s := by unfold ackS; split <;> simp [ha]
    rw [hs]
    exact (ack_no g b wd s.many c.town c.level c.number c.warden s.F w hp.rep ha).mono fun e w' ⟨he, hb⟩ => ⟨he, Only2.of_below g b hb, hp.below hb⟩
  | true =>
    cases hF : s.F c.town with
    | none => simp [awaitsB, hF] at ha
    | some o =>
      have hs : ackS wd s c = ⟨s.many, fun k => if k = c.town then some ⟨o.level, o.number, o.hour, true⟩ else s.F k⟩ := by unfold ackS; simp [hF, ha]
      rw [hs]
      exact (ack_yes g b wd s.many c.town c.level c.number c.warden s.F w hp.rep o hF ha).mono fun e w' ⟨he, ho, hr⟩ => ⟨he, ho, ⟨hr⟩⟩

end Go.Proofs.Ytlhaoiplbebgnaa
