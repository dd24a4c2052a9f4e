/- The plain law of AlarmGauges: what a quorum is as a number of keys. -/
import Derived.Test.YtmkbojhnbkdalaaGauD
import Derived.Test.YtmkbojhnbkdalaaBasW
set_option linter.unusedSimpArgs false
set_option linter.unusedVariables false
namespace Go.Proofs.Ytmkbojhnbkdalaa
open Go.RowKit

theorem addK_mem {ks : List Int} {k x : Int} : x ∈ addK ks k ↔ x ∈ ks ∨ x = k := by
  unfold addK
  split
  · rename_i h
    constructor
    · exact Or.inl
    · rintro (h1 | rfl)
      · exact h1
      · exact h
  · simp
theorem addK_nodup {ks : List Int} {k : Int} (h : ks.Nodup) : (addK ks k).Nodup := by
  unfold addK
  split
  · exact h
  · rename_i hn
    rw [List.nodup_append]
    refine ⟨h, by simp, fun a ha b hb e => ?_⟩
    simp only [List.mem_singleton] at hb
    subst hb
    subst e
    exact hn ha
theorem addK_len (ks : List Int) (k : Int) : (addK ks k).length ≤ ks.length + 1 := by
  unfold addK
  split
  · omega
  · simp
section
variable {b : Bas} {t : Twn}
theorem qFold_mem : ∀ (l : List Rdg) (ks : List Int) (x : Int), x ∈ l.foldl (qStep b t) ks ↔ x ∈ ks ∨ ∃ r ∈ l, hitB b t r = true ∧ r.gauge = x
  | [], ks, x => by simp
  | r :: l, ks, x => by
    rw [List.foldl_cons, qFold_mem l]
    unfold qStep
    constructor
    · rintro (h | ⟨r', hr', h1, h2⟩)
      · split at h
        · rename_i hh
          rcases addK_mem.1 h with h1 | h1
          · exact .inl h1
          · exact .inr ⟨r, List.mem_cons_self, hh, h1.symm⟩
        · exact .inl h
      · exact .inr ⟨r', List.mem_cons_of_mem _ hr', h1, h2⟩
    · rintro (h | ⟨r', hr', h1, h2⟩)
      · left
        split
        · exact addK_mem.2 (.inl h)
        · exact h
      · rcases List.mem_cons.1 hr' with e | hm
        · left
          rw [← e, if_pos h1]
          exact addK_mem.2 (.inr h2.symm)
        · exact .inr ⟨r', hm, h1, h2⟩
theorem qFold_nodup : ∀ (l : List Rdg) (ks : List Int), ks.Nodup → (l.foldl (qStep b t) ks).Nodup
  | [], ks, h => h
  | r :: l, ks, h => by
    rw [List.foldl_cons]
    refine qFold_nodup l _ ?_
    unfold qStep
    split
    · exact addK_nodup h
    · exact h
theorem qFold_len : ∀ (l : List Rdg) (ks : List Int), (l.foldl (qStep b t) ks).length ≤ ks.length + (l.filter (hitB b t)).length
  | [], ks => by simp
  | r :: l, ks => by
    rw [List.foldl_cons]
    have ih := qFold_len l (qStep b t ks r)
    unfold qStep at ih ⊢
    rw [List.filter_cons]
    cases hh : hitB b t r with
    | true =>
      rw [hh] at ih
      simp only [if_true] at ih ⊢
      have := addK_len ks r.gauge
      rw [List.length_cons]
      omega
    | false =>
      rw [hh] at ih
      simp only [Bool.false_eq_true, if_false] at ih ⊢
      exact ih
theorem nodup_le : ∀ {l m : List Int}, l.Nodup → (∀ x ∈ l, x ∈ m) → l.length ≤ m.length
  | [], m, _, _ => by simp
  | a :: l, m, h, hs => by
    obtain ⟨h1, h2⟩ := List.nodup_cons.1 h
    have ha := hs a List.mem_cons_self
    have ih := nodup_le (m := m.erase a) h2 (fun x hx => by
      have hxa : x ≠ a := fun e => h1 (e ▸ hx)
      exact (List.mem_erase_of_ne hxa).2 (hs x (List.mem_cons_of_mem _ hx)))
    rw [List.length_erase_of_mem ha] at ih
    have := List.length_pos_of_mem ha
    rw [List.length_cons]
    omega
/-- A quorum needs as many readings that are surely above. -/
theorem quorum_count {l : List Rdg} (h : quorumB b t l = true) : t.quorum ≤ ((l.filter (hitB b t)).length : Int) := by
  unfold quorumB at h
  simp only [Bool.and_eq_true, decide_eq_true_eq] at h
  have := qFold_len (b := b) (t := t) l []
  unfold qKeys at h
  simp only [List.length_nil, Nat.zero_add] at this
  omega
/-- Readings of other gauges have no influence. -/
theorem quorum_own (l : List Rdg) : quorumB b t (l.filter (relB b t.place)) = quorumB b t l := by
  have key : ∀ (l : List Rdg) (ks : List Int), (l.filter (relB b t.place)).foldl (qStep b t) ks = l.foldl (qStep b t) ks := by
    intro l
    induction l with
    | nil => intro ks; rfl
    | cons r l ih =>
      intro ks
      rw [List.filter_cons]
      cases hr : relB b t.place r with
      | true => simp only [if_true, List.foldl_cons]; exact ih _
      | false =>
        simp only [Bool.false_eq_true, if_false, List.foldl_cons]
        rw [ih]
        congr 1
        unfold qStep hitB
        rw [hr]
        rfl
  unfold quorumB qKeys
  rw [key]
/-- A further reading takes no quorum away. -/
theorem quorum_more {l : List Rdg} (m : Rdg) (h : quorumB b t l = true) : quorumB b t (m :: l) = true := by
  unfold quorumB at *
  simp only [Bool.and_eq_true, decide_eq_true_eq] at *
  refine ⟨h.1, ?_⟩
  have hle : (qKeys b t l).length ≤ (qKeys b t (m :: l)).length := by
    unfold qKeys
    refine nodup_le (qFold_nodup l [] (by simp)) (fun x hx => ?_)
    rw [qFold_mem] at hx ⊢
    rcases hx with hx | ⟨r, hr, h1, h2⟩
    · exact .inl hx
    · exact .inr ⟨r, List.mem_cons_of_mem _ hr, h1, h2⟩
  omega
end

set_option maxRecDepth 100000 in
set_option maxHeartbeats 1000000 in
theorem few_any (b : Bas) (w : World) (hp : b.pl.n ≤ maxLen) (hl : b.lk.n ≤ maxLen) : Calls Try.prog 5 #[.agg #[.string b.nm, .slice b.ow.a b.ow.n b.ow.c, .int .i64 b.cells, .slice b.pl.a b.pl.n b.pl.c, .slice b.lk.a b.lk.n b.lk.c, .slice b.tw.a b.tw.n b.tw.c, .slice b.gg.a b.gg.n b.gg.c, .slice b.rd.a b.rd.n b.rd.c, .slice b.sh.a b.sh.n b.sh.c, .slice b.room.a b.room.n b.room.c, .int .i64 b.err], .slice none 0 0, .slice none 0 0] w fun e w' => (∃ v, e = .returned (.bool v)) ∧ Below w.heap.size w w' := by
  obtain ⟨W1, hW1⟩ : ∃ z, z = w.alloc (.cells #[.string b.nm, .slice b.ow.a b.ow.n b.ow.c, .int .i64 b.cells, .slice b.pl.a b.pl.n b.pl.c, .slice b.lk.a b.lk.n b.lk.c, .slice b.tw.a b.tw.n b.tw.c, .slice b.gg.a b.gg.n b.gg.c, .slice b.rd.a b.rd.n b.rd.c, .slice b.sh.a b.sh.n b.sh.c, .slice b.room.a b.room.n b.room.c, .int .i64 b.err] 31) := ⟨_, rfl⟩
  have c1 : ∀ j, W1.cell? ⟨w.heap.size, j, none⟩ = (#[.string b.nm, .slice b.ow.a b.ow.n b.ow.c, .int .i64 b.cells, .slice b.pl.a b.pl.n b.pl.c, .slice b.lk.a b.lk.n b.lk.c, .slice b.tw.a b.tw.n b.tw.c, .slice b.gg.a b.gg.n b.gg.c, .slice b.rd.a b.rd.n b.rd.c, .slice b.sh.a b.sh.n b.sh.c, .slice b.room.a b.room.n b.room.c, .int .i64 b.err] : Array Value)[j]? := by rw [hW1]; exact (Bk.new w _ _).cell
  have HB1 := Lib.hid (show Below w.heap.size w W1 by rw [hW1]; exact (Below.refl _ _).alloc (Nat.le_refl _) _)
  have HW1 := Lib.hid hW1
  have p1 := two_byte hp
  have p2 := two_byte hl
  obtain ⟨v1, hv1⟩ : ∃ z, decide (b.pl.n ≤ 6) = z := ⟨_, rfl⟩
  obtain ⟨v2, hv2⟩ : ∃ z, decide (b.lk.n ≤ 6) = z := ⟨_, rfl⟩
  have g1 : decide ((6 : Int) < (b.pl.n : Int)) = !v1 := by rw [← hv1]; exact gt_le b.pl.n 6
  have g2 : decide ((6 : Int) < (b.lk.n : Int)) = !v2 := by rw [← hv2]; exact gt_le b.lk.n 6
  clear hW1 hp hl hv1 hv2
  go_enter Try.func5, Try.ntmps5
  go_upto_region 1 with fail
  rw [← HW1.out]
  cases v1
  · go_wp2_with fail
    go_ret
    exact ⟨⟨_, rfl⟩, HB1.out⟩
  cases v2
  · go_wp2_with fail
    go_ret
    exact ⟨⟨_, rfl⟩, HB1.out⟩
  go_wp2_with fail
  go_loopw [7] (fun i wr => i = .int .i64 0 ∧ wr = W1) (fun _ _ => 0)
  case atStart => exact ⟨rfl, rfl⟩
  case round =>
    obtain ⟨rfl, rfl⟩ := hrel
    go_wp2_with fail
    go_ret
    exact ⟨⟨_, rfl⟩, HB1.out⟩

end Go.Proofs.Ytmkbojhnbkdalaa
