/- The walks of package warden: Due. -/
import Derived.Test.YtlhaoiplbebgnaaWardenC
set_option linter.unusedSimpArgs false
set_option linter.unusedVariables false
namespace Go.Proofs.Ytlhaoiplbebgnaa
open Go.RowKit

structure Cl where
  town : Int
  level : Int
  number : Int
  warden : Int
def callC (c : Cl) : List Value := [.int .i64 c.town, .int .i64 c.level, .int .i64 c.number, .int .i64 c.warden]

/-- How many wardens are called in an hour. -/
def nDue (wd hour oh : Int) : Nat := if oh ≤ hour then (min wd ((hour - oh) / 3 + 1)).toNat else 0
def callsN (t : Int) (o : Od) (n : Nat) : List Cl := (List.range n).map fun (w : Nat) => ⟨t, o.level, o.number, (w : Int)⟩
def callsT (F : Int → Option Od) (wd hour t : Int) : List Cl := match F t with
  | some o => callsN t o (nDue wd hour o.hour)
  | none => []
def dueL (F : Int → Option Od) (wd hour : Int) : List Cl := (openL F 40).flatMap (callsT F wd hour)

theorem callsN_succ (t : Int) (o : Od) (n : Nat) : callsN t o (n + 1) = callsN t o n ++ [⟨t, o.level, o.number, (n : Int)⟩] := by simp [callsN, List.range_succ]
theorem callsN_len (t : Int) (o : Od) (n : Nat) : (callsN t o n).length = n := by simp [callsN]
theorem callsT_len (F : Int → Option Od) {wd : Int} (hwd : wd ≤ 16) (hour t : Int) : (callsT F wd hour t).length ≤ 16 := by
  unfold callsT
  split
  · rw [callsN_len, nDue]; split <;> omega
  · simp
theorem flat_len {α β : Type} (f : α → List β) (n : Nat) : ∀ (l : List α), (∀ x ∈ l, (f x).length ≤ n) → (l.flatMap f).length ≤ l.length * n
  | [], _ => by simp
  | x :: r, h => by
    have h1 := h x (List.mem_cons.2 (Or.inl rfl))
    have h2 := flat_len f n r (fun y hy => h y (List.mem_cons.2 (Or.inr hy)))
    rw [List.flatMap_cons, List.length_append, List.length_cons, Nat.add_mul]
    omega
theorem dueL_take_len (F : Int → Option Od) {wd : Int} (hwd : wd ≤ 16) (hour : Int) (k : Nat) : (((openL F 40).take k).flatMap (callsT F wd hour)).length ≤ 640 := by
  have h1 := flat_len (callsT F wd hour) 16 ((openL F 40).take k) (fun x _ => callsT_len F hwd hour x)
  have h2 := openL_len F 40
  have h3 : ((openL F 40).take k).length ≤ (openL F 40).length := by rw [List.length_take]; omega
  omega

theorem openL_mem {F : Int → Option Od} {n : Nat} {t : Int} (h : t ∈ openL F n) : ∃ o, F t = some o ∧ o.fin = false ∧ 0 ≤ t ∧ t < n := by
  unfold openL at h
  obtain ⟨k, hk, rfl⟩ := List.mem_map.1 h
  obtain ⟨hr, ho⟩ := List.mem_filter.1 hk
  unfold openB at ho
  split at ho
  · rename_i o hF
    exact ⟨o, hF, by simpa using ho, by omega, by simpa using List.mem_range.1 hr⟩
  · cases ho

theorem own_bk_ne {w : World} {base : Nat} {e : TypeId} {sz n : Nat} {v : Value} {xs : List Value} {g : Nat} {t : TypeId} {cs : Array Value} (h : w.ownsRow base e sz v n xs) (hg : Bk w g t cs) (hne : e ≠ t) : v.ownBlock ≠ some g := by
  rcases h.2 with ⟨rfl, _⟩ | ⟨g', cap, cur, rfl, _, hh, _⟩
  · simp [Value.ownBlock]
  · intro he
    have : g' = g := by simpa [Value.ownBlock] using he
    subst this
    unfold Bk at hg
    rw [hh] at hg
    injection hg with hg
    injection hg with _ h2
    exact hne h2

theorem info_call : (Try.prog.info? 42).map (fun i => (i.zero, i.size, i.bytes)) = some (some (.agg #[.int .i64 0, .int .i64 0, .int .i64 0, .int .i64 0]), 4, 32) := by kernel_rfl

theorem own_lower {w : World} {base : Nat} {e : TypeId} {sz n cap : Nat} {A : Option Addr} {xs : List Value} (h : w.ownsRow base e sz (.slice A n cap) n xs) : ∀ a, A = some a → base ≤ a.block := by
  intro a ha
  subst ha
  exact (h.lt a.block rfl).1

def DueRel (w1 wr : World) (done : List Cl) (out : Value) : Prop :=
  Below w1.heap.size w1 wr ∧ wr.ownsRow w1.heap.size 42 4 out done.length (done.flatMap callC)

def InnerRel (w1 wr wi : World) (done : List Cl) (t : Int) (o : Od) (m : Nat) (out : Value) : Prop :=
  Below w1.heap.size w1 wi ∧ Bk wi wr.heap.size 74 #[.int .i64 o.level, .int .i64 o.number, .int .i64 o.hour, .bool false] ∧
  wi.ownsRow w1.heap.size 42 4 out (done.length + m) ((done ++ callsN t o m).flatMap callC)

theorem nDue_lt {wd hour oh : Int} {m : Nat} (h : m < nDue wd hour oh) : oh ≤ hour ∧ (m : Int) < wd ∧ (m : Int) ≤ (hour - oh) / 3 := by
  unfold nDue at h
  split at h <;> omega
theorem nDue_ge {wd hour oh : Int} {m : Nat} (h : ¬ m < nDue wd hour oh) : hour < oh ∨ (oh ≤ hour ∧ wd ≤ (m : Int)) ∨ (oh ≤ hour ∧ (m : Int) < wd ∧ (hour - oh) / 3 < (m : Int)) := by
  unfold nDue at h
  split at h <;> omega

set_option maxRecDepth 100000 in
set_option maxHeartbeats 1000000 in
theorem due_any (g b : Nat) (wd many hour : Int) (F : Int → Option Od) (w : World) (hp : PostR w g b wd many F) (hwd : wd ≤ 16) (hh : -9223372036854775808 ≤ hour ∧ hour ≤ 9223372036854775807) (hF : ∀ t o, F t = some o → 0 ≤ o.hour ∧ o.hour ≤ 16777216) :
    Calls Try.prog 29 #[.pointer (some ⟨g, 0, none⟩), .int .i64 hour] w fun e w' =>
      ∃ A cap, e = .returned (.slice A (dueL F wd hour).length cap) ∧ Below w.heap.size w w' ∧ (∀ a, A = some a → w.heap.size ≤ a.block) ∧ Sl (Pl callC) 4 w' w'.heap.size A (dueL F wd hour).length (dueL F wd hour) := by
  obtain ⟨i0, ti0, ti1, ti2, ti3⟩ := info_parts info_call
  have HP := Lib.hid hp
  have HFF := Lib.hid hF
  clear hp hF
  go_enter Try.func29, Try.ntmps29
  go_wp2_with fail
  refine (open_any g b wd many F _ HP.out).mono ?_
  rintro e w1 ⟨A, cap, rfl, hb1, hs1⟩
  have hp1 := HP.out.below hb1 HP.out.cells.lt HP.out.map.lt
  have HP1 := Lib.hid hp1
  have hlo := openL_len F 40
  have hz1 := hb1.size
  clear hp1
  generalize hN : (openL F 40).length = N at *
  have HN := Lib.hid hN
  clear hN
  go_wp2
  go_loopw [5, 13] (fun out i wr => ∃ k : Nat, k ≤ N ∧ i = .int .i64 k ∧ DueRel w1 wr (((openL F 40).take k).flatMap (callsT F wd hour)) out) (fun _ i _ => N - (intOf i).toNat)
  case atStart => exact ⟨0, by omega, rfl, Below.refl _ _, World.ownsRow_nil _ _ _ _⟩
  case round =>
    obtain ⟨k, hk, rfl, hb, ho⟩ := hrel
    by_cases hlt : k < N
    · obtain ⟨bo, oo, t, rfl, hbl, ht, hct⟩ := hs1.at_ hlt
      obtain ⟨o, hFo, hfin, ht0, ht1⟩ := openL_mem (List.mem_of_getElem? ht)
      have hho := HFF.out t o hFo
      have hpr := HP1.out.below hb HP1.out.cells.lt HP1.out.map.lt
      have hlk := hpr.map.run_lookup (P := Try.prog) (t := 67) Try.underlying67 Try.underlying3 (zero_od _) t false
      simp only [hFo, Option.map_some, Option.getD_some, odV, hfin] at hlk
      have e0 := hct wr hb 0 _ rfl
      simp only [Nat.add_zero, Nat.mul_one] at e0
      have c := hpr.cells.cell
      have hO := Lib.hid ho
      have HT := Lib.hid ht
      have HFO := Lib.hid hFo
      have hs := hb.size
      have hkn : (k : Int) < (N : Int) := by omega
      clear ho hpr hct ht hFo
      have hdl := dueL_take_len F hwd hour k
      have hend : ((openL F 40).take (k + 1)).flatMap (callsT F wd hour) = ((openL F 40).take k).flatMap (callsT F wd hour) ++ callsN t o (nDue wd hour o.hour) := by
        rw [List.take_add_one, HT.out, List.flatMap_append]
        simp [callsT, HFO.out]
      have HE := Lib.hid hend
      clear hend
      generalize hdone : ((openL F 40).take k).flatMap (callsT F wd hour) = done at *
      have HD := Lib.hid hdone
      clear hdone
      have hnd : nDue wd hour o.hour ≤ 16 := by unfold nDue; split <;> omega
      obtain ⟨wo, rfl⟩ : ∃ wo : World, wo = wr := ⟨_, rfl⟩
      go_wp2
      go_loopw [5, 9] (fun out i wi => ∃ m : Nat, m ≤ nDue wd hour o.hour ∧ i = .int .i64 m ∧ InnerRel w1 wo wi done t o m out) (fun _ i _ => nDue wd hour o.hour - (intOf i).toNat)
      case atStart => exact ⟨0, Nat.zero_le _, rfl, hb.alloc hs _, Bk.new wo _ _, by simpa [callsN] using hO.out.alloc _⟩
      case round =>
        obtain ⟨m, hm, rfl, hbi, hki, hoi⟩ := hrel
        have ci := ((HP1.out.below hbi HP1.out.cells.lt HP1.out.map.lt)).cells.cell
        have di : ∀ i, wr.cell? ⟨wo.heap.size, i, none⟩ = #[.int .i64 o.level, .int .i64 o.number, .int .i64 o.hour, .bool false][i]? := hki.cell
        have hzi := hbi.size
        have hli := hki.lt
        have HKI := Lib.hid hki
        have HOI := Lib.hid hoi
        clear c hki hoi hlk e0
        by_cases hmn : m < nDue wd hour o.hour
        · obtain ⟨hA, hB, hC⟩ := nDue_lt hmn
          go_wp2_with (at_builtin; go_must (refine wpList_append_own _ rfl (.tmp 46) (.tmp 54) _ rfl w1.heap.size 42 i0 (.agg #[.int .i64 0, .int .i64 0, .int .i64 0, .int .i64 0]) 4 32 Try.underlying48 ti0 ti1 ti2 ti3 rfl (by decide) u5 (done.length + m) ((done ++ callsN t o m).flatMap callC) rfl ?hown ⟨wr.heap.size, 0, none⟩ 1 1 (callC ⟨t, o.level, o.number, (m : Int)⟩) rfl rfl ?c1 ?c2 ?c3 ?c4 ?c5 ?_))
          case hown => exact HOI.out.alloc _
          case c1 => exact new_cells _ (by simp) _ _
          case c2 => intro u hu; simp [callC] at hu; rcases hu with rfl | rfl | rfl | rfl <;> rfl
          case c3 => unfold maxLen; omega
          case c4 => omega
          case c5 => simp; omega
          intro v2 w2 hown2 hg2 _
          have hob : ∀ j, u5.ownBlock = some j → w1.heap.size ≤ j := fun j hj => (HOI.out.lt j hj).1
          have hne := own_bk_ne HOI.out HKI.out (by decide)
          have hbw : Below w1.heap.size w1 w2 := (hbi.alloc hzi _).grown hg2 (by simp; omega) (fun j hj => hob j hj)
          have hk2 : Bk w2 wo.heap.size 74 _ := (HKI.out.alloc _).grown hg2 (fun e => hne e.symm)
          have HR : Hid (InnerRel w1 wo w2 done t o (m + 1) v2) := by
            refine ⟨hbw, hk2, ?_⟩
            rw [callsN_succ, ← List.append_assoc, List.flatMap_append]
            simpa [Nat.add_assoc] using hown2
          clear ci di hg2 hown2 hbw hk2
          go_wp2
          go_roundw
          case rel => exact ⟨m + 1, by omega, by go_num, HR.out⟩
          case measure => simp [intOf]; omega
        · have hmm : m = nDue wd hour o.hour := by omega
          have HMM := Lib.hid hmm
          have REL : Hid (∃ k' : Nat, k' ≤ N ∧ Value.int .i64 ((k : Int) + 1) = .int .i64 (k' : Int) ∧ DueRel w1 wr (((openL F 40).take k').flatMap (callsT F wd hour)) u5) := by
            refine ⟨k + 1, by omega, by go_num, hbi, ?_⟩
            rw [HE.out, ← HMM.out, List.length_append, callsN_len]
            exact HOI.out
          clear hmm
          rcases nDue_ge hmn with h | ⟨h1, h2⟩ | ⟨h1, h2, h3⟩
          all_goals
            go_wp2
            go_roundw
            case rel => exact REL.out
            case measure => simp [intOf]; omega
    · have hkN : k = N := by omega
      subst hkN
      go_wp2
      rw [List.take_of_length_le (by rw [HN.out]; exact Nat.le_refl _)] at ho
      obtain ⟨A', cap', rfl, hsl⟩ := Sl.of_own (sz := 4) (fun _ => rfl) (by decide) ho
      have hlow := own_lower ho
      go_ret
      exact ⟨A', cap', rfl, hb1.trans (hb.mono hz1), fun a ha => Nat.le_trans hz1 (hlow a ha), hsl⟩

end Go.Proofs.Ytlhaoiplbebgnaa
