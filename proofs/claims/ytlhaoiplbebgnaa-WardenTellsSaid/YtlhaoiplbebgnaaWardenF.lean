/- The law file's run: it raises and acknowledges. -/
import Derived.Test.YtlhaoiplbebgnaaWardenE
set_option linter.unusedSimpArgs false
set_option linter.unusedVariables false
namespace Go.Proofs.Ytlhaoiplbebgnaa
open Go.RowKit

structure Stp where
  kind : Int
  town : Int
  level : Int
  hour : Int
  call : Cl
def stepC (x : Stp) : List Value := [.int .i64 x.kind, .int .i64 x.town, .int .i64 x.level, .int .i64 x.hour, .int .i64 x.call.town, .int .i64 x.call.level, .int .i64 x.call.number, .int .i64 x.call.warden]
def doK (k : Int) : Int := bits .and .i64 k 3
def stepS (wd : Int) (s : St) (x : Stp) : St := if doK x.kind = 0 then raiseS s x.town x.level x.hour else if doK x.kind = 1 then ackS wd s x.call else s
def runS (wd : Int) (s : St) (l : List Stp) : St := l.foldl (stepS wd) s
theorem take_snocS {α : Type} {l : List α} {k : Nat} {x : α} (h : l[k]? = some x) : l.take (k + 1) = l.take k ++ [x] := by
  rw [List.take_add_one, h]; rfl
theorem runS_take {wd : Int} {s : St} {l : List Stp} {k : Nat} {x : Stp} (h : l[k]? = some x) : runS wd s (l.take (k + 1)) = stepS wd (runS wd s (l.take k)) x := by
  rw [take_snocS h]; simp [runS]
theorem Good.step {s : St} {n : Nat} (h : Good s n) (wd : Int) (x : Stp) : Good (stepS wd s x) (n + 1) := by
  unfold stepS
  split
  · exact h.raise _ _ _
  · split
    · exact (h.ack wd _).mono (by omega)
    · exact h.mono (by omega)
theorem Good.run {wd : Int} : ∀ {l : List Stp} {s : St} {n : Nat}, Good s n → Good (runS wd s l) (n + l.length)
  | [], s, n, h => h
  | x :: r, s, n, h => by
    have := Good.run (wd := wd) (l := r) (h.step wd x)
    rw [List.length_cons, show n + (r.length + 1) = n + 1 + r.length by omega]
    exact this

set_option maxRecDepth 100000 in
set_option maxHeartbeats 1000000 in
theorem run_warden (g b : Nat) (wd : Int) (s : St) (A : Option Addr) (n cap B : Nat) (l : List Stp) (w : World) (hn : n ≤ 1000) (hgd : Good s 1000) (hp : Post w g b wd s) (hs : Sl (Pl stepC) 8 w B A n l) (hBg : B ≤ g) (hBb : B ≤ b) :
    Calls Try.prog 34 #[.pointer (some ⟨g, 0, none⟩), .slice A n cap] w fun e w' => e = .returned (.tuple #[]) ∧ Only2 w w' g b ∧ Post w' g b wd (runS wd s l) := by
  have hBw : B ≤ w.heap.size := Nat.le_of_lt (Nat.lt_of_le_of_lt hBg hp.rep.cells.lt)
  have HP := Lib.hid hp
  have HG := Lib.hid hgd
  clear hp hgd
  go_enter Try.func34, Try.ntmps34
  go_wp2
  go_loopw [4] (fun i wr => ∃ k : Nat, k ≤ n ∧ i = .int .i64 k ∧ Only2 w wr g b ∧ Post wr g b wd (runS wd s (l.take k))) (fun i _ => n - (intOf i).toNat)
  case atStart => exact ⟨0, Nat.zero_le _, rfl, Only2.refl _ _ _, HP.out⟩
  case round =>
    obtain ⟨k, hk, rfl, hb, hpr⟩ := hrel
    by_cases hlt : k < n
    · obtain ⟨bo, oo, x, rfl, hbl, hx, hc⟩ := hs.at_ hlt
      have hbB := hb.to_below hBg hBb hBw
      have e0 := hc wr hbB 0 _ rfl
      have e1 := hc wr hbB 1 _ rfl
      have e2 := hc wr hbB 2 _ rfl
      have e3 := hc wr hbB 3 _ rfl
      have e4 := hc wr hbB 4 _ rfl
      have e5 := hc wr hbB 5 _ rfl
      have e6 := hc wr hbB 6 _ rfl
      have e7 := hc wr hbB 7 _ rfl
      simp only [Nat.add_zero] at e0
      have hkn : (k : Int) < (n : Int) := by omega
      have hk0 : (0 : Int) ≤ (k : Int) := by omega
      have hl : l.length = n := hs.1
      have hgk : Good (runS wd s (l.take k)) (1000 + 1000) := (Good.run HG.out).mono (by rw [List.length_take]; omega)
      have hstep := runS_take (wd := wd) (s := s) hx
      have HS := Lib.hid hstep
      have HPR := Lib.hid hpr
      have HGK := Lib.hid hgk
      clear hstep hpr hx hc hgk hs hl
      generalize hst : runS wd s (l.take k) = sk at *
      have HST := Lib.hid hst
      clear hst
      generalize hdo : doK x.kind = d
      have hb3 : bits .and .i64 x.kind 3 = d := hdo
      have RE : ∀ s' W, stepS wd sk x = s' → Only2 wr W g b → Post W g b wd s' → ∃ k' : Nat, k' ≤ n ∧ Value.int .i64 ((k : Int) + 1) = .int .i64 (k' : Int) ∧ Only2 w W g b ∧ Post W g b wd (runS wd s (l.take k')) :=
        fun s' W h1 h2 h3 => ⟨k + 1, by omega, by go_num, hb.trans h2, by rw [HS.out, h1]; exact h3⟩
      have RR := Lib.hid RE
      have HDO := Lib.hid hdo
      clear RE hdo
      by_cases hd0 : d = 0
      · have hd0b : (d == 0) = true := by simp [hd0]
        have HD0 := Lib.hid hd0
        clear hd0
        go_wp2_with fail
        refine wp_region_headA 16 [] (fun _ w' => w' = wr.drew) (by kernel_rfl) (by kernel_rfl) (by kernel_rfl) rfl ?_
        iterate 16 (refine chain_pureA (by decide) (by rfl) ?_; apply Exists.intro; apply And.intro; (case left => (intro β w hSw; (try dsimp only at hSw); go_simp; try with_reducible rfl)); (try simp only [Act.put, List.setIfInBounds_toArray, List.set_cons_zero, List.set_cons_succ]))
        intro W hSW
        subst hSW
        go_wp2_with fail
        refine (raise_any g b wd _ _ _ sk 2000 (by omega) HGK.out _ (HPR.out.below (Below.refl _ _).drew)).mono ?_
        rintro e W2 ⟨rfl, ho2, hp2⟩
        go_wp2
        go_roundw
        case rel => exact RR.out _ _ (by unfold stepS; rw [HDO.out, HD0.out]; rfl) ⟨ho2.os, ho2.tape, ho2.output, ho2.size, ho2.block⟩ hp2
        case measure => simp [intOf]; omega
      · have hd0b : (d == 0) = false := by simp [hd0]
        by_cases hd1 : d = 1
        · have hd1b : (d == 1) = true := by simp [hd1]
          have HD0 := Lib.hid hd0
          have HD1 := Lib.hid hd1
          clear hd0 hd1
          go_wp2_with fail
          refine (ack_any g b wd x.call sk _ HPR.out).mono ?_
          rintro e W2 ⟨rfl, ho2, hp2⟩
          go_wp2
          go_roundw
          case rel => exact RR.out _ _ (by unfold stepS; rw [HDO.out, if_neg HD0.out, if_pos HD1.out]) ho2 hp2
          case measure => simp [intOf]; omega
        · have hd1b : (d == 1) = false := by simp [hd1]
          have HD0 := Lib.hid hd0
          have HD1 := Lib.hid hd1
          clear hd0 hd1
          go_wp2
          go_roundw
          case rel => exact RR.out _ _ (by unfold stepS; rw [HDO.out, if_neg HD0.out, if_neg HD1.out]) (Only2.refl _ _ _) HPR.out
          case measure => simp [intOf]; omega
    · have hkn : k = n := by omega
      subst hkn
      rw [List.take_of_length_le (by rw [hs.1]; exact Nat.le_refl _)] at hpr
      have HPR := Lib.hid hpr
      clear hpr
      go_wp2
      go_end0
      exact ⟨rfl, hb, HPR.out⟩

end Go.Proofs.Ytlhaoiplbebgnaa
