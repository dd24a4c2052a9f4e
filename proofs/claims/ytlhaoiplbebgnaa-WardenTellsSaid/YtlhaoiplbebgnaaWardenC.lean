/- The walks of package warden: Open, Due. -/
import Derived.Test.YtlhaoiplbebgnaaWardenB
set_option linter.unusedSimpArgs false
set_option linter.unusedVariables false
namespace Go.Proofs.Ytlhaoiplbebgnaa
open Go.RowKit

def openB (F : Int → Option Od) (t : Nat) : Bool := match F (t : Int) with
  | some o => !o.fin
  | none => false
def openL (F : Int → Option Od) (k : Nat) : List Int := ((List.range k).filter (openB F)).map fun (t : Nat) => (t : Int)
theorem openL_succ (F : Int → Option Od) (k : Nat) : openL F (k + 1) = openL F k ++ if openB F k then [(k : Int)] else [] := by
  unfold openL
  rw [List.range_succ, List.filter_append, List.map_append]
  congr 1
  by_cases h : openB F k = true
  · simp [h]
  · simp [h]
theorem openL_len (F : Int → Option Od) (k : Nat) : (openL F k).length ≤ k := by
  unfold openL
  rw [List.length_map]
  exact Nat.le_trans (List.length_filter_le _ _) (by simp)

theorem info_int : (Try.prog.info? 3).map (fun i => (i.zero, i.size, i.bytes)) = some (some (.int .i64 0), 1, 8) := by kernel_rfl

def OpenRel (w wr : World) (F : Int → Option Od) (k : Nat) (out : Value) : Prop :=
  Below w.heap.size w wr ∧ wr.ownsRow w.heap.size 3 1 out (openL F k).length ((openL F k).flatMap fun n => [.int .i64 n])

set_option maxRecDepth 100000 in
set_option maxHeartbeats 400000 in
theorem open_any (g b : Nat) (wd many : Int) (F : Int → Option Od) (w : World) (hp : PostR w g b wd many F) :
    Calls Try.prog 32 #[.pointer (some ⟨g, 0, none⟩)] w fun e w' =>
      ∃ A cap, e = .returned (.slice A (openL F 40).length cap) ∧ Below w.heap.size w w' ∧ Sl (Pl fun n => [.int .i64 n]) 1 w' w'.heap.size A (openL F 40).length (openL F 40) := by
  obtain ⟨i0, ti0, ti1, ti2, ti3⟩ := info_parts info_int
  have HP := Lib.hid hp
  clear hp
  go_enter Try.func32, Try.ntmps32
  go_wp2
  go_loopw [3, 7] (fun out i wr => ∃ k : Nat, k ≤ 40 ∧ i = .int .i64 k ∧ OpenRel w wr F k out) (fun _ i _ => 40 - (intOf i).toNat)
  case atStart => exact ⟨0, by omega, rfl, Below.refl _ _, World.ownsRow_nil _ _ _ _⟩
  case round =>
    obtain ⟨k, hk, rfl, hb, ho⟩ := hrel
    by_cases hlt : k < 40
    · have hpr := HP.out.below hb HP.out.cells.lt HP.out.map.lt
      have hlk := hpr.map.run_lookup (P := Try.prog) (t := 67) Try.underlying67 Try.underlying3 (zero_od _) (k : Int) true
      have c := hpr.cells.cell
      have hO := Lib.hid ho
      have hop := openL_succ F k
      have HOP := Lib.hid hop
      have hlen := openL_len F k
      have hs := hb.size
      simp only [if_true] at hlk
      clear ho hop hpr
      cases hF : F (k : Int) with
      | none =>
        have hob : openB F k = false := by simp [openB, hF]
        simp only [hF, Option.map_none, Option.getD_none, Option.isSome_none] at hlk
        have HOB := Lib.hid hob
        clear hF hob
        go_wp2
        go_roundw
        case rel => exact ⟨k + 1, by omega, by go_num, hb.alloc hs _, by rw [HOP.out, HOB.out]; simpa using hO.out.alloc _⟩
        case measure => simp [intOf]; omega
      | some o =>
        obtain ⟨ol, on, oh, fin⟩ := o
        cases fin with
        | true =>
          have hob : openB F k = false := by simp [openB, hF]
          simp only [hF, Option.map_some, Option.getD_some, Option.isSome_some, odV] at hlk
          have HOB := Lib.hid hob
          clear hF hob
          go_wp2
          go_roundw
          case rel => exact ⟨k + 1, by omega, by go_num, hb.alloc hs _, by rw [HOP.out, HOB.out]; simpa using hO.out.alloc _⟩
          case measure => simp [intOf]; omega
        | false =>
          have hob : openB F k = true := by simp [openB, hF]
          simp only [hF, Option.map_some, Option.getD_some, Option.isSome_some, odV] at hlk
          have HOB := Lib.hid hob
          clear hF hob
          go_wp2_with (at_builtin; go_must (refine wpList_append_own _ rfl (.tmp 25) (.tmp 27) _ rfl w.heap.size 3 i0 (.int .i64 0) 1 8 Try.underlying51 ti0 ti1 ti2 ti3 rfl (by decide) u3 (openL F k).length ((openL F k).flatMap fun n => [.int .i64 n]) rfl ?hown ⟨wr.heap.size + 1, 0, none⟩ 1 1 [.int .i64 (k : Int)] rfl rfl ?c1 ?c2 ?c3 ?c4 ?c5 ?_))
          case hown => exact (hO.out.alloc _).alloc _
          case c1 => exact new_cells _ (by simp) _ _
          case c2 => intro u hu; simp at hu; subst hu; rfl
          case c3 => unfold maxLen; omega
          case c4 => omega
          case c5 => simp; omega
          intro v2 w2 hown2 hg2 _
          have hbw : Below w.heap.size w w2 := ((hb.alloc hs _).alloc (by simp; omega) _).grown hg2 (by simp; omega) (fun j hj => (hO.out.lt j hj).1)
          have HR : Hid (OpenRel w w2 F (k + 1) v2) := by
            refine ⟨hbw, ?_⟩
            rw [HOP.out, HOB.out]
            simpa using hown2
          clear c hlk hg2 hown2
          go_wp2
          go_roundw
          case rel => exact ⟨k + 1, by omega, by go_num, HR.out⟩
          case measure => simp [intOf]; omega
    · have hk40 : k = 40 := by omega
      subst hk40
      go_wp2
      obtain ⟨A', cap', rfl, hsl⟩ := Sl.of_own (sz := 1) (fun _ => rfl) (by decide) ho
      go_ret
      exact ⟨A', cap', rfl, hb, hsl⟩

end Go.Proofs.Ytlhaoiplbebgnaa
