/- A call in a region that draws its order, walked in the order of the text. -/
import Derived.Test.YtmkbojhnbkdalaaRegionA
set_option linter.unusedVariables false
namespace Go.Proofs.Ytmkbojhnbkdalaa
open Go.RowKit

theorem chain_callA {P : Program} {ops : Array Oper} {S : Nat → World → Prop} {ts : List Nat} {T : Act → Prop} {r : List Oper} {i : Nat} {a : Act} {o : Oper} (hne : i ∉ ts) (hw : Region.wanted o (yielded ops a.tmps) = true)
    (h : ∃ f args, (∀ w, (execOp a.eval o).run P w = .ok (.enter f args) w) ∧ ∃ v, (∀ β w, S β w → Calls P f args w (fun e w' => e = .returned v ∧ S β w')) ∧ ChainLA P ops S ts T r (i + 1) (a.put o.dst v)) : ChainLA P ops S ts T (o :: r) i a :=
  let ⟨f, args, h1, v, h2, h3⟩ := h
  ⟨v, ⟨fun e => absurd e hne, fun _ => .inl ⟨hw, fun β w hS => .inr ⟨f, args, h1 w, h2 β w hS⟩⟩⟩, h3⟩

end Go.Proofs.Ytmkbojhnbkdalaa
