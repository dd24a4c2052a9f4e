/- Small words of this claim's own: blocks known whole, slices that read as lists. -/
import Derived.Test.YtmkbojhnbkdalaaRows
import Derived.WalkKit
import Derived.WalkSpells
import Derived.WalkLawsBesides
import Derived.Lib.Hide
set_option linter.unusedSimpArgs false
namespace Go.Proofs.Ytmkbojhnbkdalaa
open Go.RowKit

theorem bcell {W w1 : World} (hb : Below W.heap.size W w1) : (∀ b o, b < W.heap.size → w1.cell? ⟨b, o, none⟩ = W.cell? ⟨b, o, none⟩) ∧ (∀ b o, b < W.heap.size → w1.frozen? ⟨b, o, none⟩ = W.frozen? ⟨b, o, none⟩) :=
  ⟨fun b o h => hb.cell (p := ⟨b, o, none⟩) h, fun b o h => hb.frozen (p := ⟨b, o, none⟩) h⟩

theorem ret_int {k : IntKind} {a b : Int} (h : a = b) : Ending.returned (.int k a) = .returned (.int k b) := by rw [h]
theorem ret_bool {a b : Bool} (h : a = b) : Ending.returned (.bool a) = .returned (.bool b) := by rw [h]

theorem below_toN {B : Nat} {a w : World} (h : Below B a w) (n : Nat) : Below B a (w.drewN n) := ⟨h.os, h.tape, h.output, h.size, h.block⟩

theorem below_of_drew {w w' : World} (h : Below w.drew.heap.size w.drew w') : Below w.heap.size w w' := ⟨h.os, h.tape, h.output, h.size, h.block⟩
theorem below_of_drewN {w w' : World} {n : Nat} (h : Below (w.drewN n).heap.size (w.drewN n) w') : Below w.heap.size w w' := ⟨h.os, h.tape, h.output, h.size, h.block⟩

/-- Block g is known whole. -/
def Bk (w : World) (g : Nat) (t : TypeId) (cs : Array Value) : Prop := w.heap[g]? = some (.cells cs t (0, 0))
section
variable {w w' : World} {g : Nat} {t : TypeId} {cs : Array Value}
theorem Bk.cell (h : Bk w g t cs) (i : Nat) : w.cell? ⟨g, i, none⟩ = cs[i]? := cell_of_row w g i cs t (0, 0) h
theorem Bk.frozen (h : Bk w g t cs) (i : Nat) : w.frozen? ⟨g, i, none⟩ = false := by
  unfold Bk at h
  simp [World.frozen?, h]
theorem Bk.lt (h : Bk w g t cs) : g < w.heap.size := by
  rcases Nat.lt_or_ge g w.heap.size with hlt | hge
  · exact hlt
  · unfold Bk at h; rw [Array.getElem?_eq_none hge] at h; cases h
theorem Bk.new (w : World) (t : TypeId) (cs : Array Value) : Bk (w.alloc (.cells cs t)) w.heap.size t cs := heap_alloc_new w _
theorem Bk.newAt (w : World) {k : Nat} (hk : k = w.heap.size) (t : TypeId) (cs : Array Value) : Bk (w.alloc (.cells cs t)) k t cs := by subst hk; exact heap_alloc_new w _
theorem Bk.drew (h : Bk w g t cs) : Bk w.drew g t cs := h
theorem Bk.drewN (h : Bk w g t cs) (n : Nat) : Bk (w.drewN n) g t cs := h
theorem Bk.alloc (h : Bk w g t cs) (o : Obj) : Bk (w.alloc o) g t cs := (Below.heap_alloc w o g h.lt).trans h
theorem Bk.set_ (h : Bk w g t cs) (i : Nat) (u : Value) : Bk (w.setCell ⟨g, i, none⟩ u) g t (cs.setIfInBounds i u) := by
  unfold Bk at h ⊢
  simp [World.setCell, Array.getElem?_modify, h]
theorem Bk.far (h : Bk w g t cs) {p : Addr} (hp : g ≠ p.block) (u : Value) : Bk (w.setCell p u) g t cs := (Below.heap_setCell w p u g hp).trans h
theorem Bk.below {B : Nat} (h : Bk w g t cs) (hb : Below B w w') (hg : g < B) : Bk w' g t cs := (hb.block g hg).trans h
theorem Bk.grown {row : Option Nat} (h : Bk w g t cs) (hb : w.grownBy w' row) (hg : some g ≠ row) : Bk w' g t cs := (hb.block g h.lt hg).trans h
end

/-- '.slice A n cap' reads as the list l; each element x takes sz cells and R says which. -/
def Sl {α : Type} (R : World → Nat → α → List Value → Prop) (sz : Nat) (w : World) (B : Nat) (A : Option Addr) (n : Nat) (l : List α) : Prop :=
  l.length = n ∧ ∀ k x, l[k]? = some x → ∃ b o vs, A = some ⟨b, o, none⟩ ∧ b < B ∧ R w B x vs ∧ ∀ j u, vs[j]? = some u → w.cell? ⟨b, o + k * sz + j, none⟩ = some u

/-- A plain element: its cells are a function of it. -/
def Pl {α : Type} (c : α → List Value) : World → Nat → α → List Value → Prop := fun _ _ x vs => vs = c x

/-- R lasts while nothing below B turns, and B may grow. -/
def Lasts {α : Type} (R : World → Nat → α → List Value → Prop) : Prop :=
  ∀ (w w' : World) (B B' : Nat) (x : α) (vs : List Value), Below B w w' → B ≤ B' → R w B x vs → R w' B' x vs

theorem Pl.lasts {α : Type} (c : α → List Value) : Lasts (Pl c) := fun _ _ _ _ _ _ _ _ h => h

theorem Sl.keep {α : Type} {R : World → Nat → α → List Value → Prop} (hR : Lasts R) {sz : Nat} {w w' : World} {B B' : Nat} {A : Option Addr} {n : Nat} {l : List α}
    (h : Sl R sz w B A n l) (hb : Below B w w') (hB : B ≤ B') : Sl R sz w' B' A n l :=
  ⟨h.1, fun k x hx => by
    obtain ⟨b, o, vs, hA, hlt, hr, hc⟩ := h.2 k x hx
    exact ⟨b, o, vs, hA, by omega, hR _ _ _ _ _ _ hb hB hr, fun j u hu => (hb.cell (p := ⟨b, o + k * sz + j, none⟩) hlt).trans (hc j u hu)⟩⟩

theorem Sl.nil_ {α : Type} (R : World → Nat → α → List Value → Prop) (sz : Nat) (w : World) (B : Nat) (A : Option Addr) : Sl R sz w B A 0 [] := ⟨rfl, fun k x hx => by simp at hx⟩

/-- Element k, its address and cells, in the worlds in which nothing below B has turned. -/
theorem Sl.at_ {α : Type} {c : α → List Value} {sz : Nat} {w : World} {B : Nat} {A : Option Addr} {n : Nat} {l : List α}
    (h : Sl (Pl c) sz w B A n l) {k : Nat} (hk : k < n) : ∃ b o x, A = some ⟨b, o, none⟩ ∧ b < B ∧ l[k]? = some x ∧ ∀ w', Below B w w' → ∀ j u, (c x)[j]? = some u → w'.cell? ⟨b, o + k * sz + j, none⟩ = some u := by
  have hl : k < l.length := by rw [h.1]; exact hk
  obtain ⟨b, o, vs, hA, hlt, hr, hc⟩ := h.2 k l[k] (List.getElem?_eq_getElem hl)
  unfold Pl at hr
  subst hr
  exact ⟨b, o, l[k], hA, hlt, List.getElem?_eq_getElem hl, fun w' hb j u hu => (hb.cell (p := ⟨b, o + k * sz + j, none⟩) hlt).trans (hc j u hu)⟩

theorem flatMap_get {α : Type} (c : α → List Value) (sz : Nat) (hc : ∀ x, (c x).length = sz) : ∀ (l : List α) (k : Nat) (x : α), l[k]? = some x → ∀ j u, (c x)[j]? = some u → (l.flatMap c)[k * sz + j]? = some u
  | [], k, x, hx, _, _, _ => by simp at hx
  | y :: r, 0, x, hx, j, u, hu => by
    simp only [List.getElem?_cons_zero, Option.some.injEq] at hx
    subst hx
    have hj : j < (c y).length := (List.getElem?_eq_some_iff.1 hu).1
    rw [List.flatMap_cons, Nat.zero_mul, Nat.zero_add, List.getElem?_append_left hj]
    exact hu
  | y :: r, k + 1, x, hx, j, u, hu => by
    rw [List.getElem?_cons_succ] at hx
    rw [List.flatMap_cons, List.getElem?_append_right (by rw [hc y, Nat.add_mul]; omega), hc y]
    have := flatMap_get c sz hc r k x hx j u hu
    rw [show (k + 1) * sz + j - sz = k * sz + j by rw [Nat.add_mul]; omega]
    exact this

theorem flatMap_len {α : Type} (c : α → List Value) (sz : Nat) (hc : ∀ x, (c x).length = sz) (l : List α) : (l.flatMap c).length = l.length * sz := by
  induction l with
  | nil => simp
  | cons a r ih => rw [List.flatMap_cons, List.length_append, hc, ih, List.length_cons, Nat.add_mul]; omega

/-- What the call itself has appended reads as a list. -/
theorem Sl.of_own {α : Type} {c : α → List Value} {sz : Nat} (hc : ∀ x, (c x).length = sz) (hsz : 0 < sz) {w : World} {base : Nat} {e : TypeId} {v : Value} {n : Nat} {l : List α}
    (h : w.ownsRow base e sz v n (l.flatMap c)) : ∃ A cap, v = .slice A n cap ∧ Sl (Pl c) sz w w.heap.size A n l := by
  have hl : l.length = n := by
    have := h.1
    rw [flatMap_len c sz hc] at this
    exact Nat.eq_of_mul_eq_mul_right hsz this
  rcases h.2 with ⟨rfl, rfl⟩ | ⟨g, cap, cur, rfl, hg, hh, hn, hcap, hcs, ht⟩
  · have : l = [] := List.length_eq_zero_iff.1 hl
    subst this
    exact ⟨none, 0, rfl, Sl.nil_ _ _ _ _ _⟩
  · refine ⟨_, _, rfl, hl, fun k x hx => ⟨g, 0, c x, rfl, ?_, rfl, fun j u hu => ?_⟩⟩
    · rcases Nat.lt_or_ge g w.heap.size with hlt | hge
      · exact hlt
      · rw [Array.getElem?_eq_none hge] at hh; cases hh
    · have := flatMap_get c sz hc l k x hx j u hu
      have hcell := h.cells (g := g) rfl (k * sz + j) u this
      rw [Addr.add] at hcell
      split at hcell
      · rename_i h0
        rw [show 0 + k * sz + j = 0 by omega]
        exact hcell
      · simpa [Nat.add_assoc] using hcell

theorem own_below {w w' : World} {base : Nat} {e : TypeId} {sz : Nat} {v : Value} {n : Nat} {xs : List Value} (h : w.ownsRow base e sz v n xs) (hb : Below w.heap.size w w') : w'.ownsRow base e sz v n xs := by
  refine ⟨h.1, ?_⟩
  rcases h.2 with h0 | ⟨g, cap, cur, hv, hg, hh, hr⟩
  · exact .inl h0
  · refine .inr ⟨g, cap, cur, hv, hg, (hb.block g ?_).trans hh, hr⟩
    rcases Nat.lt_or_ge g w.heap.size with hlt | hge
    · exact hlt
    · rw [Array.getElem?_eq_none hge] at hh; cases hh

/-- A new block's cells, as append's law wants them. -/
theorem new_cells (w : World) {g : Nat} (hg : g = w.heap.size) (t : TypeId) (l : List Value) : ∀ j u, l[j]? = some u → (w.alloc (.cells l.toArray t)).cell? ((⟨g, 0, none⟩ : Addr).add j) = some u := by
  intro j u hu
  have hc := (Bk.newAt w hg t l.toArray).cell j
  rw [Addr.add]
  split
  · rename_i h0
    subst h0
    rw [hc]; simpa using hu
  · rw [show (0 : Nat) + j = j from Nat.zero_add j, hc]; simpa using hu

end Go.Proofs.Ytmkbojhnbkdalaa
