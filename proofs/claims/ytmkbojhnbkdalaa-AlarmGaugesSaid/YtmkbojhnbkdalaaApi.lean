/- The program's types as plain data, their slices as they lie in memory; and how a law's arguments are opened as such. -/
import Derived.Test.YtmkbojhnbkdalaaOpen
set_option linter.unusedSimpArgs false
set_option linter.unusedVariables false
namespace Go.Proofs.Ytmkbojhnbkdalaa
open Go.ChangeShapes Go.WideShapes Go.ChangeAt Go.RowKit Go.Deep

/-- A slice as it lies, and the list that it reads as. -/
structure SlR (α : Type) where
  a : Option Addr
  n : Nat
  c : Nat
  l : List α
def SlR.C {α : Type} (s : SlR α) : List Value := [.slice s.a s.n s.c]
/-- Cells that are a function of the datum, which lies rightly. -/
def Rw {α : Type} (c : α → List Value) (M : World → Nat → α → Prop) : World → Nat → α → List Value → Prop := fun w B x vs => vs = c x ∧ M w B x
def mem0 {α : Type} : World → Nat → α → Prop := fun _ _ _ => True
def MLasts {α : Type} (M : World → Nat → α → Prop) : Prop := ∀ (w w' : World) (B B' : Nat) (x : α), Below B w w' → B ≤ B' → M w B x → M w' B' x
theorem mem0_lasts {α : Type} : MLasts (mem0 : World → Nat → α → Prop) := fun _ _ _ _ _ _ _ _ => trivial
theorem Rw.lasts {α : Type} {c : α → List Value} {M : World → Nat → α → Prop} (h : MLasts M) : Lasts (Rw c M) := fun w w' B B' x vs hb hB ⟨h1, h2⟩ => ⟨h1, h w w' B B' x hb hB h2⟩
structure SlR.Mem {α : Type} (R : World → Nat → α → List Value → Prop) (sz : Nat) (w : World) (B : Nat) (s : SlR α) : Prop where
  sl : Sl R sz w B s.a s.n s.l
  le : s.n ≤ maxLen
  nc : s.n ≤ s.c
  cl : s.c ≤ maxLen
theorem SlR.lasts {α : Type} {c : α → List Value} {M : World → Nat → α → Prop} {sz : Nat} (h : MLasts M) : MLasts (SlR.Mem (Rw c M) sz) :=
  fun w w' B B' x hb hB hm => ⟨hm.sl.keep (Rw.lasts h) hb hB, hm.le, hm.nc, hm.cl⟩
theorem SlR.Mem.len {α : Type} {R : World → Nat → α → List Value → Prop} {sz : Nat} {w : World} {B : Nat} {s : SlR α} (h : SlR.Mem R sz w B s) : s.l.length = s.n := h.sl.1
/-- Element k: where it lies, what its cells are as long as nothing below B turns. -/
theorem SlR.Mem.at_ {α : Type} {c : α → List Value} {M : World → Nat → α → Prop} {sz : Nat} {w : World} {B : Nat} {s : SlR α} (h : SlR.Mem (Rw c M) sz w B s) {k : Nat} (hk : k < s.n) :
    ∃ b o x, s.a = some ⟨b, o, none⟩ ∧ b < B ∧ s.l[k]? = some x ∧ M w B x ∧ ∀ w', Below B w w' → ∀ j u, (c x)[j]? = some u → w'.cell? ⟨b, o + k * sz + j, none⟩ = some u := by
  have hl : k < s.l.length := by rw [h.len]; exact hk
  obtain ⟨b, o, vs, hA, hlt, ⟨rfl, hm⟩, hc⟩ := h.sl.2 k s.l[k] (List.getElem?_eq_getElem hl)
  exact ⟨b, o, s.l[k], hA, hlt, List.getElem?_eq_getElem hl, hm, fun w' hb j u hu => (hb.cell (p := ⟨b, o + k * sz + j, none⟩) hlt).trans (hc j u hu)⟩

section
variable {P : Program} {t e : TypeId}
theorem Opens.intR (ht : P.underlying t = some (.int .i64)) (hc : P.cellsOf t = 1) : Opens P t 1 (Rw intC mem0) I64 :=
  ⟨hc, fun H enc w base spare held fuel cs x h => let ⟨a, h1, h2⟩ := (Opens.int ht hc).2 H enc w base spare held fuel cs x h; ⟨a, ⟨h1, trivial⟩, h2⟩⟩
theorem Opens.boolR (ht : P.underlying t = some .bool) (hc : P.cellsOf t = 1) : Opens P t 1 (Rw boolC mem0) Any :=
  ⟨hc, fun H enc w base spare held fuel cs x h => let ⟨a, h1, h2⟩ := (Opens.bool ht hc).2 H enc w base spare held fuel cs x h; ⟨a, ⟨h1, trivial⟩, h2⟩⟩
theorem Opens.strR (ht : P.underlying t = some .string) (hc : P.cellsOf t = 1) : Opens P t 1 (Rw strC mem0) (fun s => s.size ≤ maxLen) :=
  ⟨hc, fun H enc w base spare held fuel cs x h => let ⟨a, h1, h2⟩ := (Opens.str ht hc).2 H enc w base spare held fuel cs x h; ⟨a, ⟨h1, trivial⟩, h2⟩⟩
theorem Opens.sliceR {α : Type} {sz : Nat} {R : World → Nat → α → List Value → Prop} {Ok : α → Prop} (he : Opens P e sz R Ok) (hsz : 0 < sz) (ht : P.underlying t = some (.slice e)) (hc : P.cellsOf t = 1) :
    Opens P t 1 (Rw SlR.C (SlR.Mem R sz)) (fun s => ∀ x ∈ s.l, Ok x) :=
  ⟨hc, fun _ _ _ _ _ _ _ _ _ h => by
    obtain ⟨l, ⟨A, n, cap, rfl, hs, h1, h2, h3⟩, ho⟩ := slice_reads he hsz ht h
    exact ⟨⟨A, n, cap, l⟩, ⟨rfl, ⟨hs, h1, h2, h3⟩⟩, ho⟩⟩
theorem arg_R {H : Type} {enc : TypeId × Value → H} {w : World} {base b0 : Nat} {spare : Nat → Bool} {held : Bool} {r : Reach} {v : Value} {d : DataW H} {ps : List MemPlace} {α : Type} {sz : Nat} {c : α → List Value} {M : World → Nat → α → Prop} {Ok : α → Prop} {fs : Array Field}
    (hO : Opens P t sz (Rw c M) Ok) (ht : P.underlying t = some (.struct fs)) (hv : Value.okWide P w r b0 t v) (h : DataW.Trod enc P w base spare held t v d ps) : ∃ a, v = .agg (c a).toArray ∧ M w w.heap.size a ∧ Ok a := by
  obtain ⟨a, vs, rfl, ⟨rfl, hm⟩, ho⟩ := arg_structR hO ht hv h
  exact ⟨a, rfl, hm, ho⟩
theorem arg_slR {H : Type} {enc : TypeId × Value → H} {w : World} {base b0 : Nat} {spare : Nat → Bool} {held : Bool} {r : Reach} {v : Value} {d : DataW H} {ps : List MemPlace} {α : Type} {sz : Nat} {R : World → Nat → α → List Value → Prop} {Ok : α → Prop}
    (hO : Opens P t 1 (Rw SlR.C (SlR.Mem R sz)) (fun s => ∀ x ∈ s.l, Ok x)) (ht : P.underlying t = some (.slice e)) (hv : Value.okWide P w r b0 t v) (h : DataW.Trod enc P w base spare held t v d ps) :
    ∃ s : SlR α, v = .slice s.a s.n s.c ∧ SlR.Mem R sz w w.heap.size s ∧ ∀ x ∈ s.l, Ok x := by
  obtain ⟨A, n, cap, rfl⟩ := okWide_slice ht hv
  obtain ⟨fuel, hf⟩ := h
  obtain ⟨s, ⟨h1, h2⟩, ho⟩ := hO.2 _ _ _ _ _ _ _ _ _ hf
  have : Value.slice A n cap = .slice s.a s.n s.c := by simpa [Value.cells, SlR.C] using h1
  exact ⟨s, this, h2, ho⟩
end
theorem cells_int : Try.prog.cellsOf 3 = 1 := by kernel_rfl
theorem cells_bool : Try.prog.cellsOf 4 = 1 := by kernel_rfl
theorem cells_str : Try.prog.cellsOf 9 = 1 := by kernel_rfl
/-- api.Point -/
structure Pt where
  x : Int
  y : Int
def cPt (x : Pt) : List Value := [.int .i64 x.x, .int .i64 x.y]
def OkPt (x : Pt) : Prop := I64 x.x ∧ I64 x.y
def MPt : World → Nat → Pt → Prop := mem0
theorem MPt_lasts : MLasts MPt := mem0_lasts
theorem cells_Pt : Try.prog.cellsOf 133 = 2 := by kernel_rfl
set_option maxRecDepth 100000 in
theorem opens_Pt : Opens Try.prog 133 2 (Rw cPt MPt) OkPt :=
  ⟨cells_Pt, fun H enc w base spare held fuel cs x h => by
    obtain ⟨xs, n, _, _, hlen, hxl, hf⟩ := DataW.trod_struct Try.underlying133 h
    rw [cells_Pt] at hlen
    have hxl' : xs.length = 2 := hxl
    match cs, hlen with
    | [c0, c1], _ =>
      have h0 : DataW.trod enc Try.prog w base spare held n 3 [c0] = some (xs[0]'(by omega)) := by
        have := hf 0 _ rfl
        rw [List.getElem?_eq_getElem (by omega)] at this
        rw [← this]; simp [cells_int]
      obtain ⟨a0, ⟨r0, m0⟩, o0⟩ := (Opens.intR Try.underlying3 cells_int).2 _ _ _ _ _ _ _ _ _ h0
      have h1 : DataW.trod enc Try.prog w base spare held n 3 [c1] = some (xs[1]'(by omega)) := by
        have := hf 1 _ rfl
        rw [List.getElem?_eq_getElem (by omega)] at this
        rw [← this]; simp [cells_int]
      obtain ⟨a1, ⟨r1, m1⟩, o1⟩ := (Opens.intR Try.underlying3 cells_int).2 _ _ _ _ _ _ _ _ _ h1
      simp only [intC, boolC, strC, SlR.C, List.cons.injEq, and_true] at r0 r1
      refine ⟨⟨a0, a1⟩, ⟨?_, trivial⟩, o0, o1⟩
      simp only [cPt]
      subst r0
      subst r1
      rfl⟩
/-- api.Cell -/
structure Cel where
  ix : Int
  ar : Int
def cCel (x : Cel) : List Value := [.int .i64 x.ix, .int .i64 x.ar]
def OkCel (x : Cel) : Prop := I64 x.ix ∧ I64 x.ar
def MCel : World → Nat → Cel → Prop := mem0
theorem MCel_lasts : MLasts MCel := mem0_lasts
theorem cells_Cel : Try.prog.cellsOf 110 = 2 := by kernel_rfl
set_option maxRecDepth 100000 in
theorem opens_Cel : Opens Try.prog 110 2 (Rw cCel MCel) OkCel :=
  ⟨cells_Cel, fun H enc w base spare held fuel cs x h => by
    obtain ⟨xs, n, _, _, hlen, hxl, hf⟩ := DataW.trod_struct Try.underlying110 h
    rw [cells_Cel] at hlen
    have hxl' : xs.length = 2 := hxl
    match cs, hlen with
    | [c0, c1], _ =>
      have h0 : DataW.trod enc Try.prog w base spare held n 3 [c0] = some (xs[0]'(by omega)) := by
        have := hf 0 _ rfl
        rw [List.getElem?_eq_getElem (by omega)] at this
        rw [← this]; simp [cells_int]
      obtain ⟨a0, ⟨r0, m0⟩, o0⟩ := (Opens.intR Try.underlying3 cells_int).2 _ _ _ _ _ _ _ _ _ h0
      have h1 : DataW.trod enc Try.prog w base spare held n 3 [c1] = some (xs[1]'(by omega)) := by
        have := hf 1 _ rfl
        rw [List.getElem?_eq_getElem (by omega)] at this
        rw [← this]; simp [cells_int]
      obtain ⟨a1, ⟨r1, m1⟩, o1⟩ := (Opens.intR Try.underlying3 cells_int).2 _ _ _ _ _ _ _ _ _ h1
      simp only [intC, boolC, strC, SlR.C, List.cons.injEq, and_true] at r0 r1
      refine ⟨⟨a0, a1⟩, ⟨?_, trivial⟩, o0, o1⟩
      simp only [cCel]
      subst r0
      subst r1
      rfl⟩
theorem cells_sl_Pt : Try.prog.cellsOf 67 = 1 := by kernel_rfl
theorem cells_sl_int : Try.prog.cellsOf 29 = 1 := by kernel_rfl
theorem cells_sl_Cel : Try.prog.cellsOf 68 = 1 := by kernel_rfl
/-- api.Place -/
structure Plc where
  nm : ByteArray
  kind : Int
  office : Int
  cap : Int
  lv : SlR Pt
  st : SlR Int
  num : Int
  den : Int
  down : Int
  delay : Int
  floor : Int
  rn : SlR Cel
def cPlc (x : Plc) : List Value := [.string x.nm, .int .i64 x.kind, .int .i64 x.office, .int .i64 x.cap, .slice x.lv.a x.lv.n x.lv.c, .slice x.st.a x.st.n x.st.c, .int .i64 x.num, .int .i64 x.den, .int .i64 x.down, .int .i64 x.delay, .int .i64 x.floor, .slice x.rn.a x.rn.n x.rn.c]
def OkPlc (x : Plc) : Prop := (fun s => s.size ≤ maxLen) x.nm ∧ I64 x.kind ∧ I64 x.office ∧ I64 x.cap ∧ (fun s => ∀ x ∈ s.l, OkPt x) x.lv ∧ (fun s => ∀ x ∈ s.l, I64 x) x.st ∧ I64 x.num ∧ I64 x.den ∧ I64 x.down ∧ I64 x.delay ∧ I64 x.floor ∧ (fun s => ∀ x ∈ s.l, OkCel x) x.rn
def MPlc : World → Nat → Plc → Prop := fun w B x => (SlR.Mem (Rw cPt MPt) 2) w B x.lv ∧ (SlR.Mem (Rw intC mem0) 1) w B x.st ∧ (SlR.Mem (Rw cCel MCel) 2) w B x.rn
theorem MPlc_lasts : MLasts MPlc := fun w w' B B' x hb hB ⟨h0, h1, h2⟩ => ⟨(SlR.lasts MPt_lasts) _ _ _ _ _ hb hB h0, (SlR.lasts mem0_lasts) _ _ _ _ _ hb hB h1, (SlR.lasts MCel_lasts) _ _ _ _ _ hb hB h2⟩
theorem cells_Plc : Try.prog.cellsOf 70 = 12 := by kernel_rfl
set_option maxRecDepth 100000 in
theorem opens_Plc : Opens Try.prog 70 12 (Rw cPlc MPlc) OkPlc :=
  ⟨cells_Plc, fun H enc w base spare held fuel cs x h => by
    obtain ⟨xs, n, _, _, hlen, hxl, hf⟩ := DataW.trod_struct Try.underlying70 h
    rw [cells_Plc] at hlen
    have hxl' : xs.length = 12 := hxl
    match cs, hlen with
    | [c0, c1, c2, c3, c4, c5, c6, c7, c8, c9, c10, c11], _ =>
      have h0 : DataW.trod enc Try.prog w base spare held n 9 [c0] = some (xs[0]'(by omega)) := by
        have := hf 0 _ rfl
        rw [List.getElem?_eq_getElem (by omega)] at this
        rw [← this]; simp [cells_str]
      obtain ⟨a0, ⟨r0, m0⟩, o0⟩ := (Opens.strR Try.underlying9 cells_str).2 _ _ _ _ _ _ _ _ _ h0
      have h1 : DataW.trod enc Try.prog w base spare held n 3 [c1] = some (xs[1]'(by omega)) := by
        have := hf 1 _ rfl
        rw [List.getElem?_eq_getElem (by omega)] at this
        rw [← this]; simp [cells_int]
      obtain ⟨a1, ⟨r1, m1⟩, o1⟩ := (Opens.intR Try.underlying3 cells_int).2 _ _ _ _ _ _ _ _ _ h1
      have h2 : DataW.trod enc Try.prog w base spare held n 3 [c2] = some (xs[2]'(by omega)) := by
        have := hf 2 _ rfl
        rw [List.getElem?_eq_getElem (by omega)] at this
        rw [← this]; simp [cells_int]
      obtain ⟨a2, ⟨r2, m2⟩, o2⟩ := (Opens.intR Try.underlying3 cells_int).2 _ _ _ _ _ _ _ _ _ h2
      have h3 : DataW.trod enc Try.prog w base spare held n 3 [c3] = some (xs[3]'(by omega)) := by
        have := hf 3 _ rfl
        rw [List.getElem?_eq_getElem (by omega)] at this
        rw [← this]; simp [cells_int]
      obtain ⟨a3, ⟨r3, m3⟩, o3⟩ := (Opens.intR Try.underlying3 cells_int).2 _ _ _ _ _ _ _ _ _ h3
      have h4 : DataW.trod enc Try.prog w base spare held n 67 [c4] = some (xs[4]'(by omega)) := by
        have := hf 4 _ rfl
        rw [List.getElem?_eq_getElem (by omega)] at this
        rw [← this]; simp [cells_sl_Pt]
      obtain ⟨a4, ⟨r4, m4⟩, o4⟩ := (Opens.sliceR opens_Pt (by decide) Try.underlying67 cells_sl_Pt).2 _ _ _ _ _ _ _ _ _ h4
      have h5 : DataW.trod enc Try.prog w base spare held n 29 [c5] = some (xs[5]'(by omega)) := by
        have := hf 5 _ rfl
        rw [List.getElem?_eq_getElem (by omega)] at this
        rw [← this]; simp [cells_sl_int]
      obtain ⟨a5, ⟨r5, m5⟩, o5⟩ := (Opens.sliceR (Opens.intR Try.underlying3 cells_int) (by decide) Try.underlying29 cells_sl_int).2 _ _ _ _ _ _ _ _ _ h5
      have h6 : DataW.trod enc Try.prog w base spare held n 3 [c6] = some (xs[6]'(by omega)) := by
        have := hf 6 _ rfl
        rw [List.getElem?_eq_getElem (by omega)] at this
        rw [← this]; simp [cells_int]
      obtain ⟨a6, ⟨r6, m6⟩, o6⟩ := (Opens.intR Try.underlying3 cells_int).2 _ _ _ _ _ _ _ _ _ h6
      have h7 : DataW.trod enc Try.prog w base spare held n 3 [c7] = some (xs[7]'(by omega)) := by
        have := hf 7 _ rfl
        rw [List.getElem?_eq_getElem (by omega)] at this
        rw [← this]; simp [cells_int]
      obtain ⟨a7, ⟨r7, m7⟩, o7⟩ := (Opens.intR Try.underlying3 cells_int).2 _ _ _ _ _ _ _ _ _ h7
      have h8 : DataW.trod enc Try.prog w base spare held n 3 [c8] = some (xs[8]'(by omega)) := by
        have := hf 8 _ rfl
        rw [List.getElem?_eq_getElem (by omega)] at this
        rw [← this]; simp [cells_int]
      obtain ⟨a8, ⟨r8, m8⟩, o8⟩ := (Opens.intR Try.underlying3 cells_int).2 _ _ _ _ _ _ _ _ _ h8
      have h9 : DataW.trod enc Try.prog w base spare held n 3 [c9] = some (xs[9]'(by omega)) := by
        have := hf 9 _ rfl
        rw [List.getElem?_eq_getElem (by omega)] at this
        rw [← this]; simp [cells_int]
      obtain ⟨a9, ⟨r9, m9⟩, o9⟩ := (Opens.intR Try.underlying3 cells_int).2 _ _ _ _ _ _ _ _ _ h9
      have h10 : DataW.trod enc Try.prog w base spare held n 3 [c10] = some (xs[10]'(by omega)) := by
        have := hf 10 _ rfl
        rw [List.getElem?_eq_getElem (by omega)] at this
        rw [← this]; simp [cells_int]
      obtain ⟨a10, ⟨r10, m10⟩, o10⟩ := (Opens.intR Try.underlying3 cells_int).2 _ _ _ _ _ _ _ _ _ h10
      have h11 : DataW.trod enc Try.prog w base spare held n 68 [c11] = some (xs[11]'(by omega)) := by
        have := hf 11 _ rfl
        rw [List.getElem?_eq_getElem (by omega)] at this
        rw [← this]; simp [cells_sl_Cel]
      obtain ⟨a11, ⟨r11, m11⟩, o11⟩ := (Opens.sliceR opens_Cel (by decide) Try.underlying68 cells_sl_Cel).2 _ _ _ _ _ _ _ _ _ h11
      simp only [intC, boolC, strC, SlR.C, List.cons.injEq, and_true] at r0 r1 r2 r3 r4 r5 r6 r7 r8 r9 r10 r11
      refine ⟨⟨a0, a1, a2, a3, a4, a5, a6, a7, a8, a9, a10, a11⟩, ⟨?_, ⟨m4, m5, m11⟩⟩, o0, o1, o2, o3, o4, o5, o6, o7, o8, o9, o10, o11⟩
      simp only [cPlc]
      subst r0
      subst r1
      subst r2
      subst r3
      subst r4
      subst r5
      subst r6
      subst r7
      subst r8
      subst r9
      subst r10
      subst r11
      rfl⟩
/-- api.Band -/
structure Bnd where
  lo : SlR Pt
  hi : SlR Pt
def cBnd (x : Bnd) : List Value := [.slice x.lo.a x.lo.n x.lo.c, .slice x.hi.a x.hi.n x.hi.c]
def OkBnd (x : Bnd) : Prop := (fun s => ∀ x ∈ s.l, OkPt x) x.lo ∧ (fun s => ∀ x ∈ s.l, OkPt x) x.hi
def MBnd : World → Nat → Bnd → Prop := fun w B x => (SlR.Mem (Rw cPt MPt) 2) w B x.lo ∧ (SlR.Mem (Rw cPt MPt) 2) w B x.hi
theorem MBnd_lasts : MLasts MBnd := fun w w' B B' x hb hB ⟨h0, h1⟩ => ⟨(SlR.lasts MPt_lasts) _ _ _ _ _ hb hB h0, (SlR.lasts MPt_lasts) _ _ _ _ _ hb hB h1⟩
theorem cells_Bnd : Try.prog.cellsOf 77 = 2 := by kernel_rfl
set_option maxRecDepth 100000 in
theorem opens_Bnd : Opens Try.prog 77 2 (Rw cBnd MBnd) OkBnd :=
  ⟨cells_Bnd, fun H enc w base spare held fuel cs x h => by
    obtain ⟨xs, n, _, _, hlen, hxl, hf⟩ := DataW.trod_struct Try.underlying77 h
    rw [cells_Bnd] at hlen
    have hxl' : xs.length = 2 := hxl
    match cs, hlen with
    | [c0, c1], _ =>
      have h0 : DataW.trod enc Try.prog w base spare held n 67 [c0] = some (xs[0]'(by omega)) := by
        have := hf 0 _ rfl
        rw [List.getElem?_eq_getElem (by omega)] at this
        rw [← this]; simp [cells_sl_Pt]
      obtain ⟨a0, ⟨r0, m0⟩, o0⟩ := (Opens.sliceR opens_Pt (by decide) Try.underlying67 cells_sl_Pt).2 _ _ _ _ _ _ _ _ _ h0
      have h1 : DataW.trod enc Try.prog w base spare held n 67 [c1] = some (xs[1]'(by omega)) := by
        have := hf 1 _ rfl
        rw [List.getElem?_eq_getElem (by omega)] at this
        rw [← this]; simp [cells_sl_Pt]
      obtain ⟨a1, ⟨r1, m1⟩, o1⟩ := (Opens.sliceR opens_Pt (by decide) Try.underlying67 cells_sl_Pt).2 _ _ _ _ _ _ _ _ _ h1
      simp only [intC, boolC, strC, SlR.C, List.cons.injEq, and_true] at r0 r1
      refine ⟨⟨a0, a1⟩, ⟨?_, ⟨m0, m1⟩⟩, o0, o1⟩
      simp only [cBnd]
      subst r0
      subst r1
      rfl⟩
/-- api.Link -/
structure Lnk where
  nm : ByteArray
  kind : Int
  frm : Int
  to : Int
  rate : SlR Pt
  band : Bnd
  pos : Int
  speed : Int
  leak : Int
  crest : Int
  num : Int
  den : Int
  prime : Int
  brk : Int
  bnum : Int
  bden : Int
  delay : Int
def cLnk (x : Lnk) : List Value := [.string x.nm, .int .i64 x.kind, .int .i64 x.frm, .int .i64 x.to, .slice x.rate.a x.rate.n x.rate.c, .slice x.band.lo.a x.band.lo.n x.band.lo.c, .slice x.band.hi.a x.band.hi.n x.band.hi.c, .int .i64 x.pos, .int .i64 x.speed, .int .i64 x.leak, .int .i64 x.crest, .int .i64 x.num, .int .i64 x.den, .int .i64 x.prime, .int .i64 x.brk, .int .i64 x.bnum, .int .i64 x.bden, .int .i64 x.delay]
def OkLnk (x : Lnk) : Prop := (fun s => s.size ≤ maxLen) x.nm ∧ I64 x.kind ∧ I64 x.frm ∧ I64 x.to ∧ (fun s => ∀ x ∈ s.l, OkPt x) x.rate ∧ OkBnd x.band ∧ I64 x.pos ∧ I64 x.speed ∧ I64 x.leak ∧ I64 x.crest ∧ I64 x.num ∧ I64 x.den ∧ I64 x.prime ∧ I64 x.brk ∧ I64 x.bnum ∧ I64 x.bden ∧ I64 x.delay
def MLnk : World → Nat → Lnk → Prop := fun w B x => (SlR.Mem (Rw cPt MPt) 2) w B x.rate ∧ MBnd w B x.band
theorem MLnk_lasts : MLasts MLnk := fun w w' B B' x hb hB ⟨h0, h1⟩ => ⟨(SlR.lasts MPt_lasts) _ _ _ _ _ hb hB h0, MBnd_lasts _ _ _ _ _ hb hB h1⟩
theorem cells_Lnk : Try.prog.cellsOf 79 = 18 := by kernel_rfl
set_option maxRecDepth 100000 in
theorem opens_Lnk : Opens Try.prog 79 18 (Rw cLnk MLnk) OkLnk :=
  ⟨cells_Lnk, fun H enc w base spare held fuel cs x h => by
    obtain ⟨xs, n, _, _, hlen, hxl, hf⟩ := DataW.trod_struct Try.underlying79 h
    rw [cells_Lnk] at hlen
    have hxl' : xs.length = 17 := hxl
    match cs, hlen with
    | [c0, c1, c2, c3, c4, c5, c6, c7, c8, c9, c10, c11, c12, c13, c14, c15, c16, c17], _ =>
      have h0 : DataW.trod enc Try.prog w base spare held n 9 [c0] = some (xs[0]'(by omega)) := by
        have := hf 0 _ rfl
        rw [List.getElem?_eq_getElem (by omega)] at this
        rw [← this]; simp [cells_str]
      obtain ⟨a0, ⟨r0, m0⟩, o0⟩ := (Opens.strR Try.underlying9 cells_str).2 _ _ _ _ _ _ _ _ _ h0
      have h1 : DataW.trod enc Try.prog w base spare held n 3 [c1] = some (xs[1]'(by omega)) := by
        have := hf 1 _ rfl
        rw [List.getElem?_eq_getElem (by omega)] at this
        rw [← this]; simp [cells_int]
      obtain ⟨a1, ⟨r1, m1⟩, o1⟩ := (Opens.intR Try.underlying3 cells_int).2 _ _ _ _ _ _ _ _ _ h1
      have h2 : DataW.trod enc Try.prog w base spare held n 3 [c2] = some (xs[2]'(by omega)) := by
        have := hf 2 _ rfl
        rw [List.getElem?_eq_getElem (by omega)] at this
        rw [← this]; simp [cells_int]
      obtain ⟨a2, ⟨r2, m2⟩, o2⟩ := (Opens.intR Try.underlying3 cells_int).2 _ _ _ _ _ _ _ _ _ h2
      have h3 : DataW.trod enc Try.prog w base spare held n 3 [c3] = some (xs[3]'(by omega)) := by
        have := hf 3 _ rfl
        rw [List.getElem?_eq_getElem (by omega)] at this
        rw [← this]; simp [cells_int]
      obtain ⟨a3, ⟨r3, m3⟩, o3⟩ := (Opens.intR Try.underlying3 cells_int).2 _ _ _ _ _ _ _ _ _ h3
      have h4 : DataW.trod enc Try.prog w base spare held n 67 [c4] = some (xs[4]'(by omega)) := by
        have := hf 4 _ rfl
        rw [List.getElem?_eq_getElem (by omega)] at this
        rw [← this]; simp [cells_sl_Pt]
      obtain ⟨a4, ⟨r4, m4⟩, o4⟩ := (Opens.sliceR opens_Pt (by decide) Try.underlying67 cells_sl_Pt).2 _ _ _ _ _ _ _ _ _ h4
      have h5 : DataW.trod enc Try.prog w base spare held n 77 [c5, c6] = some (xs[5]'(by omega)) := by
        have := hf 5 _ rfl
        rw [List.getElem?_eq_getElem (by omega)] at this
        rw [← this]; simp [cells_Bnd]
      obtain ⟨a5, ⟨r5, m5⟩, o5⟩ := opens_Bnd.2 _ _ _ _ _ _ _ _ _ h5
      have h6 : DataW.trod enc Try.prog w base spare held n 3 [c7] = some (xs[6]'(by omega)) := by
        have := hf 6 _ rfl
        rw [List.getElem?_eq_getElem (by omega)] at this
        rw [← this]; simp [cells_int]
      obtain ⟨a6, ⟨r6, m6⟩, o6⟩ := (Opens.intR Try.underlying3 cells_int).2 _ _ _ _ _ _ _ _ _ h6
      have h7 : DataW.trod enc Try.prog w base spare held n 3 [c8] = some (xs[7]'(by omega)) := by
        have := hf 7 _ rfl
        rw [List.getElem?_eq_getElem (by omega)] at this
        rw [← this]; simp [cells_int]
      obtain ⟨a7, ⟨r7, m7⟩, o7⟩ := (Opens.intR Try.underlying3 cells_int).2 _ _ _ _ _ _ _ _ _ h7
      have h8 : DataW.trod enc Try.prog w base spare held n 3 [c9] = some (xs[8]'(by omega)) := by
        have := hf 8 _ rfl
        rw [List.getElem?_eq_getElem (by omega)] at this
        rw [← this]; simp [cells_int]
      obtain ⟨a8, ⟨r8, m8⟩, o8⟩ := (Opens.intR Try.underlying3 cells_int).2 _ _ _ _ _ _ _ _ _ h8
      have h9 : DataW.trod enc Try.prog w base spare held n 3 [c10] = some (xs[9]'(by omega)) := by
        have := hf 9 _ rfl
        rw [List.getElem?_eq_getElem (by omega)] at this
        rw [← this]; simp [cells_int]
      obtain ⟨a9, ⟨r9, m9⟩, o9⟩ := (Opens.intR Try.underlying3 cells_int).2 _ _ _ _ _ _ _ _ _ h9
      have h10 : DataW.trod enc Try.prog w base spare held n 3 [c11] = some (xs[10]'(by omega)) := by
        have := hf 10 _ rfl
        rw [List.getElem?_eq_getElem (by omega)] at this
        rw [← this]; simp [cells_int]
      obtain ⟨a10, ⟨r10, m10⟩, o10⟩ := (Opens.intR Try.underlying3 cells_int).2 _ _ _ _ _ _ _ _ _ h10
      have h11 : DataW.trod enc Try.prog w base spare held n 3 [c12] = some (xs[11]'(by omega)) := by
        have := hf 11 _ rfl
        rw [List.getElem?_eq_getElem (by omega)] at this
        rw [← this]; simp [cells_int]
      obtain ⟨a11, ⟨r11, m11⟩, o11⟩ := (Opens.intR Try.underlying3 cells_int).2 _ _ _ _ _ _ _ _ _ h11
      have h12 : DataW.trod enc Try.prog w base spare held n 3 [c13] = some (xs[12]'(by omega)) := by
        have := hf 12 _ rfl
        rw [List.getElem?_eq_getElem (by omega)] at this
        rw [← this]; simp [cells_int]
      obtain ⟨a12, ⟨r12, m12⟩, o12⟩ := (Opens.intR Try.underlying3 cells_int).2 _ _ _ _ _ _ _ _ _ h12
      have h13 : DataW.trod enc Try.prog w base spare held n 3 [c14] = some (xs[13]'(by omega)) := by
        have := hf 13 _ rfl
        rw [List.getElem?_eq_getElem (by omega)] at this
        rw [← this]; simp [cells_int]
      obtain ⟨a13, ⟨r13, m13⟩, o13⟩ := (Opens.intR Try.underlying3 cells_int).2 _ _ _ _ _ _ _ _ _ h13
      have h14 : DataW.trod enc Try.prog w base spare held n 3 [c15] = some (xs[14]'(by omega)) := by
        have := hf 14 _ rfl
        rw [List.getElem?_eq_getElem (by omega)] at this
        rw [← this]; simp [cells_int]
      obtain ⟨a14, ⟨r14, m14⟩, o14⟩ := (Opens.intR Try.underlying3 cells_int).2 _ _ _ _ _ _ _ _ _ h14
      have h15 : DataW.trod enc Try.prog w base spare held n 3 [c16] = some (xs[15]'(by omega)) := by
        have := hf 15 _ rfl
        rw [List.getElem?_eq_getElem (by omega)] at this
        rw [← this]; simp [cells_int]
      obtain ⟨a15, ⟨r15, m15⟩, o15⟩ := (Opens.intR Try.underlying3 cells_int).2 _ _ _ _ _ _ _ _ _ h15
      have h16 : DataW.trod enc Try.prog w base spare held n 3 [c17] = some (xs[16]'(by omega)) := by
        have := hf 16 _ rfl
        rw [List.getElem?_eq_getElem (by omega)] at this
        rw [← this]; simp [cells_int]
      obtain ⟨a16, ⟨r16, m16⟩, o16⟩ := (Opens.intR Try.underlying3 cells_int).2 _ _ _ _ _ _ _ _ _ h16
      simp only [intC, boolC, strC, SlR.C, cBnd, List.cons.injEq, and_true] at r0 r1 r2 r3 r4 r5 r6 r7 r8 r9 r10 r11 r12 r13 r14 r15 r16
      refine ⟨⟨a0, a1, a2, a3, a4, a5, a6, a7, a8, a9, a10, a11, a12, a13, a14, a15, a16⟩, ⟨?_, ⟨m4, m5⟩⟩, o0, o1, o2, o3, o4, o5, o6, o7, o8, o9, o10, o11, o12, o13, o14, o15, o16⟩
      simp only [cLnk]
      subst r0
      subst r1
      subst r2
      subst r3
      subst r4
      obtain ⟨rfl, rfl⟩ := r5
      subst r6
      subst r7
      subst r8
      subst r9
      subst r10
      subst r11
      subst r12
      subst r13
      subst r14
      subst r15
      subst r16
      rfl⟩
/-- api.Town -/
structure Twn where
  nm : ByteArray
  place : Int
  flood : Int
  lead : Int
  people : Int
  watch : Int
  quorum : Int
def cTwn (x : Twn) : List Value := [.string x.nm, .int .i64 x.place, .int .i64 x.flood, .int .i64 x.lead, .int .i64 x.people, .int .i64 x.watch, .int .i64 x.quorum]
def OkTwn (x : Twn) : Prop := (fun s => s.size ≤ maxLen) x.nm ∧ I64 x.place ∧ I64 x.flood ∧ I64 x.lead ∧ I64 x.people ∧ I64 x.watch ∧ I64 x.quorum
def MTwn : World → Nat → Twn → Prop := mem0
theorem MTwn_lasts : MLasts MTwn := mem0_lasts
theorem cells_Twn : Try.prog.cellsOf 41 = 7 := by kernel_rfl
set_option maxRecDepth 100000 in
theorem opens_Twn : Opens Try.prog 41 7 (Rw cTwn MTwn) OkTwn :=
  ⟨cells_Twn, fun H enc w base spare held fuel cs x h => by
    obtain ⟨xs, n, _, _, hlen, hxl, hf⟩ := DataW.trod_struct Try.underlying41 h
    rw [cells_Twn] at hlen
    have hxl' : xs.length = 7 := hxl
    match cs, hlen with
    | [c0, c1, c2, c3, c4, c5, c6], _ =>
      have h0 : DataW.trod enc Try.prog w base spare held n 9 [c0] = some (xs[0]'(by omega)) := by
        have := hf 0 _ rfl
        rw [List.getElem?_eq_getElem (by omega)] at this
        rw [← this]; simp [cells_str]
      obtain ⟨a0, ⟨r0, m0⟩, o0⟩ := (Opens.strR Try.underlying9 cells_str).2 _ _ _ _ _ _ _ _ _ h0
      have h1 : DataW.trod enc Try.prog w base spare held n 3 [c1] = some (xs[1]'(by omega)) := by
        have := hf 1 _ rfl
        rw [List.getElem?_eq_getElem (by omega)] at this
        rw [← this]; simp [cells_int]
      obtain ⟨a1, ⟨r1, m1⟩, o1⟩ := (Opens.intR Try.underlying3 cells_int).2 _ _ _ _ _ _ _ _ _ h1
      have h2 : DataW.trod enc Try.prog w base spare held n 3 [c2] = some (xs[2]'(by omega)) := by
        have := hf 2 _ rfl
        rw [List.getElem?_eq_getElem (by omega)] at this
        rw [← this]; simp [cells_int]
      obtain ⟨a2, ⟨r2, m2⟩, o2⟩ := (Opens.intR Try.underlying3 cells_int).2 _ _ _ _ _ _ _ _ _ h2
      have h3 : DataW.trod enc Try.prog w base spare held n 3 [c3] = some (xs[3]'(by omega)) := by
        have := hf 3 _ rfl
        rw [List.getElem?_eq_getElem (by omega)] at this
        rw [← this]; simp [cells_int]
      obtain ⟨a3, ⟨r3, m3⟩, o3⟩ := (Opens.intR Try.underlying3 cells_int).2 _ _ _ _ _ _ _ _ _ h3
      have h4 : DataW.trod enc Try.prog w base spare held n 3 [c4] = some (xs[4]'(by omega)) := by
        have := hf 4 _ rfl
        rw [List.getElem?_eq_getElem (by omega)] at this
        rw [← this]; simp [cells_int]
      obtain ⟨a4, ⟨r4, m4⟩, o4⟩ := (Opens.intR Try.underlying3 cells_int).2 _ _ _ _ _ _ _ _ _ h4
      have h5 : DataW.trod enc Try.prog w base spare held n 3 [c5] = some (xs[5]'(by omega)) := by
        have := hf 5 _ rfl
        rw [List.getElem?_eq_getElem (by omega)] at this
        rw [← this]; simp [cells_int]
      obtain ⟨a5, ⟨r5, m5⟩, o5⟩ := (Opens.intR Try.underlying3 cells_int).2 _ _ _ _ _ _ _ _ _ h5
      have h6 : DataW.trod enc Try.prog w base spare held n 3 [c6] = some (xs[6]'(by omega)) := by
        have := hf 6 _ rfl
        rw [List.getElem?_eq_getElem (by omega)] at this
        rw [← this]; simp [cells_int]
      obtain ⟨a6, ⟨r6, m6⟩, o6⟩ := (Opens.intR Try.underlying3 cells_int).2 _ _ _ _ _ _ _ _ _ h6
      simp only [intC, boolC, strC, SlR.C, List.cons.injEq, and_true] at r0 r1 r2 r3 r4 r5 r6
      refine ⟨⟨a0, a1, a2, a3, a4, a5, a6⟩, ⟨?_, trivial⟩, o0, o1, o2, o3, o4, o5, o6⟩
      simp only [cTwn]
      subst r0
      subst r1
      subst r2
      subst r3
      subst r4
      subst r5
      subst r6
      rfl⟩
/-- api.Gauge -/
structure Gau where
  nm : ByteArray
  kind : Int
  target : Int
  err : Int
  drift : Int
def cGau (x : Gau) : List Value := [.string x.nm, .int .i64 x.kind, .int .i64 x.target, .int .i64 x.err, .int .i64 x.drift]
def OkGau (x : Gau) : Prop := (fun s => s.size ≤ maxLen) x.nm ∧ I64 x.kind ∧ I64 x.target ∧ I64 x.err ∧ I64 x.drift
def MGau : World → Nat → Gau → Prop := mem0
theorem MGau_lasts : MLasts MGau := mem0_lasts
theorem cells_Gau : Try.prog.cellsOf 44 = 5 := by kernel_rfl
set_option maxRecDepth 100000 in
theorem opens_Gau : Opens Try.prog 44 5 (Rw cGau MGau) OkGau :=
  ⟨cells_Gau, fun H enc w base spare held fuel cs x h => by
    obtain ⟨xs, n, _, _, hlen, hxl, hf⟩ := DataW.trod_struct Try.underlying44 h
    rw [cells_Gau] at hlen
    have hxl' : xs.length = 5 := hxl
    match cs, hlen with
    | [c0, c1, c2, c3, c4], _ =>
      have h0 : DataW.trod enc Try.prog w base spare held n 9 [c0] = some (xs[0]'(by omega)) := by
        have := hf 0 _ rfl
        rw [List.getElem?_eq_getElem (by omega)] at this
        rw [← this]; simp [cells_str]
      obtain ⟨a0, ⟨r0, m0⟩, o0⟩ := (Opens.strR Try.underlying9 cells_str).2 _ _ _ _ _ _ _ _ _ h0
      have h1 : DataW.trod enc Try.prog w base spare held n 3 [c1] = some (xs[1]'(by omega)) := by
        have := hf 1 _ rfl
        rw [List.getElem?_eq_getElem (by omega)] at this
        rw [← this]; simp [cells_int]
      obtain ⟨a1, ⟨r1, m1⟩, o1⟩ := (Opens.intR Try.underlying3 cells_int).2 _ _ _ _ _ _ _ _ _ h1
      have h2 : DataW.trod enc Try.prog w base spare held n 3 [c2] = some (xs[2]'(by omega)) := by
        have := hf 2 _ rfl
        rw [List.getElem?_eq_getElem (by omega)] at this
        rw [← this]; simp [cells_int]
      obtain ⟨a2, ⟨r2, m2⟩, o2⟩ := (Opens.intR Try.underlying3 cells_int).2 _ _ _ _ _ _ _ _ _ h2
      have h3 : DataW.trod enc Try.prog w base spare held n 3 [c3] = some (xs[3]'(by omega)) := by
        have := hf 3 _ rfl
        rw [List.getElem?_eq_getElem (by omega)] at this
        rw [← this]; simp [cells_int]
      obtain ⟨a3, ⟨r3, m3⟩, o3⟩ := (Opens.intR Try.underlying3 cells_int).2 _ _ _ _ _ _ _ _ _ h3
      have h4 : DataW.trod enc Try.prog w base spare held n 3 [c4] = some (xs[4]'(by omega)) := by
        have := hf 4 _ rfl
        rw [List.getElem?_eq_getElem (by omega)] at this
        rw [← this]; simp [cells_int]
      obtain ⟨a4, ⟨r4, m4⟩, o4⟩ := (Opens.intR Try.underlying3 cells_int).2 _ _ _ _ _ _ _ _ _ h4
      simp only [intC, boolC, strC, SlR.C, List.cons.injEq, and_true] at r0 r1 r2 r3 r4
      refine ⟨⟨a0, a1, a2, a3, a4⟩, ⟨?_, trivial⟩, o0, o1, o2, o3, o4⟩
      simp only [cGau]
      subst r0
      subst r1
      subst r2
      subst r3
      subst r4
      rfl⟩
/-- api.Road -/
structure Rod where
  nm : ByteArray
  frm : Int
  to : Int
  hours : Int
  flow : Int
  byp : Int
  limit : Int
def cRod (x : Rod) : List Value := [.string x.nm, .int .i64 x.frm, .int .i64 x.to, .int .i64 x.hours, .int .i64 x.flow, .int .i64 x.byp, .int .i64 x.limit]
def OkRod (x : Rod) : Prop := (fun s => s.size ≤ maxLen) x.nm ∧ I64 x.frm ∧ I64 x.to ∧ I64 x.hours ∧ I64 x.flow ∧ I64 x.byp ∧ I64 x.limit
def MRod : World → Nat → Rod → Prop := mem0
theorem MRod_lasts : MLasts MRod := mem0_lasts
theorem cells_Rod : Try.prog.cellsOf 106 = 7 := by kernel_rfl
set_option maxRecDepth 100000 in
theorem opens_Rod : Opens Try.prog 106 7 (Rw cRod MRod) OkRod :=
  ⟨cells_Rod, fun H enc w base spare held fuel cs x h => by
    obtain ⟨xs, n, _, _, hlen, hxl, hf⟩ := DataW.trod_struct Try.underlying106 h
    rw [cells_Rod] at hlen
    have hxl' : xs.length = 7 := hxl
    match cs, hlen with
    | [c0, c1, c2, c3, c4, c5, c6], _ =>
      have h0 : DataW.trod enc Try.prog w base spare held n 9 [c0] = some (xs[0]'(by omega)) := by
        have := hf 0 _ rfl
        rw [List.getElem?_eq_getElem (by omega)] at this
        rw [← this]; simp [cells_str]
      obtain ⟨a0, ⟨r0, m0⟩, o0⟩ := (Opens.strR Try.underlying9 cells_str).2 _ _ _ _ _ _ _ _ _ h0
      have h1 : DataW.trod enc Try.prog w base spare held n 3 [c1] = some (xs[1]'(by omega)) := by
        have := hf 1 _ rfl
        rw [List.getElem?_eq_getElem (by omega)] at this
        rw [← this]; simp [cells_int]
      obtain ⟨a1, ⟨r1, m1⟩, o1⟩ := (Opens.intR Try.underlying3 cells_int).2 _ _ _ _ _ _ _ _ _ h1
      have h2 : DataW.trod enc Try.prog w base spare held n 3 [c2] = some (xs[2]'(by omega)) := by
        have := hf 2 _ rfl
        rw [List.getElem?_eq_getElem (by omega)] at this
        rw [← this]; simp [cells_int]
      obtain ⟨a2, ⟨r2, m2⟩, o2⟩ := (Opens.intR Try.underlying3 cells_int).2 _ _ _ _ _ _ _ _ _ h2
      have h3 : DataW.trod enc Try.prog w base spare held n 3 [c3] = some (xs[3]'(by omega)) := by
        have := hf 3 _ rfl
        rw [List.getElem?_eq_getElem (by omega)] at this
        rw [← this]; simp [cells_int]
      obtain ⟨a3, ⟨r3, m3⟩, o3⟩ := (Opens.intR Try.underlying3 cells_int).2 _ _ _ _ _ _ _ _ _ h3
      have h4 : DataW.trod enc Try.prog w base spare held n 3 [c4] = some (xs[4]'(by omega)) := by
        have := hf 4 _ rfl
        rw [List.getElem?_eq_getElem (by omega)] at this
        rw [← this]; simp [cells_int]
      obtain ⟨a4, ⟨r4, m4⟩, o4⟩ := (Opens.intR Try.underlying3 cells_int).2 _ _ _ _ _ _ _ _ _ h4
      have h5 : DataW.trod enc Try.prog w base spare held n 3 [c5] = some (xs[5]'(by omega)) := by
        have := hf 5 _ rfl
        rw [List.getElem?_eq_getElem (by omega)] at this
        rw [← this]; simp [cells_int]
      obtain ⟨a5, ⟨r5, m5⟩, o5⟩ := (Opens.intR Try.underlying3 cells_int).2 _ _ _ _ _ _ _ _ _ h5
      have h6 : DataW.trod enc Try.prog w base spare held n 3 [c6] = some (xs[6]'(by omega)) := by
        have := hf 6 _ rfl
        rw [List.getElem?_eq_getElem (by omega)] at this
        rw [← this]; simp [cells_int]
      obtain ⟨a6, ⟨r6, m6⟩, o6⟩ := (Opens.intR Try.underlying3 cells_int).2 _ _ _ _ _ _ _ _ _ h6
      simp only [intC, boolC, strC, SlR.C, List.cons.injEq, and_true] at r0 r1 r2 r3 r4 r5 r6
      refine ⟨⟨a0, a1, a2, a3, a4, a5, a6⟩, ⟨?_, trivial⟩, o0, o1, o2, o3, o4, o5, o6⟩
      simp only [cRod]
      subst r0
      subst r1
      subst r2
      subst r3
      subst r4
      subst r5
      subst r6
      rfl⟩
/-- api.Shelter -/
structure She where
  nm : ByteArray
  room : Int
def cShe (x : She) : List Value := [.string x.nm, .int .i64 x.room]
def OkShe (x : She) : Prop := (fun s => s.size ≤ maxLen) x.nm ∧ I64 x.room
def MShe : World → Nat → She → Prop := mem0
theorem MShe_lasts : MLasts MShe := mem0_lasts
theorem cells_She : Try.prog.cellsOf 95 = 2 := by kernel_rfl
set_option maxRecDepth 100000 in
theorem opens_She : Opens Try.prog 95 2 (Rw cShe MShe) OkShe :=
  ⟨cells_She, fun H enc w base spare held fuel cs x h => by
    obtain ⟨xs, n, _, _, hlen, hxl, hf⟩ := DataW.trod_struct Try.underlying95 h
    rw [cells_She] at hlen
    have hxl' : xs.length = 2 := hxl
    match cs, hlen with
    | [c0, c1], _ =>
      have h0 : DataW.trod enc Try.prog w base spare held n 9 [c0] = some (xs[0]'(by omega)) := by
        have := hf 0 _ rfl
        rw [List.getElem?_eq_getElem (by omega)] at this
        rw [← this]; simp [cells_str]
      obtain ⟨a0, ⟨r0, m0⟩, o0⟩ := (Opens.strR Try.underlying9 cells_str).2 _ _ _ _ _ _ _ _ _ h0
      have h1 : DataW.trod enc Try.prog w base spare held n 3 [c1] = some (xs[1]'(by omega)) := by
        have := hf 1 _ rfl
        rw [List.getElem?_eq_getElem (by omega)] at this
        rw [← this]; simp [cells_int]
      obtain ⟨a1, ⟨r1, m1⟩, o1⟩ := (Opens.intR Try.underlying3 cells_int).2 _ _ _ _ _ _ _ _ _ h1
      simp only [intC, boolC, strC, SlR.C, List.cons.injEq, and_true] at r0 r1
      refine ⟨⟨a0, a1⟩, ⟨?_, trivial⟩, o0, o1⟩
      simp only [cShe]
      subst r0
      subst r1
      rfl⟩
theorem cells_sl_str : Try.prog.cellsOf 22 = 1 := by kernel_rfl
theorem cells_sl_Plc : Try.prog.cellsOf 23 = 1 := by kernel_rfl
theorem cells_sl_Lnk : Try.prog.cellsOf 24 = 1 := by kernel_rfl
theorem cells_sl_Twn : Try.prog.cellsOf 25 = 1 := by kernel_rfl
theorem cells_sl_Gau : Try.prog.cellsOf 26 = 1 := by kernel_rfl
theorem cells_sl_Rod : Try.prog.cellsOf 27 = 1 := by kernel_rfl
theorem cells_sl_She : Try.prog.cellsOf 28 = 1 := by kernel_rfl
/-- api.Basin -/
structure Bas where
  nm : ByteArray
  ow : SlR ByteArray
  cells : Int
  pl : SlR Plc
  lk : SlR Lnk
  tw : SlR Twn
  gg : SlR Gau
  rd : SlR Rod
  sh : SlR She
  room : SlR Int
  err : Int
def cBas (x : Bas) : List Value := [.string x.nm, .slice x.ow.a x.ow.n x.ow.c, .int .i64 x.cells, .slice x.pl.a x.pl.n x.pl.c, .slice x.lk.a x.lk.n x.lk.c, .slice x.tw.a x.tw.n x.tw.c, .slice x.gg.a x.gg.n x.gg.c, .slice x.rd.a x.rd.n x.rd.c, .slice x.sh.a x.sh.n x.sh.c, .slice x.room.a x.room.n x.room.c, .int .i64 x.err]
def OkBas (x : Bas) : Prop := (fun s => s.size ≤ maxLen) x.nm ∧ (fun s => ∀ x ∈ s.l, (fun s => s.size ≤ maxLen) x) x.ow ∧ I64 x.cells ∧ (fun s => ∀ x ∈ s.l, OkPlc x) x.pl ∧ (fun s => ∀ x ∈ s.l, OkLnk x) x.lk ∧ (fun s => ∀ x ∈ s.l, OkTwn x) x.tw ∧ (fun s => ∀ x ∈ s.l, OkGau x) x.gg ∧ (fun s => ∀ x ∈ s.l, OkRod x) x.rd ∧ (fun s => ∀ x ∈ s.l, OkShe x) x.sh ∧ (fun s => ∀ x ∈ s.l, I64 x) x.room ∧ I64 x.err
def MBas : World → Nat → Bas → Prop := fun w B x => (SlR.Mem (Rw strC mem0) 1) w B x.ow ∧ (SlR.Mem (Rw cPlc MPlc) 12) w B x.pl ∧ (SlR.Mem (Rw cLnk MLnk) 18) w B x.lk ∧ (SlR.Mem (Rw cTwn MTwn) 7) w B x.tw ∧ (SlR.Mem (Rw cGau MGau) 5) w B x.gg ∧ (SlR.Mem (Rw cRod MRod) 7) w B x.rd ∧ (SlR.Mem (Rw cShe MShe) 2) w B x.sh ∧ (SlR.Mem (Rw intC mem0) 1) w B x.room
theorem MBas_lasts : MLasts MBas := fun w w' B B' x hb hB ⟨h0, h1, h2, h3, h4, h5, h6, h7⟩ => ⟨(SlR.lasts mem0_lasts) _ _ _ _ _ hb hB h0, (SlR.lasts MPlc_lasts) _ _ _ _ _ hb hB h1, (SlR.lasts MLnk_lasts) _ _ _ _ _ hb hB h2, (SlR.lasts MTwn_lasts) _ _ _ _ _ hb hB h3, (SlR.lasts MGau_lasts) _ _ _ _ _ hb hB h4, (SlR.lasts MRod_lasts) _ _ _ _ _ hb hB h5, (SlR.lasts MShe_lasts) _ _ _ _ _ hb hB h6, (SlR.lasts mem0_lasts) _ _ _ _ _ hb hB h7⟩
theorem cells_Bas : Try.prog.cellsOf 31 = 11 := by kernel_rfl
set_option maxRecDepth 100000 in
theorem opens_Bas : Opens Try.prog 31 11 (Rw cBas MBas) OkBas :=
  ⟨cells_Bas, fun H enc w base spare held fuel cs x h => by
    obtain ⟨xs, n, _, _, hlen, hxl, hf⟩ := DataW.trod_struct Try.underlying31 h
    rw [cells_Bas] at hlen
    have hxl' : xs.length = 11 := hxl
    match cs, hlen with
    | [c0, c1, c2, c3, c4, c5, c6, c7, c8, c9, c10], _ =>
      have h0 : DataW.trod enc Try.prog w base spare held n 9 [c0] = some (xs[0]'(by omega)) := by
        have := hf 0 _ rfl
        rw [List.getElem?_eq_getElem (by omega)] at this
        rw [← this]; simp [cells_str]
      obtain ⟨a0, ⟨r0, m0⟩, o0⟩ := (Opens.strR Try.underlying9 cells_str).2 _ _ _ _ _ _ _ _ _ h0
      have h1 : DataW.trod enc Try.prog w base spare held n 22 [c1] = some (xs[1]'(by omega)) := by
        have := hf 1 _ rfl
        rw [List.getElem?_eq_getElem (by omega)] at this
        rw [← this]; simp [cells_sl_str]
      obtain ⟨a1, ⟨r1, m1⟩, o1⟩ := (Opens.sliceR (Opens.strR Try.underlying9 cells_str) (by decide) Try.underlying22 cells_sl_str).2 _ _ _ _ _ _ _ _ _ h1
      have h2 : DataW.trod enc Try.prog w base spare held n 3 [c2] = some (xs[2]'(by omega)) := by
        have := hf 2 _ rfl
        rw [List.getElem?_eq_getElem (by omega)] at this
        rw [← this]; simp [cells_int]
      obtain ⟨a2, ⟨r2, m2⟩, o2⟩ := (Opens.intR Try.underlying3 cells_int).2 _ _ _ _ _ _ _ _ _ h2
      have h3 : DataW.trod enc Try.prog w base spare held n 23 [c3] = some (xs[3]'(by omega)) := by
        have := hf 3 _ rfl
        rw [List.getElem?_eq_getElem (by omega)] at this
        rw [← this]; simp [cells_sl_Plc]
      obtain ⟨a3, ⟨r3, m3⟩, o3⟩ := (Opens.sliceR opens_Plc (by decide) Try.underlying23 cells_sl_Plc).2 _ _ _ _ _ _ _ _ _ h3
      have h4 : DataW.trod enc Try.prog w base spare held n 24 [c4] = some (xs[4]'(by omega)) := by
        have := hf 4 _ rfl
        rw [List.getElem?_eq_getElem (by omega)] at this
        rw [← this]; simp [cells_sl_Lnk]
      obtain ⟨a4, ⟨r4, m4⟩, o4⟩ := (Opens.sliceR opens_Lnk (by decide) Try.underlying24 cells_sl_Lnk).2 _ _ _ _ _ _ _ _ _ h4
      have h5 : DataW.trod enc Try.prog w base spare held n 25 [c5] = some (xs[5]'(by omega)) := by
        have := hf 5 _ rfl
        rw [List.getElem?_eq_getElem (by omega)] at this
        rw [← this]; simp [cells_sl_Twn]
      obtain ⟨a5, ⟨r5, m5⟩, o5⟩ := (Opens.sliceR opens_Twn (by decide) Try.underlying25 cells_sl_Twn).2 _ _ _ _ _ _ _ _ _ h5
      have h6 : DataW.trod enc Try.prog w base spare held n 26 [c6] = some (xs[6]'(by omega)) := by
        have := hf 6 _ rfl
        rw [List.getElem?_eq_getElem (by omega)] at this
        rw [← this]; simp [cells_sl_Gau]
      obtain ⟨a6, ⟨r6, m6⟩, o6⟩ := (Opens.sliceR opens_Gau (by decide) Try.underlying26 cells_sl_Gau).2 _ _ _ _ _ _ _ _ _ h6
      have h7 : DataW.trod enc Try.prog w base spare held n 27 [c7] = some (xs[7]'(by omega)) := by
        have := hf 7 _ rfl
        rw [List.getElem?_eq_getElem (by omega)] at this
        rw [← this]; simp [cells_sl_Rod]
      obtain ⟨a7, ⟨r7, m7⟩, o7⟩ := (Opens.sliceR opens_Rod (by decide) Try.underlying27 cells_sl_Rod).2 _ _ _ _ _ _ _ _ _ h7
      have h8 : DataW.trod enc Try.prog w base spare held n 28 [c8] = some (xs[8]'(by omega)) := by
        have := hf 8 _ rfl
        rw [List.getElem?_eq_getElem (by omega)] at this
        rw [← this]; simp [cells_sl_She]
      obtain ⟨a8, ⟨r8, m8⟩, o8⟩ := (Opens.sliceR opens_She (by decide) Try.underlying28 cells_sl_She).2 _ _ _ _ _ _ _ _ _ h8
      have h9 : DataW.trod enc Try.prog w base spare held n 29 [c9] = some (xs[9]'(by omega)) := by
        have := hf 9 _ rfl
        rw [List.getElem?_eq_getElem (by omega)] at this
        rw [← this]; simp [cells_sl_int]
      obtain ⟨a9, ⟨r9, m9⟩, o9⟩ := (Opens.sliceR (Opens.intR Try.underlying3 cells_int) (by decide) Try.underlying29 cells_sl_int).2 _ _ _ _ _ _ _ _ _ h9
      have h10 : DataW.trod enc Try.prog w base spare held n 3 [c10] = some (xs[10]'(by omega)) := by
        have := hf 10 _ rfl
        rw [List.getElem?_eq_getElem (by omega)] at this
        rw [← this]; simp [cells_int]
      obtain ⟨a10, ⟨r10, m10⟩, o10⟩ := (Opens.intR Try.underlying3 cells_int).2 _ _ _ _ _ _ _ _ _ h10
      simp only [intC, boolC, strC, SlR.C, List.cons.injEq, and_true] at r0 r1 r2 r3 r4 r5 r6 r7 r8 r9 r10
      refine ⟨⟨a0, a1, a2, a3, a4, a5, a6, a7, a8, a9, a10⟩, ⟨?_, ⟨m1, m3, m4, m5, m6, m7, m8, m9⟩⟩, o0, o1, o2, o3, o4, o5, o6, o7, o8, o9, o10⟩
      simp only [cBas]
      subst r0
      subst r1
      subst r2
      subst r3
      subst r4
      subst r5
      subst r6
      subst r7
      subst r8
      subst r9
      subst r10
      rfl⟩

end Go.Proofs.Ytmkbojhnbkdalaa
