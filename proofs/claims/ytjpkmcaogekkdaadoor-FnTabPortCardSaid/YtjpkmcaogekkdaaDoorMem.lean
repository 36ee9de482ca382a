/- Small words on memory: a block of cells that is known whole, carried over calls, stores, new blocks and draws. No program in sight. -/
import Derived.Below
import Derived.WalkKit
import Derived.WalkSmall
namespace Go.Proofs.YtjpkmcaogekkdaaDoor
open Go.RowKit
set_option linter.unusedVariables false
set_option linter.unusedSimpArgs false

/-- Block b of w holds just these cells, none of them frozen. -/
def Blk (w : World) (b : Nat) (c : Array Value) (t : TypeId) : Prop := w.heap[b]? = some (.cells c t (0, 0))

variable {w w' : World} {b b' o : Nat} {c : Array Value} {t : TypeId} {v : Value}

theorem Blk.cell (h : Blk w b c t) (o : Nat) : w.cell? ⟨b, o, none⟩ = c[o]? := by
  have h' : w.heap[b]? = some (.cells c t (0, 0)) := h
  simp [World.cell?, h']
theorem Blk.free (h : Blk w b c t) (o : Nat) : w.frozen? ⟨b, o, none⟩ = false := by
  have h' : w.heap[b]? = some (.cells c t (0, 0)) := h
  simp [World.frozen?, h']
theorem Blk.lt (h : Blk w b c t) : b < w.heap.size := (Array.getElem?_eq_some_iff.1 h).1
theorem Blk.carry (h : Blk w b c t) {B : Nat} (hb : Below B w w') (hlt : b < B) : Blk w' b c t := (hb.block b hlt).trans h
theorem Blk.below (h : Blk w b c t) (hb : Below w.heap.size w w') : Blk w' b c t := h.carry hb h.lt
theorem Blk.alloc (h : Blk w b c t) (x : Obj) : Blk (w.alloc x) b c t := (Below.heap_alloc w x b h.lt).trans h
theorem Blk.drew (h : Blk w b c t) : Blk w.drew b c t := h
theorem Blk.drewN (h : Blk w b c t) (n : Nat) : Blk (w.drewN n) b c t := h
theorem Blk.new (w : World) (c : Array Value) (t : TypeId) : Blk (w.alloc (.cells c t)) w.heap.size c t := by
  show (w.heap.push (.cells c t))[w.heap.size]? = _
  simp
theorem Blk.newAt (w : World) (c : Array Value) (t : TypeId) {k : Nat} (hk : k = w.heap.size) : Blk (w.alloc (.cells c t)) k c t := by
  subst hk; exact Blk.new w c t
/-- Two new blocks, one behind the other. -/
theorem Blk.two (w : World) (c c' : Array Value) (t t' : TypeId) : Blk ((w.alloc (.cells c t)).alloc (.cells c' t')) w.heap.size c t ∧ Blk ((w.alloc (.cells c t)).alloc (.cells c' t')) (w.heap.size + 1) c' t' :=
  ⟨(Blk.new w c t).alloc _, Blk.newAt _ c' t' (by simp)⟩
theorem Blk.three (w : World) (c c' c'' : Array Value) (t t' t'' : TypeId) : Blk (((w.alloc (.cells c t)).alloc (.cells c' t')).alloc (.cells c'' t'')) w.heap.size c t ∧
    Blk (((w.alloc (.cells c t)).alloc (.cells c' t')).alloc (.cells c'' t'')) (w.heap.size + 1) c' t' ∧ Blk (((w.alloc (.cells c t)).alloc (.cells c' t')).alloc (.cells c'' t'')) (w.heap.size + 1 + 1) c'' t'' :=
  ⟨(Blk.two w c c' t t').1.alloc _, (Blk.two w c c' t t').2.alloc _, Blk.newAt _ c'' t'' (by simp)⟩
theorem Blk.set (h : Blk w b c t) (o : Nat) (v : Value) : Blk (w.setCell ⟨b, o, none⟩ v) b (c.setIfInBounds o v) t := by
  have h' : w.heap[b]? = some (.cells c t (0, 0)) := h
  simp [Blk, World.setCell, Array.getElem?_modify, h']
theorem Blk.far (h : Blk w b c t) (hne : b ≠ b') (o : Nat) (v : Value) : Blk (w.setCell ⟨b', o, none⟩ v) b c t :=
  (Below.heap_setCell w ⟨b', o, none⟩ v b hne).trans h
theorem Blk.cell0 (h : Blk w b c t) {o : Nat} {v : Value} (hv : c[o]? = some v) : w.cell? ⟨b, o, none⟩ = some v := (h.cell o).trans hv

theorem cell_in {w : World} {a : Addr} {v : Value} (h : w.cell? a = some v) : a.block < w.heap.size := by
  by_cases hb : a.block < w.heap.size
  · exact hb
  · have : w.heap[a.block]? = none := Array.getElem?_eq_none (by omega)
    simp [World.cell?, this] at h
/-- Blocks of old stay, cell for cell, where the callee's memory is below. -/
theorem bcell {W w1 : World} (hb : Below W.heap.size W w1) : (∀ b o, b < W.heap.size → w1.cell? ⟨b, o, none⟩ = W.cell? ⟨b, o, none⟩) ∧ (∀ b o, b < W.heap.size → w1.frozen? ⟨b, o, none⟩ = W.frozen? ⟨b, o, none⟩) :=
  ⟨fun b o h => hb.cell (p := ⟨b, o, none⟩) h, fun b o h => hb.frozen (p := ⟨b, o, none⟩) h⟩

theorem below1 (w : World) (x : Obj) : Below w.heap.size w (w.alloc x) := (Below.refl _ _).alloc (Nat.le_refl _) _
theorem below2 (w : World) (x y : Obj) : Below w.heap.size w ((w.alloc x).alloc y) :=
  ((Below.refl _ _).alloc (Nat.le_refl _) _).alloc (by simp) _
theorem below3 (w : World) (x y z : Obj) : Below w.heap.size w (((w.alloc x).alloc y).alloc z) :=
  (below2 w x y).alloc (by simp; omega) _
theorem below3b {w w1 : World} {x y z : Obj} (hb : Below (((w.alloc x).alloc y).alloc z).heap.size (((w.alloc x).alloc y).alloc z) w1) : Below w.heap.size w w1 :=
  (below3 w x y z).trans (hb.mono (by simp; omega))
theorem below1b {w w1 : World} {x : Obj} (hb : Below (w.alloc x).heap.size (w.alloc x) w1) : Below w.heap.size w w1 :=
  (below1 w x).trans (hb.mono (by simp))
theorem below2b {w w1 : World} {x y : Obj} (hb : Below ((w.alloc x).alloc y).heap.size ((w.alloc x).alloc y) w1) : Below w.heap.size w w1 :=
  (below2 w x y).trans (hb.mono (by simp; omega))
theorem below_then {B : Nat} {a b c : World} (h : Below B a b) (k : Below b.heap.size b c) (hB : B ≤ b.heap.size) : Below B a c := h.trans (k.mono hB)
end Go.Proofs.YtjpkmcaogekkdaaDoor
