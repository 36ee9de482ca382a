/- The reference's writer: its memory, and the writing of a text, walked. -/
import Derived.Test.YtjpkmcaogekkdaaDoorWrA
namespace Go.Proofs.YtjpkmcaogekkdaaDoor.Wr
open Go.RowKit Go.Proofs.YtjpkmcaogekkdaaDoor.Rm Go.Proofs.YtjpkmcaogekkdaaDoor.Nu Go.Proofs.YtjpkmcaogekkdaaDoor.Gr
set_option linter.unusedVariables false
set_option linter.unusedSimpArgs false

def I64 (x : Int) : Prop := -9223372036854775808 ≤ x ∧ x ≤ 9223372036854775807
/-- The writer in block b: its nodes, the ways above, their marks, the count, what is written, whether it is too much. -/
def Wt (w : World) (b : Nat) (nv : Value) (A M : List Int) (cnt : Int) (out : ByteArray) (ov : Bool) : Prop :=
  ∃ av mv, Blk w b #[nv, .bool false, av, mv, .int .i64 cnt, .string out, .bool ov] 124 ∧ OwnRow w (b + 1) av A ∧ OwnRow w (b + 1) mv M ∧
    (∀ g, av.ownBlock = some g → mv.ownBlock ≠ some g) ∧ M.length = A.length ∧ out.size ≤ 4000 ∧ I64 cnt ∧ (∀ m ∈ M, I64 m) ∧ A.length ≤ 1000
theorem OwnRow.carry {w w' : World} {lo : Nat} {v : Value} {xs : List Int} (h : OwnRow w lo v xs) (hw : ∀ g, v.ownBlock = some g → w'.heap[g]? = w.heap[g]?) : OwnRow w' lo v xs := by
  obtain ⟨h1, h2 | ⟨g, cap, cur, rfl, h3, h4, rest⟩⟩ := h
  · exact ⟨h1, .inl h2⟩
  · exact ⟨h1, .inr ⟨g, cap, cur, rfl, h3, (hw g rfl).trans h4, rest⟩⟩
theorem OwnRow.farB {w : World} {b : Nat} {v : Value} {xs : List Int} (h : OwnRow w (b + 1) v xs) (o : Nat) (u : Value) : OwnRow (w.setCell ⟨b, o, none⟩ u) (b + 1) v xs :=
  OwnRow.carry h fun g hg => Below.heap_setCell _ _ _ _ (by have := h.above g hg; show g ≠ b; omega)
/-- block g holds one of the rows of the writer in block b -/
def Own (w : World) (b g : Nat) : Prop := ∃ C av mv, Blk w b C 124 ∧ C[2]? = some av ∧ C[3]? = some mv ∧ (av.ownBlock = some g ∨ mv.ownBlock = some g)
/-- only the writer and its rows may have changed -/
structure FrW (b : Nat) (w w' : World) : Prop where
  os : w'.os = w.os
  tape : w'.tape = w.tape
  output : w'.output = w.output
  size : w.heap.size ≤ w'.heap.size
  keep : ∀ g, g < w.heap.size → g ≠ b → ¬ Own w b g → w'.heap[g]? = w.heap[g]? ∧ ¬ Own w' b g
theorem FrW.refl (b : Nat) (w : World) : FrW b w w := ⟨rfl, rfl, rfl, Nat.le_refl _, fun g _ _ h => ⟨rfl, h⟩⟩
theorem FrW.trans {b : Nat} {w w1 w2 : World} (h : FrW b w w1) (k : FrW b w1 w2) : FrW b w w2 :=
  ⟨k.os.trans h.os, k.tape.trans h.tape, k.output.trans h.output, Nat.le_trans h.size k.size, fun g hg hb ho => by
    obtain ⟨h1, h2⟩ := h.keep g hg hb ho
    obtain ⟨k1, k2⟩ := k.keep g (Nat.lt_of_lt_of_le hg h.size) hb h2
    exact ⟨k1.trans h1, k2⟩⟩
theorem Own.same {w w' : World} {b g : Nat} (h : w'.heap[b]? = w.heap[b]?) : Own w' b g ↔ Own w b g := by
  unfold Own Blk
  rw [h]
/-- a callee that leaves all that was there -/
theorem FrW.of_below {b : Nat} {w w' : World} (h : Below w.heap.size w w') (hb : b < w.heap.size) : FrW b w w' :=
  ⟨h.os, h.tape, h.output, h.size, fun g hg hne ho => ⟨h.block g hg, fun k => ho ((Own.same (h.block b hb)).1 k)⟩⟩
theorem own_iff {w : World} {b g : Nat} {v0 v1 av mv v4 v5 v6 : Value} (h : Blk w b #[v0, v1, av, mv, v4, v5, v6] 124) : Own w b g ↔ (av.ownBlock = some g ∨ mv.ownBlock = some g) := by
  constructor
  · rintro ⟨C, av', mv', hC, h2, h3, ho⟩
    have h' : w.heap[b]? = some (.cells #[v0, v1, av, mv, v4, v5, v6] 124 (0, 0)) := h
    have hC' : w.heap[b]? = some (.cells C 124 (0, 0)) := hC
    rw [h'] at hC'
    obtain rfl : #[v0, v1, av, mv, v4, v5, v6] = C := by
      have := Option.some.inj hC'
      injection this
    obtain rfl : av = av' := Option.some.inj h2
    obtain rfl : mv = mv' := Option.some.inj h3
    exact ho
  · intro ho
    exact ⟨_, av, mv, h, rfl, rfl, ho⟩
/-- a store into the writer that leaves its rows' slots -/
theorem FrW.store {w : World} {b : Nat} {v0 v1 av mv v4 v5 v6 : Value} (h : Blk w b #[v0, v1, av, mv, v4, v5, v6] 124) (o : Nat) (u : Value) (h2 : o ≠ 2) (h3 : o ≠ 3) : FrW b w (w.setCell ⟨b, o, none⟩ u) := by
  refine ⟨rfl, rfl, rfl, by simp, fun g hg hne ho => ⟨Below.heap_setCell _ _ _ _ hne, ?_⟩⟩
  rintro ⟨C, av', mv', hC, h4, h5, ho'⟩
  have hs := h.set o u
  have hs' : (w.setCell ⟨b, o, none⟩ u).heap[b]? = some (.cells (#[v0, v1, av, mv, v4, v5, v6].setIfInBounds o u) 124 (0, 0)) := hs
  have hC' : (w.setCell ⟨b, o, none⟩ u).heap[b]? = some (.cells C 124 (0, 0)) := hC
  rw [hs'] at hC'
  obtain rfl : #[v0, v1, av, mv, v4, v5, v6].setIfInBounds o u = C := by
    have := Option.some.inj hC'
    injection this
  rw [Array.getElem?_setIfInBounds_ne h2] at h4
  rw [Array.getElem?_setIfInBounds_ne h3] at h5
  obtain rfl : av = av' := Option.some.inj h4
  obtain rfl : mv = mv' := Option.some.inj h5
  exact ho ((own_iff h).2 ho')
theorem FrW.below {w w' : World} {b : Nat} {nv : Value} {A M : List Int} {cnt : Int} {out : ByteArray} {ov : Bool} (h : FrW b w w') (hw : Wt w b nv A M cnt out ov) : Below b w w' := by
  obtain ⟨av, mv, hB, hA, hM, _⟩ := hw
  refine ⟨h.os, h.tape, h.output, h.size, fun g hg => (h.keep g (Nat.lt_trans hg hB.lt) (by omega) fun ho => ?_).1⟩
  rcases (own_iff hB).1 ho with h1 | h1
  · have := hA.above g h1; omega
  · have := hM.above g h1; omega

/-- the walk comes back with nothing, the writer at hand still, all below its block kept -/
def Done (b : Nat) (nv : Value) (A M : List Int) (w : World) (e : Ending) (w' : World) : Prop :=
  ∃ cnt out ov, e = .returned (.tuple #[]) ∧ Wt w' b nv A M cnt out ov ∧ FrW b w w'

set_option maxHeartbeats 1000000 in
set_option maxRecDepth 100000 in
theorem put_any (w : World) (b : Nat) (nv : Value) (A M : List Int) (cnt : Int) (out : ByteArray) (ov : Bool) (s : ByteArray) (h : Wt w b nv A M cnt out ov) (hs : s.size ≤ 100000000) :
    Calls Tryd.prog 81 #[.pointer (some ⟨b, 0, none⟩), .string s] w (Done b nv A M w) := by
  obtain ⟨av, mv, hB, hA, hM, hne, hl, ho, hc, hm, hA1⟩ := h
  have c5 := hB.cell0 (o := 5) (v := .string out) rfl
  have c6 := hB.cell0 (o := 6) (v := .bool ov) rfl
  have f5 := hB.free 5
  have f6 := hB.free 6
  have hb := hB.lt
  by_cases hbig : 4000 < out.size + s.size
  · go_enter Tryd.func81, Tryd.ntmps81
    go_wp2
    refine bodyPost_ret (v := .tuple #[]) (by simp [results, Tryd.results81, go_sem]) rfl ?_
    exact ⟨cnt, out, true, rfl, ⟨av, mv, hB.set 6 _, OwnRow.farB hA 6 _, OwnRow.farB hM 6 _, hne, hl, ho, hc, hm, hA1⟩, FrW.store hB 6 _ (by omega) (by omega)⟩
  · go_enter Tryd.func81, Tryd.ntmps81
    go_wp2
    go_end0
    exact ⟨cnt, _, ov, rfl, ⟨av, mv, hB.set 5 _, OwnRow.farB hA 5 _, OwnRow.farB hM 5 _, hne, hl, by rw [ByteArray.size_append]; omega, hc, hm, hA1⟩, FrW.store hB 5 _ (by omega) (by omega)⟩
end Go.Proofs.YtjpkmcaogekkdaaDoor.Wr
