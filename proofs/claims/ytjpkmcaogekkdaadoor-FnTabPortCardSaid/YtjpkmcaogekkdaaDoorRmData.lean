/- Data of the reader: nodes and roots as plain lists, and what it means that values read as them in memory. -/
import Derived.Test.YtjpkmcaogekkdaaDoorMem
import Derived.Deep.Draws
namespace Go.Proofs.YtjpkmcaogekkdaaDoor.Rm
open Go.RowKit

/-- A node. -/
structure Nd where
  sort : Int
  text : ByteArray
  kids : List Int

/-- v reads in w as these numbers; where there are any, their block has P. -/
def Ints (w : World) (P : Nat → Prop) (v : Value) (xs : List Int) : Prop :=
  xs.length * 8 ≤ 140737488351232 ∧
  ((∃ b off cap, v = .slice (some ⟨b, off, none⟩) xs.length cap ∧ P b ∧ ∀ i x, xs[i]? = some x → w.cell? ⟨b, off + i, none⟩ = some (.int .i64 x)) ∨ (xs = [] ∧ ∃ a cap, v = .slice a 0 cap))

theorem Ints.same {w w' : World} {P : Nat → Prop} {v : Value} {xs : List Int} (h : Ints w P v xs) (hw : ∀ b, P b → w'.heap[b]? = w.heap[b]?) : Ints w' P v xs := by
  obtain ⟨h0, h1 | h1⟩ := h
  · obtain ⟨b, off, cap, rfl, hb, hc⟩ := h1
    exact ⟨h0, .inl ⟨b, off, cap, rfl, hb, fun i x hi => (World.cell?_of_block (w := w) (hw b hb)).trans (hc i x hi)⟩⟩
  · exact ⟨h0, .inr h1⟩
theorem Ints.weaken {w : World} {P Q : Nat → Prop} {v : Value} {xs : List Int} (h : Ints w P v xs) (hw : ∀ b, P b → Q b) : Ints w Q v xs := by
  obtain ⟨h0, h1 | h1⟩ := h
  · obtain ⟨b, off, cap, rfl, hb, hc⟩ := h1
    exact ⟨h0, .inl ⟨b, off, cap, rfl, hw b hb, hc⟩⟩
  · exact ⟨h0, .inr h1⟩

/-- v reads in w as these nodes; all their cells lie in blocks with P. -/
def Nodes (w : World) (P : Nat → Prop) (v : Value) (ns : List Nd) : Prop :=
  ns.length * 48 ≤ 140737488351232 ∧
  ((∃ b off cap, v = .slice (some ⟨b, off, none⟩) ns.length cap ∧ P b ∧ ∀ i d, ns[i]? = some d → w.cell? ⟨b, off + i * 3, none⟩ = some (.int .i64 d.sort) ∧
      w.cell? ⟨b, off + i * 3 + 1, none⟩ = some (.string d.text) ∧ d.text.size ≤ 140737488351232 ∧ ∃ kv, w.cell? ⟨b, off + i * 3 + 2, none⟩ = some kv ∧ Ints w P kv d.kids) ∨ (ns = [] ∧ ∃ a cap, v = .slice a 0 cap))

theorem Nodes.same {w w' : World} {P : Nat → Prop} {v : Value} {ns : List Nd} (h : Nodes w P v ns) (hw : ∀ b, P b → w'.heap[b]? = w.heap[b]?) : Nodes w' P v ns := by
  obtain ⟨h0, h1 | h1⟩ := h
  · obtain ⟨b, off, cap, rfl, hb, hc⟩ := h1
    refine ⟨h0, .inl ⟨b, off, cap, rfl, hb, fun i d hi => ?_⟩⟩
    obtain ⟨c1, c2, c3, kv, c4, c5⟩ := hc i d hi
    exact ⟨(World.cell?_of_block (w := w) (hw b hb)).trans c1, (World.cell?_of_block (w := w) (hw b hb)).trans c2, c3, kv, (World.cell?_of_block (w := w) (hw b hb)).trans c4, c5.same hw⟩
  · exact ⟨h0, .inr h1⟩
theorem Nodes.weaken {w : World} {P Q : Nat → Prop} {v : Value} {ns : List Nd} (h : Nodes w P v ns) (hw : ∀ b, P b → Q b) : Nodes w Q v ns := by
  obtain ⟨h0, h1 | h1⟩ := h
  · obtain ⟨b, off, cap, rfl, hb, hc⟩ := h1
    refine ⟨h0, .inl ⟨b, off, cap, rfl, hw b hb, fun i d hi => ?_⟩⟩
    obtain ⟨c1, c2, c3, kv, c4, c5⟩ := hc i d hi
    exact ⟨c1, c2, c3, kv, c4, c5.weaken hw⟩
  · exact ⟨h0, .inr h1⟩

/-- A struct of nodes and roots. -/
def Dat (w : World) (P : Nat → Prop) (v : Value) (ns : List Nd) (rs : List Int) : Prop :=
  ∃ nv rv, v = .agg #[nv, rv] ∧ Nodes w P nv ns ∧ Ints w P rv rs

theorem Dat.same {w w' : World} {P : Nat → Prop} {v : Value} {ns : List Nd} {rs : List Int} (h : Dat w P v ns rs) (hw : ∀ b, P b → w'.heap[b]? = w.heap[b]?) : Dat w' P v ns rs := by
  obtain ⟨nv, rv, rfl, h1, h2⟩ := h
  exact ⟨nv, rv, rfl, h1.same hw, h2.same hw⟩
theorem Dat.weaken {w : World} {P Q : Nat → Prop} {v : Value} {ns : List Nd} {rs : List Int} (h : Dat w P v ns rs) (hw : ∀ b, P b → Q b) : Dat w Q v ns rs := by
  obtain ⟨nv, rv, rfl, h1, h2⟩ := h
  exact ⟨nv, rv, rfl, h1.weaken hw, h2.weaken hw⟩

/-- v is a slice at the head of block g, which holds these numbers first. -/
def OwnInts (w : World) (g : Nat) (v : Value) (xs : List Int) : Prop :=
  xs.length * 8 ≤ 140737488351232 ∧ ∃ (cap : Nat) (C : Array Value), v = .slice (some ⟨g, 0, none⟩) xs.length cap ∧ Blk w g C 3 ∧ ∀ (i : Nat) (x : Int), xs[i]? = some x → C[i]? = some (.int .i64 x)

theorem OwnInts.ints {w : World} {g : Nat} {v : Value} {xs : List Int} (h : OwnInts w g v xs) {P : Nat → Prop} (hP : P g) : Ints w P v xs := by
  obtain ⟨h0, cap, C, rfl, hb, hc⟩ := h
  exact ⟨h0, .inl ⟨g, 0, cap, rfl, hP, fun i x hi => by rw [Nat.zero_add, hb.cell]; exact hc i x hi⟩⟩
theorem OwnInts.carry {w w' : World} {g : Nat} {v : Value} {xs : List Int} (h : OwnInts w g v xs) (hw : w'.heap[g]? = w.heap[g]?) : OwnInts w' g v xs := by
  obtain ⟨h0, cap, C, rfl, hb, hc⟩ := h
  exact ⟨h0, cap, C, rfl, hw.trans hb, hc⟩
theorem OwnInts.lt {w : World} {g : Nat} {v : Value} {xs : List Int} (h : OwnInts w g v xs) : g < w.heap.size := by
  obtain ⟨h0, cap, C, rfl, hb, hc⟩ := h
  exact hb.lt
theorem OwnInts.set {w : World} {g : Nat} {v : Value} {xs : List Int} (h : OwnInts w g v xs) {a : Addr} (hne : g ≠ a.block) (u : Value) : OwnInts (w.setCell a u) g v xs :=
  h.carry (Below.heap_setCell w a u g hne)
theorem OwnInts.below {w w' : World} {g : Nat} {v : Value} {xs : List Int} (h : OwnInts w g v xs) (hb : Below w.heap.size w w') : OwnInts w' g v xs := h.carry (hb.block g h.lt)

/-- The cells of nodes one behind the other in an array of cells; the parts' lists at the heads of the blocks gs. -/
def NodeCells (w : World) (C : Array Value) (gs : List Nat) (ns : List Nd) : Prop :=
  gs.length = ns.length ∧ ∀ (i : Nat) (d : Nd) (g : Nat), ns[i]? = some d → gs[i]? = some g →
    d.text.size ≤ 140737488351232 ∧ C[i * 3]? = some (.int .i64 d.sort) ∧ C[i * 3 + 1]? = some (.string d.text) ∧ ∃ kv, C[i * 3 + 2]? = some kv ∧ OwnInts w g kv d.kids

theorem NodeCells.carry {w w' : World} {C : Array Value} {gs : List Nat} {ns : List Nd} (h : NodeCells w C gs ns) (hw : ∀ g ∈ gs, w'.heap[g]? = w.heap[g]?) : NodeCells w' C gs ns :=
  ⟨h.1, fun i d g h1 h2 => by
    obtain ⟨e0, e1, e2, kv, e3, e4⟩ := h.2 i d g h1 h2
    exact ⟨e0, e1, e2, kv, e3, e4.carry (hw g (List.mem_of_getElem? h2))⟩⟩
theorem NodeCells.lt {w : World} {C : Array Value} {gs : List Nat} {ns : List Nd} (h : NodeCells w C gs ns) : ∀ g ∈ gs, g < w.heap.size := by
  intro g hg
  obtain ⟨i, hi, rfl⟩ := List.getElem_of_mem hg
  obtain ⟨_, _, _, kv, _, e4⟩ := h.2 i (ns[i]'(by rw [← h.1]; exact hi)) gs[i] (List.getElem?_eq_getElem _) (List.getElem?_eq_getElem _)
  exact e4.lt

theorem NodeCells.congr {w : World} {C C' : Array Value} {gs : List Nat} {ns : List Nd} (h : NodeCells w C gs ns) (hc : ∀ j, j < ns.length * 3 → C'[j]? = C[j]?) : NodeCells w C' gs ns :=
  ⟨h.1, fun i d g h1 h2 => by
    obtain ⟨e0, e1, e2, kv, e3, e4⟩ := h.2 i d g h1 h2
    have hi := (List.getElem?_eq_some_iff.1 h1).1
    exact ⟨e0, (hc _ (by omega)).trans e1, (hc _ (by omega)).trans e2, kv, (hc _ (by omega)).trans e3, e4⟩⟩

theorem NodeCells.snoc {w : World} {C : Array Value} {gs : List Nat} {ns : List Nd} (h : NodeCells w C gs ns) {g : Nat} {d : Nd} {kv : Value} (ht : d.text.size ≤ 140737488351232)
    (e1 : C[ns.length * 3]? = some (.int .i64 d.sort)) (e2 : C[ns.length * 3 + 1]? = some (.string d.text)) (e3 : C[ns.length * 3 + 2]? = some kv) (e4 : OwnInts w g kv d.kids) : NodeCells w C (gs ++ [g]) (ns ++ [d]) := by
  refine ⟨by simp [h.1], fun i d' g' h1 h2 => ?_⟩
  by_cases hi : i < ns.length
  · rw [List.getElem?_append_left hi] at h1
    rw [List.getElem?_append_left (by rw [h.1]; exact hi)] at h2
    exact h.2 i d' g' h1 h2
  · rw [List.getElem?_append_right (by omega)] at h1
    rw [List.getElem?_append_right (by rw [h.1]; omega)] at h2
    have hl := (List.getElem?_eq_some_iff.1 h1).1
    simp at hl
    obtain rfl : i = ns.length := by omega
    rw [h.1] at h2
    simp at h1 h2
    subst h1 h2
    exact ⟨ht, e1, e2, kv, e3, e4⟩

/-- v is a slice of these nodes at the head of block G. -/
def OwnNodes (w : World) (v : Value) (ns : List Nd) (G : Nat) (gs : List Nat) : Prop :=
  ns.length * 48 ≤ 140737488351232 ∧ gs.length = ns.length ∧
  ((∃ (cap : Nat) (C : Array Value), v = .slice (some ⟨G, 0, none⟩) ns.length cap ∧ Blk w G C 58 ∧ NodeCells w C gs ns) ∨ (ns = [] ∧ ∃ a c, v = .slice a 0 c))

def OwnIntsO (w : World) (g : Nat) (v : Value) (xs : List Int) : Prop := OwnInts w g v xs ∨ (xs = [] ∧ ∃ a c, v = .slice a 0 c)

/-- Data whose cells are their own: no block is shared, all lie from lo on and below hi. -/
def OwnData (w : World) (lo hi : Nat) (v : Value) (ns : List Nd) (rs : List Int) : Prop :=
  ∃ nv rv G r gs, v = .agg #[nv, rv] ∧ OwnNodes w nv ns G gs ∧ OwnIntsO w r rv rs ∧ (G :: r :: gs).Nodup ∧ ∀ g ∈ G :: r :: gs, lo ≤ g ∧ g < hi

theorem OwnNodes.nodes {w : World} {v : Value} {ns : List Nd} {G : Nat} {gs : List Nat} (h : OwnNodes w v ns G gs) {P : Nat → Prop} (hG : P G) (hgs : ∀ g ∈ gs, P g) : Nodes w P v ns := by
  obtain ⟨h0, hl, ⟨cap, C, rfl, hb, hc⟩ | ⟨rfl, a, c, rfl⟩⟩ := h
  · refine ⟨h0, .inl ⟨G, 0, cap, rfl, hG, fun i d hi => ?_⟩⟩
    have hi' : i < gs.length := by rw [hl]; exact (List.getElem?_eq_some_iff.1 hi).1
    obtain ⟨e0, e1, e2, kv, e3, e4⟩ := hc.2 i d gs[i] hi (List.getElem?_eq_getElem hi')
    rw [Nat.zero_add, hb.cell, hb.cell, hb.cell]
    exact ⟨e1, e2, e0, kv, e3, e4.ints (hgs _ (List.getElem_mem hi'))⟩
  · exact ⟨h0, .inr ⟨rfl, a, c, rfl⟩⟩
theorem OwnNodes.carry {w w' : World} {v : Value} {ns : List Nd} {G : Nat} {gs : List Nat} (h : OwnNodes w v ns G gs) (hG : w'.heap[G]? = w.heap[G]?) (hw : ∀ g ∈ gs, w'.heap[g]? = w.heap[g]?) : OwnNodes w' v ns G gs := by
  obtain ⟨h0, hl, ⟨cap, C, rfl, hb, hc⟩ | ⟨rfl, a, c, rfl⟩⟩ := h
  · exact ⟨h0, hl, .inl ⟨cap, C, rfl, hG.trans hb, hc.carry hw⟩⟩
  · exact ⟨h0, hl, .inr ⟨rfl, a, c, rfl⟩⟩
theorem OwnIntsO.ints {w : World} {g : Nat} {v : Value} {xs : List Int} (h : OwnIntsO w g v xs) {P : Nat → Prop} (hP : P g) : Ints w P v xs := by
  rcases h with h | ⟨rfl, a, c, rfl⟩
  · exact h.ints hP
  · exact ⟨by simp, .inr ⟨rfl, a, c, rfl⟩⟩
theorem OwnIntsO.carry {w w' : World} {g : Nat} {v : Value} {xs : List Int} (h : OwnIntsO w g v xs) (hw : w'.heap[g]? = w.heap[g]?) : OwnIntsO w' g v xs := by
  rcases h with h | h
  · exact .inl (h.carry hw)
  · exact .inr h
theorem OwnData.dat {w : World} {lo hi : Nat} {v : Value} {ns : List Nd} {rs : List Int} (h : OwnData w lo hi v ns rs) : Dat w (fun b => lo ≤ b ∧ b < hi) v ns rs := by
  obtain ⟨nv, rv, G, r, gs, rfl, h1, h2, _, h4⟩ := h
  exact ⟨nv, rv, rfl, h1.nodes (h4 G (by simp)) (fun g hg => h4 g (by simp [hg])), h2.ints (h4 r (by simp))⟩
theorem OwnData.carry {w w' : World} {lo hi : Nat} {v : Value} {ns : List Nd} {rs : List Int} (h : OwnData w lo hi v ns rs) (hw : ∀ g, lo ≤ g → g < hi → w'.heap[g]? = w.heap[g]?) : OwnData w' lo hi v ns rs := by
  obtain ⟨nv, rv, G, r, gs, rfl, h1, h2, h3, h4⟩ := h
  have hw' : ∀ g ∈ G :: r :: gs, w'.heap[g]? = w.heap[g]? := fun g hg => hw g (h4 g hg).1 (h4 g hg).2
  exact ⟨nv, rv, G, r, gs, rfl, h1.carry (hw' G (by simp)) (fun g hg => hw' g (by simp [hg])), h2.carry (hw' r (by simp)), h3, h4⟩

/-- Data of their own whose slices have an address each. -/
def OwnDataA (w : World) (lo hi : Nat) (v : Value) (ns : List Nd) (rs : List Int) : Prop :=
  ∃ (G r : Nat) (gs : List Nat) (cap cap' : Nat) (C : Array Value), v = .agg #[.slice (some ⟨G, 0, none⟩) ns.length cap, .slice (some ⟨r, 0, none⟩) rs.length cap'] ∧ ns.length * 48 ≤ 140737488351232 ∧ Blk w G C 58 ∧ NodeCells w C gs ns ∧
    OwnInts w r (.slice (some ⟨r, 0, none⟩) rs.length cap') rs ∧ (G :: r :: gs).Nodup ∧ ∀ g ∈ G :: r :: gs, lo ≤ g ∧ g < hi
theorem OwnDataA.own {w : World} {lo hi : Nat} {v : Value} {ns : List Nd} {rs : List Int} (h : OwnDataA w lo hi v ns rs) : OwnData w lo hi v ns rs := by
  obtain ⟨G, r, gs, cap, cap', C, rfl, h0, h1, h2, h3, h4, h5⟩ := h
  exact ⟨_, _, G, r, gs, rfl, ⟨h0, h2.1, .inl ⟨cap, C, rfl, h1, h2⟩⟩, .inl h3, h4, h5⟩
end Go.Proofs.YtjpkmcaogekkdaaDoor.Rm
