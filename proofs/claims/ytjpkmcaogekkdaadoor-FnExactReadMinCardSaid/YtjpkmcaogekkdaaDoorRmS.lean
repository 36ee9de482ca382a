/- The order in which the program comes to nodes, and what it lays in memory. -/
import Derived.Test.YtjpkmcaogekkdaaDoorRmR
namespace Go.Proofs.YtjpkmcaogekkdaaDoor.Rm
open Go.RowKit Go.Maps
set_option linter.unusedVariables false
set_option linter.unusedSimpArgs false
set_option linter.unusedSectionVars false
set_option linter.unnecessarySimpa false

/-! ### the order in which the program comes to nodes -/
def kidsAt (ns : List Nd) (i : Int) : List Int := match ns[i.toNat]? with | some d => d.kids | none => []
def walkC (ns : List Nd) (C : List Int) : Nat → List Int → Int → List Int
  | 0, reps, _ => reps
  | f + 1, reps, i => if gat C i ∈ reps.map (gat C) then reps else (kidsAt ns i).foldl (walkC ns C f) (reps ++ [i])
def GoodC (n : Nat) (C reps : List Int) : Prop := (reps.map (gat C)).Nodup ∧ ∀ i ∈ reps, inR n i = true

theorem nodup_of_map {f : Int → Int} : ∀ (l : List Int), (l.map f).Nodup → l.Nodup
  | [], _ => List.nodup_nil
  | x :: l, h => by
    rw [List.map_cons, List.nodup_cons] at h
    rw [List.nodup_cons]
    exact ⟨fun hx => h.1 (List.mem_map.2 ⟨x, hx, rfl⟩), nodup_of_map l h.2⟩
theorem GoodC.le {n : Nat} {C reps : List Int} (h : GoodC n C reps) : reps.length ≤ n :=
  nodup_le n reps (nodup_of_map reps h.1) (fun g hg => by have := h.2 g hg; simpa [inR] using this)
theorem GoodC.snoc {n : Nat} {C reps : List Int} (h : GoodC n C reps) {i : Int} (hi : inR n i = true) (hn : gat C i ∉ reps.map (gat C)) : GoodC n C (reps ++ [i]) := by
  refine ⟨?_, fun x hx => ?_⟩
  · rw [List.map_append, List.nodup_append]
    refine ⟨h.1, by simp, fun a ha b hb => ?_⟩
    simp only [List.map_cons, List.map_nil, List.mem_singleton] at hb
    subst hb
    rintro rfl
    exact hn ha
  · rcases List.mem_append.1 hx with hx | hx
    · exact h.2 x hx
    · simp only [List.mem_singleton] at hx
      rw [hx]; exact hi
theorem GoodC.nil (n : Nat) (C : List Int) : GoodC n C [] := ⟨by simp, fun i hi => by simp at hi⟩

theorem foldC_good {n : Nat} {C : List Int} {f : List Int → Int → List Int} (hf : ∀ o g, GoodC n C o → inR n g = true → GoodC n C (f o g) ∧ o <+: f o g) : ∀ (l : List Int) (o : List Int), GoodC n C o → (∀ x ∈ l, inR n x = true) → GoodC n C (l.foldl f o) ∧ o <+: l.foldl f o := by
  intro l
  induction l with
  | nil => intro o h _; exact ⟨h, List.prefix_rfl⟩
  | cons x l ih =>
    intro o h hl
    have h1 := hf o x h (hl x (by simp))
    have h2 := ih (f o x) h1.1 (fun y hy => hl y (by simp [hy]))
    exact ⟨h2.1, h1.2.trans h2.2⟩
theorem kidsAt_in {ns : List Nd} (hk : ∀ d ∈ ns, ∀ k ∈ d.kids, inR ns.length k = true) (i : Int) : ∀ x ∈ kidsAt ns i, inR ns.length x = true := by
  intro x hx
  unfold kidsAt at hx
  split at hx
  · next d hd => exact hk d (List.mem_of_getElem? hd) x hx
  · simp at hx
theorem walkC_good {ns : List Nd} {C : List Int} (hk : ∀ d ∈ ns, ∀ k ∈ d.kids, inR ns.length k = true) :
    ∀ (f : Nat) (o : List Int) (i : Int), GoodC ns.length C o → inR ns.length i = true → GoodC ns.length C (walkC ns C f o i) ∧ o <+: walkC ns C f o i := by
  intro f
  induction f with
  | zero => intro o i h _; exact ⟨h, List.prefix_rfl⟩
  | succ f ih =>
    intro o i h hi
    unfold walkC
    split
    · exact ⟨h, List.prefix_rfl⟩
    · next hn =>
      have h1 := foldC_good ih (kidsAt ns i) (o ++ [i]) (h.snoc hi hn) (kidsAt_in hk i)
      exact ⟨h1.1, (List.prefix_append _ _).trans h1.2⟩
theorem walkC_mem {ns : List Nd} {C : List Int} (hk : ∀ d ∈ ns, ∀ k ∈ d.kids, inR ns.length k = true) (f : Nat) (o : List Int) (i : Int) (h : GoodC ns.length C o) (hi : inR ns.length i = true) :
    gat C i ∈ (walkC ns C (f + 1) o i).map (gat C) := by
  unfold walkC
  split
  · next hin => exact hin
  · next hn =>
    have h1 := foldC_good (walkC_good hk f) (kidsAt ns i) (o ++ [i]) (h.snoc hi hn) (kidsAt_in hk i)
    obtain ⟨t, ht⟩ := h1.2
    rw [← ht]
    simp

/-! ### what stands in memory: the nodes laid so far, and their parts' rows -/
/-- An entry: a node, and the block of its parts' row where that is laid. -/
abbrev Ent := Nd × Option Nat
def blks (es : List Ent) : List Nat := es.filterMap Prod.snd
theorem blks_append (a b : List Ent) : blks (a ++ b) = blks a ++ blks b := by simp [blks]

def EntIs (w : World) (cells : List Value) (j : Nat) (e : Ent) : Prop :=
  cells[j * 3]? = some (.int .i64 e.1.sort) ∧ cells[j * 3 + 1]? = some (.string e.1.text) ∧ e.1.text.size ≤ 140737488351232 ∧
    (e.2 = none → cells[j * 3 + 2]? = some (.slice none 0 0)) ∧ ∀ g, e.2 = some g → ∃ kv, cells[j * 3 + 2]? = some kv ∧ OwnInts w g kv e.1.kids

def Out (w : World) (lo : Nat) (nv : Value) (es : List Ent) : Prop :=
  ∃ cells, w.ownsRow lo 58 3 nv es.length cells ∧ (∀ j e, es[j]? = some e → EntIs w cells j e) ∧ (blks es).Nodup ∧ ∀ g ∈ blks es, lo ≤ g ∧ g < w.heap.size ∧ nv.ownBlock ≠ some g

theorem Out.nil (w : World) (lo : Nat) : Out w lo (.slice none 0 0) [] :=
  ⟨[], World.ownsRow_nil _ _ _ _, fun j e h => by simp at h, by simp [blks], fun g hg => by simp [blks] at hg⟩

theorem Out.own_lt {w : World} {lo : Nat} {nv : Value} {es : List Ent} (h : Out w lo nv es) : ∀ g, nv.ownBlock = some g → lo ≤ g ∧ g < w.heap.size := by
  obtain ⟨cells, h1, _⟩ := h
  exact h1.lt
theorem Out.shape {w : World} {lo : Nat} {nv : Value} {es : List Ent} (h : Out w lo nv es) : ∃ a c, nv = .slice a es.length c := by
  obtain ⟨cells, ⟨_, ⟨rfl, h0⟩ | ⟨g, cap, cur, rfl, _⟩⟩, _⟩ := h
  · exact ⟨_, 0, by rw [h0]⟩
  · exact ⟨_, _, rfl⟩
theorem mem_blks {es : List Ent} {j : Nat} {e : Ent} {g : Nat} (h : es[j]? = some e) (hg : e.2 = some g) : g ∈ blks es := by
  unfold blks
  rw [List.mem_filterMap]
  exact ⟨e, List.mem_of_getElem? h, hg⟩
theorem Out.carry {w w' : World} {lo : Nat} {nv : Value} {es : List Ent} (h : Out w lo nv es) (hs : w.heap.size ≤ w'.heap.size) (hg : ∀ g, nv.ownBlock = some g → w'.heap[g]? = w.heap[g]?) (hb : ∀ g ∈ blks es, w'.heap[g]? = w.heap[g]?) : Out w' lo nv es := by
  obtain ⟨cells, h1, h2, h3, h4⟩ := h
  refine ⟨cells, ⟨h1.1, ?_⟩, fun j e he => ?_, h3, fun g hg => ⟨(h4 g hg).1, Nat.lt_of_lt_of_le (h4 g hg).2.1 hs, (h4 g hg).2.2⟩⟩
  · rcases h1.2 with h5 | ⟨g, cap, cur, rfl, hb1, hg1, rest⟩
    · exact .inl h5
    · exact .inr ⟨g, cap, cur, rfl, hb1, (hg g rfl).trans hg1, rest⟩
  · obtain ⟨e1, e2, e3, e4, e5⟩ := h2 j e he
    refine ⟨e1, e2, e3, e4, fun g hg2 => ?_⟩
    obtain ⟨kv, k1, k2⟩ := e5 g hg2
    exact ⟨kv, k1, k2.carry (hb g (mem_blks he hg2))⟩

theorem Out.append (w : World) (lo : Nat) (nv : Value) (es : List Ent) (s : Int) (t : ByteArray) (h : Out w lo nv es) (hlo : lo ≤ w.heap.size) (ht : t.size ≤ 140737488351232) (hm : (es.length + 1) * 48 ≤ 140737488351232) :
    ∃ g cap w', (Builtin.append_ #[36, 36] 36 #[nv, .slice (some ⟨w.heap.size, 0, none⟩) 1 1]).run Tryd.prog (w.alloc (.cells #[.int .i64 s, .string t, .slice none 0 0] 58)) = .ok (.slice (some ⟨g, 0, none⟩) (es.length + 1) cap) w' ∧
      Out w' lo (.slice (some ⟨g, 0, none⟩) (es.length + 1) cap) (es ++ [(⟨s, t, []⟩, none)]) ∧ w.grownBy w' nv.ownBlock ∧ (nv.ownBlock = some g ∨ w.heap.size ≤ g) ∧ g < w'.heap.size := by
  obtain ⟨cells, h1, h2, h3, h4⟩ := h
  obtain ⟨g, cap, w', e1, e2, e3, e4, e5⟩ := append_node w lo nv es.length cells s t none 0 0 h1 hlo hm
  have hbl : blks (es ++ [(⟨s, t, []⟩, none)]) = blks es := by simp [blks]
  refine ⟨g, cap, w', e1, ⟨_, by rw [List.length_append]; exact e2, fun j e he => ?_, by rw [hbl]; exact h3, fun x hx => ?_⟩, e3, e4, e5⟩
  · have hcl := h1.1
    by_cases hj : j < es.length
    · rw [List.getElem?_append_left hj] at he
      obtain ⟨c1, c2, c3, c4, c5⟩ := h2 j e he
      unfold EntIs
      rw [List.getElem?_append_left (by omega), List.getElem?_append_left (by omega), List.getElem?_append_left (by omega)]
      refine ⟨c1, c2, c3, c4, fun x hx => ?_⟩
      obtain ⟨kv, k1, k2⟩ := c5 x hx
      have hm := mem_blks he hx
      exact ⟨kv, k1, k2.carry (e3.block x (h4 x hm).2.1 (fun e => (h4 x hm).2.2 e.symm))⟩
    · have hjl : j = es.length := by
        have := (List.getElem?_eq_some_iff.1 he).1
        simp at this
        omega
      subst hjl
      rw [List.getElem?_append_right (Nat.le_refl _)] at he
      simp at he
      subst he
      unfold EntIs
      rw [List.getElem?_append_right (by omega), List.getElem?_append_right (by omega), List.getElem?_append_right (by omega), hcl]
      simp only [Nat.sub_self, Nat.add_sub_cancel_left]
      exact ⟨rfl, rfl, ht, fun _ => rfl, (fun g hg => by cases hg)⟩
  · rw [hbl] at hx
    obtain ⟨x1, x2, x3⟩ := h4 x hx
    refine ⟨x1, Nat.lt_of_lt_of_le x2 e3.size, ?_⟩
    simp only [Value.ownBlock]
    intro e
    have e := Option.some.inj e
    subst e
    rcases e4 with e4 | e4
    · exact x3 e4
    · omega

theorem blks_set {es : List Ent} {m : Nat} {d : Nd} (h : es[m]? = some (d, none)) (d' : Nd) (g : Nat) : ∀ x, x ∈ blks (es.set m (d', some g)) ↔ x = g ∨ x ∈ blks es := by
  intro x
  have hm := (List.getElem?_eq_some_iff.1 h).1
  unfold blks
  simp only [List.mem_filterMap]
  constructor
  · rintro ⟨e, he, hx⟩
    obtain ⟨j, hj⟩ := List.mem_iff_getElem?.1 he
    by_cases hjm : j = m
    · subst hjm
      rw [List.getElem?_set_self hm] at hj
      cases hj
      exact .inl (Option.some.inj hx).symm
    · rw [List.getElem?_set_ne (by omega)] at hj
      exact .inr ⟨e, List.mem_of_getElem? hj, hx⟩
  · rintro (rfl | ⟨e, he, hx⟩)
    · exact ⟨(d', some x), List.mem_iff_getElem?.2 ⟨m, List.getElem?_set_self hm⟩, rfl⟩
    · obtain ⟨j, hj⟩ := List.mem_iff_getElem?.1 he
      have hjm : j ≠ m := by
        rintro rfl
        rw [h] at hj
        cases hj
        cases hx
      exact ⟨e, List.mem_iff_getElem?.2 ⟨j, by rw [List.getElem?_set_ne (by omega)]; exact hj⟩, hx⟩
theorem blks_set_nodup : ∀ {es : List Ent} {m : Nat} {d : Nd} (d' : Nd) (g : Nat), es[m]? = some (d, none) → g ∉ blks es → (blks es).Nodup → (blks (es.set m (d', some g))).Nodup
  | [], m, d, d', g, h, _, _ => by simp at h
  | e :: es, 0, d, d', g, h, hg, hn => by
    simp only [List.getElem?_cons_zero, Option.some.injEq] at h
    subst h
    have e1 : blks ((d, none) :: es) = blks es := rfl
    have e2 : blks (((d, none) :: es : List Ent).set 0 (d', some g)) = g :: blks es := rfl
    rw [e1] at hg hn
    rw [e2, List.nodup_cons]
    exact ⟨hg, hn⟩
  | (d0, none) :: es, m + 1, d, d', g, h, hg, hn => by
    have e1 : blks ((d0, none) :: es) = blks es := rfl
    have e2 : blks (((d0, none) :: es : List Ent).set (m + 1) (d', some g)) = blks (es.set m (d', some g)) := rfl
    rw [e1] at hg hn
    rw [e2]
    exact blks_set_nodup d' g (by simpa using h) hg hn
  | (d0, some x) :: es, m + 1, d, d', g, h, hg, hn => by
    have e1 : blks ((d0, some x) :: es) = x :: blks es := rfl
    have e2 : blks (((d0, some x) :: es : List Ent).set (m + 1) (d', some g)) = x :: blks (es.set m (d', some g)) := rfl
    have h' : es[m]? = some (d, none) := by simpa using h
    rw [e1] at hg hn
    rw [List.nodup_cons] at hn
    rw [e2, List.nodup_cons]
    refine ⟨?_, blks_set_nodup d' g h' (fun hx => hg (by simp [hx])) hn.2⟩
    rw [blks_set h']
    rintro (rfl | hx)
    · exact hg (by simp)
    · exact hn.1 hx

/-- The node's parts are hung in. -/
theorem Out.fill {w : World} {lo : Nat} {G l cap : Nat} {es : List Ent} (h : Out w lo (.slice (some ⟨G, 0, none⟩) l cap) es) {m : Nat} {s : Int} {t : ByteArray} {ks : List Int} (he : es[m]? = some (⟨s, t, []⟩, none)) {g : Nat} {kv : Value} (ho : OwnInts w g kv ks) (hlo : lo ≤ g) (hgn : g ∉ blks es) (hgG : g ≠ G) :
    Out (w.setCell ⟨G, m * 3 + 2, none⟩ kv) lo (.slice (some ⟨G, 0, none⟩) l cap) (es.set m (⟨s, t, ks⟩, some g)) ∧ (∃ old, w.cell? ⟨G, m * 3 + 2, none⟩ = some old) ∧ w.frozen? ⟨G, m * 3 + 2, none⟩ = false := by
  obtain ⟨cells, h1, h2, h3, h4⟩ := h
  have hm := (List.getElem?_eq_some_iff.1 he).1
  have hcl := h1.1
  obtain ⟨hc0, ⟨hv, _⟩ | ⟨G', cap', cur, hv, hb, hg, hc, hcm, hs, ht⟩⟩ := h1
  · cases hv
  simp only [Value.slice.injEq, Option.some.injEq, Addr.mk.injEq, and_true] at hv
  obtain ⟨rfl, hll, rfl⟩ := hv
  have hB : Blk w G cur 58 := hg
  have hin : m * 3 + 2 < cur.size := by omega
  refine ⟨⟨cells.set (m * 3 + 2) kv, ⟨by rw [List.length_set, List.length_set]; exact hc0, .inr ⟨G, cap, _, by rw [hll, List.length_set], hb, hB.set _ _, by rw [List.length_set]; exact hc, hcm, by rw [Array.size_setIfInBounds]; exact hs, ?_⟩⟩, fun j e hj => ?_, ?_, fun x hx => ?_⟩, ?_, hB.free _⟩
  · rw [List.length_set, Array.toList_setIfInBounds, ← ht, List.take_set]
  · have hblk : ∀ x ∈ blks es, (w.setCell ⟨G, m * 3 + 2, none⟩ kv).heap[x]? = w.heap[x]? := fun x hx => Below.heap_setCell _ _ _ _ (fun e => (h4 x hx).2.2 (by simp only [Value.ownBlock]; rw [e]))
    by_cases hjm : j = m
    · subst hjm
      rw [List.getElem?_set_self hm] at hj
      cases hj
      obtain ⟨c1, c2, c3, c4, c5⟩ := h2 j _ he
      refine ⟨?_, ?_, c3, (fun e => by cases e), fun x hx => ?_⟩
      · rw [List.getElem?_set_ne (by omega)]; exact c1
      · rw [List.getElem?_set_ne (by omega)]; exact c2
      · cases hx
        exact ⟨kv, List.getElem?_set_self (by omega), ho.set (by simpa using hgG) _⟩
    · rw [List.getElem?_set_ne (by omega)] at hj
      obtain ⟨c1, c2, c3, c4, c5⟩ := h2 j e hj
      unfold EntIs
      rw [List.getElem?_set_ne (by omega), List.getElem?_set_ne (by omega), List.getElem?_set_ne (by omega)]
      refine ⟨c1, c2, c3, c4, fun x hx => ?_⟩
      obtain ⟨kv', k1, k2⟩ := c5 x hx
      exact ⟨kv', k1, k2.carry (hblk x (mem_blks hj hx))⟩
  · exact blks_set_nodup _ g he hgn h3
  · rw [blks_set he] at hx
    rw [World.size_setCell]
    rcases hx with rfl | hx
    · exact ⟨hlo, ho.lt, by simp only [Value.ownBlock]; exact fun e => hgG (Option.some.inj e).symm⟩
    · exact h4 x hx
  · rw [hB.cell]
    exact ⟨cur[m * 3 + 2], Array.getElem?_eq_getElem hin⟩
end Go.Proofs.YtjpkmcaogekkdaaDoor.Rm
