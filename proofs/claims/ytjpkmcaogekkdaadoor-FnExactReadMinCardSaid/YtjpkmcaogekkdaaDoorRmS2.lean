/- What stands in memory while the program comes to nodes. -/
import Derived.Test.YtjpkmcaogekkdaaDoorRmS
import Derived.Deep.RegionLaw
import Derived.StillTailTactics
import Derived.Deep.DeepCutAuto
namespace Go.Proofs.YtjpkmcaogekkdaaDoor.Rm
open Go.RowKit Go.Maps
set_option linter.unusedVariables false
set_option linter.unusedSimpArgs false
set_option linter.unusedSectionVars false
set_option linter.unnecessarySimpa false

/-- w' is w but for blocks with X, and new ones. -/
structure Fr (X : Nat → Prop) (w w' : World) : Prop where
  os : w'.os = w.os
  tape : w'.tape = w.tape
  output : w'.output = w.output
  size : w.heap.size ≤ w'.heap.size
  block : ∀ k, k < w.heap.size → ¬ X k → w'.heap[k]? = w.heap[k]?

theorem Fr.refl (X : Nat → Prop) (w : World) : Fr X w w := ⟨rfl, rfl, rfl, Nat.le_refl _, fun _ _ _ => rfl⟩
theorem Fr.trans {X Y : Nat → Prop} {w w1 w2 : World} (h : Fr X w w1) (k : Fr Y w1 w2) (hXY : ∀ b, b < w.heap.size → Y b → X b) : Fr X w w2 :=
  ⟨k.os.trans h.os, k.tape.trans h.tape, k.output.trans h.output, Nat.le_trans h.size k.size, fun b hb hx => (k.block b (Nat.lt_of_lt_of_le hb h.size) (fun y => hx (hXY b hb y))).trans (h.block b hb hx)⟩
theorem Fr.of_below {X : Nat → Prop} {w w' : World} {B : Nat} (h : Below B w w') (hX : ∀ b, B ≤ b → b < w.heap.size → X b) : Fr X w w' :=
  ⟨h.os, h.tape, h.output, h.size, fun b hb hx => h.block b (Nat.lt_of_not_le fun hB => hx (hX b hB hb))⟩
theorem Fr.of_grown {X : Nat → Prop} {w w' : World} {row : Option Nat} (h : w.grownBy w' row) (hX : ∀ b, row = some b → X b) : Fr X w w' :=
  ⟨h.os, h.tape, h.output, h.size, fun b hb hx => h.block b hb (fun e => hx (hX b e.symm))⟩
theorem Fr.of_grown_drew {X : Nat → Prop} {w w' : World} {row : Option Nat} (h : w.drew.grownBy w' row) (hX : ∀ b, row = some b → X b) : Fr X w w' :=
  ⟨h.os, h.tape, h.output, h.size, fun b hb hx => h.block b hb (fun e => hx (hX b e.symm))⟩
theorem Fr.cell {X : Nat → Prop} {w w' : World} (h : Fr X w w') {b o : Nat} {v : Value} (hb : ¬ X b) (hv : w.cell? ⟨b, o, none⟩ = some v) : w'.cell? ⟨b, o, none⟩ = some v :=
  (World.cell?_of_block (w := w) (h.block b (cell_in hv) hb)).trans hv
theorem Fr.alloc {X : Nat → Prop} (w : World) (o : Obj) : Fr X w (w.alloc o) := Fr.of_below (below1 w o) (fun b h1 h2 => by omega)
theorem Fr.set {X : Nat → Prop} (w : World) (a : Addr) (v : Value) (hX : X a.block) : Fr X w (w.setCell a v) :=
  ⟨rfl, rfl, rfl, by simp, fun b hb hx => Below.heap_setCell w a v b (fun e => hx (e ▸ hX))⟩
theorem Fr.drewN {X : Nat → Prop} (w : World) (n : Nat) : Fr X w (w.drewN n) := ⟨rfl, rfl, rfl, Nat.le_refl _, fun _ _ _ => rfl⟩
theorem Fr.blk {X : Nat → Prop} {w w' : World} (h : Fr X w w') {b : Nat} {c : Array Value} {t : TypeId} (hB : Blk w b c t) (hb : ¬ X b) : Blk w' b c t := (h.block b hB.lt hb).trans hB
theorem Fr.weak {X Y : Nat → Prop} {w w' : World} (h : Fr X w w') (hXY : ∀ b, b < w.heap.size → X b → Y b) : Fr Y w w' := ⟨h.os, h.tape, h.output, h.size, fun b hb hy => h.block b hb (fun hx => hy (hXY b hb hx))⟩

/-- what the entries say -/
def Sem (ns : List Nd) (C R reps : List Int) (es : List Ent) : Prop :=
  ∀ (j : Nat) (i : Int) (e : Ent), reps[j]? = some i → es[j]? = some e → ∃ d, ns[i.toNat]? = some d ∧ e.1.sort = d.sort ∧ e.1.text = d.text ∧ (e.2 ≠ none → e.1.kids = (d.kids.map (gat C)).map (placeI R) ∧ ∀ x ∈ d.kids, gat C x ∈ R)

/-- the closure's value -/
def clo (ba bof bo bd bc : Nat) : Value := .func (.func 37) #[] #[.pointer (some ⟨ba, 0, none⟩), .pointer (some ⟨bof, 0, none⟩), .pointer (some ⟨bo, 0, none⟩), .pointer (some ⟨bd, 0, none⟩), .pointer (some ⟨bc, 0, none⟩)]

/-- what stands when the closure is called -/
structure St (ns : List Nd) (C : List Int) (X0 : Nat → Prop) (W0 : World) (bo bm : Nat) (rv : Value) (w : World) (reps : List Int) (es : List Ent) (nv : Value) : Prop where
  fr : Fr X0 W0 w
  out : Blk w bo #[nv, rv] 38
  at_ : MapIs 3 ikey w bm (reps.map (gat C))
  nodes : Out w W0.heap.size nv es
  len : es.length = reps.length
  sem : Sem ns C (reps.map (gat C)) reps es
  good : GoodC ns.length C reps

theorem St.carry {ns : List Nd} {C : List Int} {X0 : Nat → Prop} {W0 : World} {bo bm : Nat} {rv : Value} {w w' : World} {reps : List Int} {es : List Ent} {nv : Value} (h : St ns C X0 W0 bo bm rv w reps es nv)
    {Y : Nat → Prop} (hF : Fr Y w w') (hY : ∀ k, Y k → X0 k ∧ k < W0.heap.size ∧ k ≠ bo ∧ k ≠ bm) : St ns C X0 W0 bo bm rv w' reps es nv where
  fr := h.fr.trans hF (fun b _ hb => (hY b hb).1)
  out := hF.blk h.out (fun hb => (hY bo hb).2.2.1 rfl)
  at_ := h.at_.carry (hF.block bm h.at_.lt (fun hb => (hY bm hb).2.2.2 rfl))
  nodes := h.nodes.carry hF.size (fun g hg => hF.block g (h.nodes.own_lt g hg).2 (fun hb => by have := (hY g hb).2.1; have := (h.nodes.own_lt g hg).1; omega))
    (fun g hg => by
      obtain ⟨cells, _, _, _, h4⟩ := h.nodes
      have := h4 g hg
      exact hF.block g this.2.1 (fun hb => by have := (hY g hb).2.1; omega))
  len := h.len
  sem := h.sem
  good := h.good
theorem St.drewN {ns : List Nd} {C : List Int} {X0 : Nat → Prop} {W0 : World} {bo bm : Nat} {rv : Value} {w : World} {reps : List Int} {es : List Ent} {nv : Value} (h : St ns C X0 W0 bo bm rv w reps es nv) (q : Nat) : St ns C X0 W0 bo bm rv (w.drewN q) reps es nv :=
  h.carry (Y := fun _ => False) (Fr.drewN w q) (fun k hk => hk.elim)

def ComePost (ns : List Nd) (C : List Int) (X0 : Nat → Prop) (W0 : World) (bo bm : Nat) (rv : Value) (w : World) (reps : List Int) (es : List Ent) (nv : Value) (reps' : List Int) (i : Int) (e : Ending) (w' : World) : Prop :=
  ∃ nv' new, e = .returned (.int .i64 (ixOf (reps'.map (gat C)) (gat C i) : Nat)) ∧ St ns C X0 W0 bo bm rv w' reps' (es ++ new) nv' ∧ (∀ x ∈ new, x.2 ≠ none) ∧
    Fr (fun k => k = bo ∨ k = bm ∨ nv.ownBlock = some k) w w' ∧ (∀ g, nv'.ownBlock = some g → nv.ownBlock = some g ∨ w.heap.size ≤ g) ∧ ∀ g ∈ blks new, w.heap.size ≤ g

theorem placeI_prefix {a b : List Int} {x : Int} (h : a <+: b) (hx : x ∈ a) : placeI b x = placeI a x := by
  unfold placeI
  rw [if_pos hx, if_pos (h.subset hx), idxOf_prefix h hx]
theorem placeI_ix {a : List Int} {x : Int} (hx : x ∈ a) : placeI a x = (ixOf a x : Nat) := by
  unfold placeI ixOf
  rw [if_pos hx]
theorem Sem.mono {ns : List Nd} {C R R' reps : List Int} {es : List Ent} (h : Sem ns C R reps es) (hp : R <+: R') : Sem ns C R' reps es := by
  intro j i e hi he
  obtain ⟨d, h1, h2, h3, h4⟩ := h j i e hi he
  refine ⟨d, h1, h2, h3, fun hne => ?_⟩
  obtain ⟨h5, h6⟩ := h4 hne
  refine ⟨?_, fun x hx => hp.subset (h6 x hx)⟩
  rw [h5, List.map_map, List.map_map]
  refine List.map_congr_left fun x hx => ?_
  exact (placeI_prefix hp (h6 x hx)).symm
theorem Sem.snoc {ns : List Nd} {C R reps : List Int} {es : List Ent} (h : Sem ns C R reps es) (hl : es.length = reps.length) {i : Int} {d : Nd} (hd : ns[i.toNat]? = some d) : Sem ns C R (reps ++ [i]) (es ++ [(⟨d.sort, d.text, []⟩, none)]) := by
  intro j x e hx he
  by_cases hj : j < reps.length
  · rw [List.getElem?_append_left hj] at hx
    rw [List.getElem?_append_left (by omega)] at he
    exact h j x e hx he
  · have hj2 : j = reps.length := by
      have := (List.getElem?_eq_some_iff.1 hx).1
      simp at this
      omega
    subst hj2
    rw [List.getElem?_append_right (Nat.le_refl _)] at hx
    rw [← hl, List.getElem?_append_right (Nat.le_refl _)] at he
    simp at hx he
    subst hx he
    exact ⟨d, hd, rfl, rfl, fun hne => (hne rfl).elim⟩
theorem Sem.fill {ns : List Nd} {C R reps : List Int} {es : List Ent} (h : Sem ns C R reps es) {m : Nat} {i : Int} {d : Nd} (hi : reps[m]? = some i) (hd : ns[i.toNat]? = some d) (hm : m < es.length) (g : Nat) (hR : ∀ x ∈ d.kids, gat C x ∈ R) :
    Sem ns C R reps (es.set m (⟨d.sort, d.text, (d.kids.map (gat C)).map (placeI R)⟩, some g)) := by
  intro j x e hx he
  by_cases hjm : j = m
  · subst hjm
    rw [List.getElem?_set_self hm] at he
    cases he
    have := Option.some.inj (hi.symm.trans hx)
    subst this
    exact ⟨d, hd, rfl, rfl, fun _ => ⟨rfl, hR⟩⟩
  · rw [List.getElem?_set_ne (by omega)] at he
    exact h j x e hx he

theorem OwnRow.own {w : World} {lo g l cap : Nat} {xs : List Int} (h : OwnRow w lo (.slice (some ⟨g, 0, none⟩) l cap) xs) (h0 : xs.length * 8 ≤ 140737488351232) : OwnInts w g (.slice (some ⟨g, 0, none⟩) l cap) xs := by
  obtain ⟨h1, ⟨hv, _⟩ | ⟨g', cap', cur, hv, hb, hg, hc, hcm, hs, ht⟩⟩ := h
  · cases hv
  · simp only [Value.slice.injEq, Option.some.injEq, Addr.mk.injEq, and_true] at hv
    obtain ⟨rfl, hl, rfl⟩ := hv
    have hB : Blk w g cur 3 := hg
    refine ⟨h0, cap, cur, by rw [hl], hB, fun i x hi => ?_⟩
    have hi2 := (List.getElem?_eq_some_iff.1 hi).1
    have h3 : (cur.toList.take (xs.length * 1))[i]? = (icells xs)[i]? := by rw [ht]
    rw [List.getElem?_take_of_lt (by omega), icells, List.getElem?_map, hi] at h3
    simpa using h3
theorem OwnRow.fr {X : Nat → Prop} {w w' : World} {lo : Nat} {v : Value} {xs : List Int} (h : OwnRow w lo v xs) (hF : Fr X w w') (hv : ∀ g, v.ownBlock = some g → ¬ X g) : OwnRow w' lo v xs := by
  obtain ⟨h1, h2 | ⟨g, cap, cur, rfl, h3, h4, rest⟩⟩ := h
  · exact ⟨h1, .inl h2⟩
  · exact ⟨h1, .inr ⟨g, cap, cur, rfl, h3, (hF.block g (Array.getElem?_eq_some_iff.1 h4).1 (hv g rfl)).trans h4, rest⟩⟩
theorem Out.addr {w : World} {lo : Nat} {nv : Value} {es : List Ent} (h : Out w lo nv es) (hne : es ≠ []) : ∃ G cap, nv = .slice (some ⟨G, 0, none⟩) es.length cap := by
  obtain ⟨cells, ⟨_, ⟨_, h0⟩ | ⟨g, cap, cur, hv, _⟩⟩, _⟩ := h
  · exact absurd (List.length_eq_zero_iff.1 h0) hne
  · exact ⟨g, cap, hv⟩
theorem set_mid (es new : List Ent) (e e' : Ent) : (es ++ [e] ++ new).set es.length e' = es ++ [e'] ++ new := by
  rw [List.append_assoc, List.set_append_right _ _ (Nat.le_refl _)]
  simp

/-- The node is laid: what stands then. -/
theorem St.laid {ns : List Nd} {C : List Int} {W0 : World} {bo bm : Nat} {rv : Value} {w0 w1 w2 : World} {reps : List Int} {es : List Ent} {nv : Value} (h : St ns C (fun k => k = bo ∨ k = bm) W0 bo bm rv w0 reps es nv)
    (hbom : bo ≠ bm) (hbo : bo < W0.heap.size) (hbm : bm < W0.heap.size) {i : Int} (hi : inR ns.length i = true) (hno : gat C i ∉ reps.map (gat C)) {d : Nd} (hd : ns[i.toNat]? = some d)
    (hf1 : Fr (fun k => k = bo ∨ k = bm) W0 w1) (hM1 : MapIs 3 ikey w1 bm (reps.map (gat C) ++ [gat C i])) (hB1 : Blk w1 bo #[nv, rv] 38) (hg2 : w1.drew.grownBy w2 nv.ownBlock) (hnv : ∀ g, nv.ownBlock = some g → W0.heap.size ≤ g) {nv2 : Value} (hO2 : Out w2 W0.heap.size nv2 (es ++ [(⟨d.sort, d.text, []⟩, none)])) :
    St ns C (fun k => k = bo ∨ k = bm) W0 bo bm rv (w2.setCell ⟨bo, 0, none⟩ nv2) (reps ++ [i]) (es ++ [(⟨d.sort, d.text, []⟩, none)]) nv2 := by
  have hbl : ∀ k, k < W0.heap.size → w2.heap[k]? = w1.heap[k]? := fun k hk => hg2.block k (Nat.lt_of_lt_of_le hk hf1.size) (fun e => by have := hnv k e.symm; omega)
  have h2 : w1.heap.size ≤ w2.heap.size := hg2.size
  have hB2 : Blk w2 bo #[nv, rv] 38 := (hbl bo hbo).trans hB1
  have hM2 := hM1.carry (w' := w2) (hbl bm hbm)
  have e1 : (reps ++ [i]).map (gat C) = reps.map (gat C) ++ [gat C i] := by simp
  refine ⟨?_, hB2.set 0 _, ?_, ?_, by simp [h.len], ?_, h.good.snoc hi hno⟩
  · refine ⟨hg2.os.trans hf1.os, hg2.tape.trans hf1.tape, hg2.output.trans hf1.output, by rw [World.size_setCell]; exact Nat.le_trans hf1.size h2, fun k hk hx => ?_⟩
    have hkb : k ≠ bo := fun e => hx (.inl e)
    rw [Below.heap_setCell _ _ _ _ hkb, hbl k hk]
    exact hf1.block k hk hx
  · rw [e1]
    exact hM2.carry (Below.heap_setCell _ _ _ _ (by simp; exact fun e => hbom e.symm))
  · refine hO2.carry (by simp) (fun g hg => Below.heap_setCell _ _ _ _ (fun e => ?_)) (fun g hg => Below.heap_setCell _ _ _ _ (fun e => ?_))
    · have := (hO2.own_lt g hg).1
      simp at e
      omega
    · obtain ⟨cells, _, _, _, h4⟩ := hO2
      have := (h4 g hg).1
      simp at e
      omega
  · rw [e1]
    exact (h.sem.mono (List.prefix_append _ _)).snoc h.len hd

/-- what stands while a node's parts are come to -/
structure LI (ns : List Nd) (C : List Int) (W0 : World) (bo bm : Nat) (rv : Value) (f : Nat) (w : World) (reps : List Int) (es : List Ent) (nv : Value) (i : Int) (d : Nd) (j g cap : Nat) (wr : World) (reps' : List Int) (new : List Ent) (nv' : Value) : Prop where
  eq : reps' = (d.kids.take j).foldl (walkC ns C f) (reps ++ [i])
  st : St ns C (fun k => k = bo ∨ k = bm) W0 bo bm rv wr reps' (es ++ [(⟨d.sort, d.text, []⟩, none)] ++ new) nv'
  full : ∀ x ∈ new, x.2 ≠ none
  row : OwnRow wr w.heap.size (.slice (some ⟨g, 0, none⟩) j cap) (((d.kids.take j).map (gat C)).map (placeI (reps'.map (gat C))))
  mem : ∀ x ∈ d.kids.take j, gat C x ∈ reps'.map (gat C)
  pre : reps ++ [i] <+: reps'
  gno : g ∉ blks (es ++ [(⟨d.sort, d.text, []⟩, none)] ++ new)
  gnv : nv'.ownBlock ≠ some g
  gw : w.heap.size ≤ g ∧ g < wr.heap.size
  fr : Fr (fun k => k = bo ∨ k = bm ∨ nv.ownBlock = some k) w wr
  nvw : ∀ x, nv'.ownBlock = some x → nv.ownBlock = some x ∨ w.heap.size ≤ x
  blkw : ∀ x ∈ blks new, w.heap.size ≤ x
  lo : W0.heap.size ≤ w.heap.size

theorem LI.step {ns : List Nd} {C : List Int} {W0 : World} {bo bm : Nat} {rv : Value} {f : Nat} {w : World} {reps : List Int} {es : List Ent} {nv : Value} {i : Int} {d : Nd} {j g cap : Nat} {wr : World} {reps' : List Int} {new : List Ent} {nv' : Value}
    (h : LI ns C W0 bo bm rv f w reps es nv i d j g cap wr reps' new nv') (hbo : bo < W0.heap.size) (hbm : bm < W0.heap.size) {x : Int} (hx : d.kids[j]? = some x) {e : Ending} {w5 : World}
    (hc : ComePost ns C (fun k => k = bo ∨ k = bm) W0 bo bm rv wr reps' (es ++ [(⟨d.sort, d.text, []⟩, none)] ++ new) nv' (walkC ns C f reps' x) x e w5) (hm : gat C x ∈ (walkC ns C f reps' x).map (gat C)) (hp : reps' <+: walkC ns C f reps' x) (hj : (j + 1) * 8 ≤ 140737488351232) (hjl : j < d.kids.length) :
    ∃ v : Int, e = .returned (.int .i64 v) ∧ ∃ g6 cap6 w6, (Builtin.append_ #[32, 32] 32 #[.slice (some ⟨g, 0, none⟩) j cap, .slice (some ⟨w5.heap.size, 0, none⟩) 1 1]).run Tryd.prog (w5.alloc (.cells #[.int .i64 v] 3)) = .ok (.slice (some ⟨g6, 0, none⟩) (j + 1) cap6) w6 ∧
      ∃ reps6 new6 nv6, LI ns C W0 bo bm rv f w reps es nv i d (j + 1) g6 cap6 w6 reps6 new6 nv6 := by
  obtain ⟨nv5, new5, rfl, hS5, hfull5, hF5, hnv5, hb5⟩ := hc
  refine ⟨_, rfl, ?_⟩
  have hgo : ¬ (g = bo ∨ g = bm ∨ nv'.ownBlock = some g) := by
    rintro (e | e | e)
    · have := h.gw.1; have := h.lo; omega
    · have := h.gw.1; have := h.lo; omega
    · exact h.gnv e
  have hpm : reps'.map (gat C) <+: (walkC ns C f reps' x).map (gat C) := by
    obtain ⟨t, ht⟩ := hp
    exact ⟨t.map (gat C), by rw [← ht, List.map_append]⟩
  have hrow5 : OwnRow w5 w.heap.size (.slice (some ⟨g, 0, none⟩) j cap) (((d.kids.take j).map (gat C)).map (placeI ((walkC ns C f reps' x).map (gat C)))) := by
    have : ((d.kids.take j).map (gat C)).map (placeI ((walkC ns C f reps' x).map (gat C))) = ((d.kids.take j).map (gat C)).map (placeI (reps'.map (gat C))) := by
      refine List.map_congr_left fun y hy => ?_
      obtain ⟨z, hz, rfl⟩ := List.mem_map.1 hy
      exact placeI_prefix hpm (h.mem z hz)
    rw [this]
    exact h.row.fr hF5 (fun x hx => by cases hx; exact hgo)
  have hlj : (((d.kids.take j).map (gat C)).map (placeI ((walkC ns C f reps' x).map (gat C)))).length = j := by
    rw [List.length_map, List.length_map, List.length_take]; omega
  have hww : w.heap.size ≤ w5.heap.size := Nat.le_trans h.fr.size hF5.size
  obtain ⟨g6, cap6, w6, e1, e2, e3, e4, e5⟩ := append_int w5 w.heap.size _ _ ((ixOf ((walkC ns C f reps' x).map (gat C)) (gat C x) : Nat) : Int) hrow5 hww (by rw [hlj]; exact hj)
  rw [hlj] at e1 e2
  refine ⟨g6, cap6, w6, e1, walkC ns C f reps' x, new ++ new5, nv5, ?_⟩
  have hg5 : g < w5.heap.size := Nat.lt_of_lt_of_le h.gw.2 hF5.size
  have own : Value.ownBlock (.slice (some ⟨g, 0, none⟩) j cap) = some g := rfl
  rw [own] at e3 e4
  have e4' : g6 = g ∨ w5.heap.size ≤ g6 := by
    rcases e4 with e4 | e4
    · exact .inl (Option.some.inj e4).symm
    · exact .inr e4
  have hfg : Fr (fun k => k = g) w5 w6 := Fr.of_grown e3 (fun b hb => by cases hb; rfl)
  have hgS : W0.heap.size ≤ g := Nat.le_trans h.lo h.gw.1
  have hbl5 : blks (es ++ [(⟨d.sort, d.text, []⟩, none)] ++ new ++ new5) = blks (es ++ [(⟨d.sort, d.text, []⟩, none)] ++ new) ++ blks new5 := blks_append _ _
  have hno5 : g ∉ blks (es ++ [(⟨d.sort, d.text, []⟩, none)] ++ new ++ new5) := by
    rw [hbl5, List.mem_append]
    rintro (hx | hx)
    · exact h.gno hx
    · have := hb5 g hx
      have := h.gw.2
      omega
  have hnv5g : nv5.ownBlock ≠ some g := fun e => by
    rcases hnv5 g e with e | e
    · exact h.gnv e
    · have := h.gw.2; omega
  have hS6 : St ns C (fun k => k = bo ∨ k = bm) W0 bo bm rv w6 (walkC ns C f reps' x) (es ++ [(⟨d.sort, d.text, []⟩, none)] ++ new ++ new5) nv5 := by
    refine ⟨hS5.fr.trans hfg (fun b hb e => by subst e; omega), hfg.blk hS5.out (fun e => by omega), hS5.at_.carry (hfg.block bm hS5.at_.lt (fun e => by omega)), ?_, hS5.len, hS5.sem, hS5.good⟩
    refine hS5.nodes.carry hfg.size (fun y hy => hfg.block y (hS5.nodes.own_lt y hy).2 (fun e => hnv5g (e ▸ hy))) (fun y hy => ?_)
    obtain ⟨cells, _, _, _, h4⟩ := hS5.nodes
    exact hfg.block y (h4 y hy).2.1 (fun e => hno5 (e ▸ hy))
  have hlow : ∀ y ∈ blks (es ++ [(⟨d.sort, d.text, []⟩, none)] ++ new ++ new5), y < w5.heap.size := fun y hy => by
    obtain ⟨cells, _, _, _, h4⟩ := hS5.nodes
    exact (h4 y hy).2.1
  refine ⟨?_, by rw [← List.append_assoc]; exact hS6, fun y hy => ?_, ?_, fun y hy => ?_, h.pre.trans hp, ?_, ?_, ⟨?_, ?_⟩, ?_, fun y hy => ?_, fun y hy => ?_, h.lo⟩
  · rw [take_snoc' _ j x hx, List.foldl_append, ← h.eq]
    rfl
  · rcases List.mem_append.1 hy with hy | hy
    · exact h.full y hy
    · exact hfull5 y hy
  · rw [take_snoc' _ j x hx, List.map_append, List.map_append]
    have : ([x].map (gat C)).map (placeI ((walkC ns C f reps' x).map (gat C))) = [((ixOf ((walkC ns C f reps' x).map (gat C)) (gat C x) : Nat) : Int)] := by
      simp only [List.map_cons, List.map_nil]
      rw [placeI_ix hm]
    rw [this]
    exact e2
  · rw [take_snoc' _ j x hx] at hy
    rcases List.mem_append.1 hy with hy | hy
    · exact hpm.subset (h.mem y hy)
    · simp only [List.mem_singleton] at hy
      rw [hy]; exact hm
  · rw [← List.append_assoc]
    intro hy
    rcases e4' with e | e
    · rw [e] at hy; exact hno5 hy
    · have := hlow _ hy; omega
  · intro hy
    rcases e4' with e | e
    · rw [e] at hy; exact hnv5g hy
    · have := (hS5.nodes.own_lt _ hy).2; omega
  · rcases e4' with e | e
    · rw [e]; exact h.gw.1
    · omega
  · exact e5
  · refine (h.fr.trans hF5 (fun b hb hx => ?_)).trans hfg (fun b hb e => ?_)
    · rcases hx with hx | hx | hx
      · exact .inl hx
      · exact .inr (.inl hx)
      · rcases h.nvw b hx with hy | hy
        · exact .inr (.inr hy)
        · omega
    · have := h.gw.1
      omega
  · rcases hnv5 y hy with hz | hz
    · exact h.nvw y hz
    · have := h.fr.size
      exact .inr (by omega)
  · rw [blks_append, List.mem_append] at hy
    rcases hy with hy | hy
    · exact h.blkw y hy
    · have := hb5 y hy
      have := h.fr.size
      omega

theorem LI.start {ns : List Nd} {C : List Int} {W0 : World} {bo bm : Nat} {rv : Value} {f : Nat} {w w3 : World} {reps : List Int} {es : List Ent} {nv nv2 : Value} {i : Int} {d : Nd}
    (hS : St ns C (fun k => k = bo ∨ k = bm) W0 bo bm rv w3 (reps ++ [i]) (es ++ [(⟨d.sort, d.text, []⟩, none)]) nv2) (hF : Fr (fun k => k = bo ∨ k = bm ∨ nv.ownBlock = some k) w w3) (hnv : ∀ x, nv2.ownBlock = some x → nv.ownBlock = some x ∨ w.heap.size ≤ x) (hlo : W0.heap.size ≤ w.heap.size) (hbo : bo < W0.heap.size) (hbm : bm < W0.heap.size) :
    LI ns C W0 bo bm rv f w reps es nv i d 0 w3.heap.size 0 (w3.alloc (.cells #[] 3)) (reps ++ [i]) [] nv2 := by
  have hrow : OwnRow (w3.alloc (.cells #[] 3)) w3.heap.size (.slice (some ⟨w3.heap.size, 0, none⟩) 0 0) [] := World.ownsRow_made w3 #[] 0 (Nat.le_refl _) (by decide) rfl
  have hFa : Fr (fun _ => False) w3 (w3.alloc (.cells #[] 3)) := Fr.alloc w3 _
  refine ⟨by simp, ?_, fun x hx => by simp at hx, ?_, fun x hx => by simp at hx, List.prefix_rfl, ?_, ?_, ⟨hF.size, by simp⟩, ?_, hnv, fun x hx => by simp [blks] at hx, hlo⟩
  · rw [List.append_nil]
    exact hS.carry hFa (fun k hk => hk.elim)
  · simp only [List.take_zero, List.map_nil]
    exact hrow.weak hF.size
  · intro hx
    rw [List.append_nil] at hx
    obtain ⟨cells, _, _, _, h4⟩ := hS.nodes
    have := (h4 _ hx).2.1
    omega
  · intro hx
    have := (hS.nodes.own_lt _ hx).2
    omega
  · exact hF.trans hFa (fun b _ hb => hb.elim)

theorem LI.addr {ns : List Nd} {C : List Int} {W0 : World} {bo bm : Nat} {rv : Value} {f : Nat} {w : World} {reps : List Int} {es : List Ent} {nv : Value} {i : Int} {d : Nd} {j g cap : Nat} {wr : World} {reps' : List Int} {new : List Ent} {nv' : Value}
    (h : LI ns C W0 bo bm rv f w reps es nv i d j g cap wr reps' new nv') : ∃ G l c, nv' = .slice (some ⟨G, 0, none⟩) l c ∧ es.length < l := by
  obtain ⟨G, c, hv⟩ := h.st.nodes.addr (by simp)
  exact ⟨G, _, c, hv, by simp⟩

theorem LI.done {ns : List Nd} {C : List Int} {W0 : World} {bo bm : Nat} {rv : Value} {f : Nat} {w : World} {reps : List Int} {es : List Ent} {nv : Value} {i : Int} {d : Nd} {g cap : Nat} {wr : World} {reps' : List Int} {new : List Ent} {G l c : Nat}
    (h : LI ns C W0 bo bm rv f w reps es nv i d d.kids.length g cap wr reps' new (.slice (some ⟨G, 0, none⟩) l c)) (hbo : bo < W0.heap.size) (hbm : bm < W0.heap.size) (hd : ns[i.toNat]? = some d) (hl : es.length = reps.length) (hno : gat C i ∉ reps.map (gat C)) (hK : d.kids.length * 8 ≤ 140737488351232) :
    (∃ old, wr.cell? ⟨G, es.length * 3 + 2, none⟩ = some old) ∧ wr.frozen? ⟨G, es.length * 3 + 2, none⟩ = false ∧
      ComePost ns C (fun k => k = bo ∨ k = bm) W0 bo bm rv w reps es nv reps' i (.returned (.int .i64 es.length)) (wr.setCell ⟨G, es.length * 3 + 2, none⟩ (.slice (some ⟨g, 0, none⟩) d.kids.length cap)) := by
  have hrow := h.row
  have hmem := h.mem
  rw [List.take_of_length_le (Nat.le_refl _)] at hrow hmem
  have hown := hrow.own (by rw [List.length_map, List.length_map]; exact hK)
  have hgG : g ≠ G := fun e => h.gnv (by rw [e]; rfl)
  have he : (es ++ [((⟨d.sort, d.text, []⟩ : Nd), (none : Option Nat))] ++ new)[es.length]? = some (⟨d.sort, d.text, []⟩, none) := by
    rw [List.append_assoc, List.getElem?_append_right (Nat.le_refl _)]
    simp
  have hGlo := (h.st.nodes.own_lt G rfl).1
  obtain ⟨hO, hold, hfz⟩ := h.st.nodes.fill he hown (Nat.le_trans h.lo h.gw.1) h.gno hgG
  rw [set_mid] at hO
  have hri : reps'[es.length]? = some i := by
    obtain ⟨t, ht⟩ := h.pre
    rw [← ht, List.append_assoc, hl, List.getElem?_append_right (Nat.le_refl _)]
    simp
  have hsem := h.st.sem.fill hri hd (by simp) g hmem
  rw [set_mid] at hsem
  refine ⟨hold, hfz, .slice (some ⟨G, 0, none⟩) l c, (⟨d.sort, d.text, (d.kids.map (gat C)).map (placeI (reps'.map (gat C)))⟩, some g) :: new, ?_, ?_, ?_, ?_, h.nvw, ?_⟩
  · have hp : (reps.map (gat C)) ++ [gat C i] <+: reps'.map (gat C) := by
      obtain ⟨t, ht⟩ := h.pre
      exact ⟨t.map (gat C), by rw [← ht]; simp⟩
    have : ixOf (reps'.map (gat C)) (gat C i) = es.length := by
      unfold ixOf
      rw [idxOf_prefix hp (by simp)]
      have := idxOf_new hno
      unfold ixOf at this
      rw [this, List.length_map, hl]
    rw [this]
  · have e1 : es ++ (⟨d.sort, d.text, (d.kids.map (gat C)).map (placeI (reps'.map (gat C)))⟩, some g) :: new = es ++ [(⟨d.sort, d.text, (d.kids.map (gat C)).map (placeI (reps'.map (gat C)))⟩, some g)] ++ new := by simp
    rw [e1]
    refine ⟨?_, h.st.out.far (by omega) _ _, h.st.at_.carry (Below.heap_setCell _ _ _ _ (by simp; omega)), hO, ?_, hsem, h.st.good⟩
    · exact h.st.fr.trans (Fr.set wr _ _ (X := fun k => k = G) rfl) (fun b hb e => by subst e; omega)
    · have := h.st.len
      simpa using this
  · intro x hx
    rcases List.mem_cons.1 hx with rfl | hx
    · simp
    · exact h.full x hx
  · refine h.fr.trans (Fr.set wr _ _ (X := fun k => k = G) rfl) (fun b hb e => ?_)
    subst e
    rcases h.nvw b rfl with hy | hy
    · exact .inr (.inr hy)
    · omega
  · intro x hx
    have e2 : blks (((⟨d.sort, d.text, (d.kids.map (gat C)).map (placeI (reps'.map (gat C)))⟩ : Nd), some g) :: new) = g :: blks new := rfl
    rw [e2] at hx
    rcases List.mem_cons.1 hx with rfl | hx
    · exact h.gw.1
    · exact h.blkw x hx
end Go.Proofs.YtjpkmcaogekkdaaDoor.Rm
