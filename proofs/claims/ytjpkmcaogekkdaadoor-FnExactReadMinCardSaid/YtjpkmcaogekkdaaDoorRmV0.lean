/- What stands in memory while the roots are come to. -/
import Derived.Test.YtjpkmcaogekkdaaDoorRmU
import Derived.Laws.EntriesVeiled
namespace Go.Proofs.YtjpkmcaogekkdaaDoor.Rm
open Go.RowKit Go.Maps
set_option linter.unusedVariables false
set_option linter.unusedSimpArgs false
set_option linter.unusedSectionVars false
set_option linter.unnecessarySimpa false

/-- Nodes in memory, each with a row of parts that has an address. -/
def NodesA (w : World) (P : Nat → Prop) (b o : Nat) (ns : List Nd) : Prop :=
  ∀ i d, ns[i]? = some d → w.cell? ⟨b, o + i * 3, none⟩ = some (.int .i64 d.sort) ∧ w.cell? ⟨b, o + i * 3 + 1, none⟩ = some (.string d.text) ∧ d.text.size ≤ 140737488351232 ∧ ∃ kb ko kc, w.cell? ⟨b, o + i * 3 + 2, none⟩ = some (.slice (some ⟨kb, ko, none⟩) d.kids.length kc) ∧ P kb ∧ ∀ j x, d.kids[j]? = some x → w.cell? ⟨kb, ko + j, none⟩ = some (.int .i64 x)
theorem NodesA.below {w w' : World} {P : Nat → Prop} {b o : Nat} {ns : List Nd} (h : NodesA w P b o ns) (hb : b < w.heap.size) (hP : ∀ b, P b → b < w.heap.size) (hbe : Below w.heap.size w w') : NodesA w' P b o ns := by
  intro i d hd
  obtain ⟨a0, a1, a2, kb, ko, kc, a3, a4, a5⟩ := h i d hd
  exact ⟨(hbe.cell (p := ⟨b, _, none⟩) hb).trans a0, (hbe.cell (p := ⟨b, _, none⟩) hb).trans a1, a2, kb, ko, kc, (hbe.cell (p := ⟨b, _, none⟩) hb).trans a3, a4, fun j x hx => (hbe.cell (p := ⟨kb, _, none⟩) (hP kb a4)).trans (a5 j x hx)⟩
theorem NodesA.weak {w : World} {P : Nat → Prop} {b o : Nat} {ns : List Nd} (h : NodesA w P b o ns) (h40 : ∀ d ∈ ns, d.kids.length * 8 ≤ 140737488351232) : ∀ i d, ns[i]? = some d → w.cell? ⟨b, o + i * 3, none⟩ = some (.int .i64 d.sort) ∧ w.cell? ⟨b, o + i * 3 + 1, none⟩ = some (.string d.text) ∧ d.text.size ≤ 140737488351232 ∧ ∃ kv, w.cell? ⟨b, o + i * 3 + 2, none⟩ = some kv ∧ Ints w P kv d.kids := by
  intro i d hd
  obtain ⟨a0, a1, a2, kb, ko, kc, a3, a4, a5⟩ := h i d hd
  exact ⟨a0, a1, a2, _, a3, h40 d (List.mem_of_getElem? hd), .inl ⟨kb, ko, kc, rfl, a4, a5⟩⟩

def ImplPost (ns : List Nd) (rs : List Int) (w : World) (e : Ending) (w' : World) : Prop :=
  ∃ v, e = .returned v ∧ Below w.heap.size w w' ∧ OwnData w' w.heap.size w'.heap.size v (specNs ns rs) (specRs ns rs)

theorem ownData_nil {w : World} {lo : Nat} (h : lo + 2 ≤ w.heap.size) (a a' : Option Addr) (c c' : Nat) : OwnData w lo w.heap.size (.agg #[.slice a 0 c, .slice a' 0 c']) [] [] := by
  refine ⟨_, _, lo, lo + 1, [], rfl, ⟨by simp, rfl, .inr ⟨rfl, a, c, rfl⟩⟩, .inr ⟨rfl, a', c', rfl⟩, by simp, fun g hg => ?_⟩
  simp at hg
  omega
theorem impl_empty {ns : List Nd} {rs : List Int} {w w' : World} (h : allOk ns rs = false) (hb : Below w.heap.size w w') (hs : w.heap.size + 2 ≤ w'.heap.size) : ImplPost ns rs w (.returned (.agg #[.slice none 0 0, .slice none 0 0])) w' := by
  refine ⟨_, rfl, hb, ?_⟩
  rw [specNs, specRs, h]
  exact ownData_nil hs _ _ _ _

theorem five_blocks (w : World) (c1 c2 c4 c5 : Array Value) (t1 t2 t4 t5 : TypeId) :
    Blk (((((w.alloc (.cells c1 t1)).alloc (.cells c2 t2)).alloc (.map #[] 0)).alloc (.cells c4 t4)).alloc (.cells c5 t5)) w.heap.size c1 t1 ∧
    Blk (((((w.alloc (.cells c1 t1)).alloc (.cells c2 t2)).alloc (.map #[] 0)).alloc (.cells c4 t4)).alloc (.cells c5 t5)) (w.heap.size + 1) c2 t2 ∧
    MapIs 3 ikey (((((w.alloc (.cells c1 t1)).alloc (.cells c2 t2)).alloc (.map #[] 0)).alloc (.cells c4 t4)).alloc (.cells c5 t5)) (w.heap.size + 1 + 1) [] ∧
    Blk (((((w.alloc (.cells c1 t1)).alloc (.cells c2 t2)).alloc (.map #[] 0)).alloc (.cells c4 t4)).alloc (.cells c5 t5)) (w.heap.size + 1 + 1 + 1) c4 t4 ∧
    Blk (((((w.alloc (.cells c1 t1)).alloc (.cells c2 t2)).alloc (.map #[] 0)).alloc (.cells c4 t4)).alloc (.cells c5 t5)) (w.heap.size + 1 + 1 + 1 + 1) c5 t5 ∧
    Below w.heap.size w (((((w.alloc (.cells c1 t1)).alloc (.cells c2 t2)).alloc (.map #[] 0)).alloc (.cells c4 t4)).alloc (.cells c5 t5)) ∧
    (((((w.alloc (.cells c1 t1)).alloc (.cells c2 t2)).alloc (.map #[] 0)).alloc (.cells c4 t4)).alloc (.cells c5 t5)).heap.size = w.heap.size + 5 := by
  obtain ⟨h1, h2⟩ := Blk.two w c1 c2 t1 t2
  have h3 := MapIs.made (kt := 3) (lit := ikey) ((w.alloc (.cells c1 t1)).alloc (.cells c2 t2))
  have hs : ((w.alloc (.cells c1 t1)).alloc (.cells c2 t2)).heap.size = w.heap.size + 1 + 1 := by simp
  rw [hs] at h3
  refine ⟨((h1.alloc _).alloc _).alloc _, ((h2.alloc _).alloc _).alloc _, ?_, (Blk.newAt _ c4 t4 (by simp)).alloc _, Blk.newAt _ c5 t5 (by simp), ?_, by simp⟩
  · have h4 := h3.carry (Below.heap_alloc _ (.cells c4 t4) _ h3.lt)
    exact h4.carry (Below.heap_alloc _ (.cells c5 t5) _ h4.lt)
  · exact (((below2 w _ _).alloc (by simp; omega) _).alloc (by simp; omega) _).alloc (by simp; omega) _

/-- what stands while the roots are come to -/
structure RI (ns : List Nd) (C rs : List Int) (W0 : World) (bo bm : Nat) (k : Nat) (wr : World) (reps : List Int) (es : List Ent) (nv rv : Value) : Prop where
  eq : reps = (rs.take k).foldl (walkC ns C (ns.length + 1)) []
  st : St ns C (fun k => k = bo ∨ k = bm) W0 bo bm rv wr reps es nv
  full : ∀ x ∈ es, x.2 ≠ none
  row : OwnRow wr W0.heap.size rv (((rs.take k).map (gat C)).map (placeI (reps.map (gat C))))
  mem : ∀ x ∈ rs.take k, gat C x ∈ reps.map (gat C)
  rno : ∀ g, rv.ownBlock = some g → g ∉ blks es ∧ nv.ownBlock ≠ some g

theorem RI.start {ns : List Nd} {C rs : List Int} {W0 : World} {bo bm : Nat} (hB : Blk W0 bo #[.slice none 0 0, .slice none 0 0] 38) (hM : MapIs 3 ikey W0 bm []) : RI ns C rs W0 bo bm 0 W0 [] [] (.slice none 0 0) (.slice none 0 0) :=
  ⟨by simp, ⟨Fr.refl _ _, hB, hM, Out.nil _ _, rfl, fun j i e h => by simp at h, GoodC.nil _ _⟩, fun x hx => by simp at hx, (World.ownsRow_nil _ _ _ _ : OwnRow W0 W0.heap.size (.slice none 0 0) []), fun x hx => by simp at hx, fun g hg => by simp [Value.ownBlock] at hg⟩

theorem RI.step {ns : List Nd} {C rs : List Int} {W0 : World} {bo bm : Nat} {k : Nat} {wr : World} {reps : List Int} {es : List Ent} {nv rv : Value} (h : RI ns C rs W0 bo bm k wr reps es nv rv) (hbo : bo < W0.heap.size) (hbm : bm < W0.heap.size) (hbom : bo ≠ bm)
    (hk : ∀ d ∈ ns, ∀ k ∈ d.kids, inR ns.length k = true) {x : Int} (hx : rs[k]? = some x) (hxi : inR ns.length x = true) {e : Ending} {w5 : World} (hc : ComePost ns C (fun k => k = bo ∨ k = bm) W0 bo bm rv wr.drew reps es nv (walkC ns C (ns.length + 1) reps x) x e w5) (hj : (k + 1) * 8 ≤ 140737488351232) (hkl : k < rs.length) :
    ∃ v : Int, e = .returned (.int .i64 v) ∧ w5.cell? ⟨bo, 1, none⟩ = some rv ∧ (w5.alloc (.cells #[.int .i64 v] 3)).cell? ⟨bo, 1, none⟩ = some rv ∧ ∃ g6 cap6 w6, (Builtin.append_ #[32, 32] 32 #[rv, .slice (some ⟨w5.heap.size, 0, none⟩) 1 1]).run Tryd.prog (w5.alloc (.cells #[.int .i64 v] 3)) = .ok (.slice (some ⟨g6, 0, none⟩) (k + 1) cap6) w6 ∧
      w6.cell? ⟨bo, 1, none⟩ = some rv ∧ w6.frozen? ⟨bo, 1, none⟩ = false ∧
      ∃ reps6 es6 nv6, RI ns C rs W0 bo bm (k + 1) (w6.setCell ⟨bo, 1, none⟩ (.slice (some ⟨g6, 0, none⟩) (k + 1) cap6)) reps6 es6 nv6 (.slice (some ⟨g6, 0, none⟩) (k + 1) cap6) := by
  obtain ⟨nv5, new5, rfl, hS5, hfull5, hF5, hnv5, hb5⟩ := hc
  have hm := walkC_mem hk ns.length reps x h.st.good hxi
  have hp := (walkC_good hk (ns.length + 1) reps x h.st.good hxi).2
  have hpm : reps.map (gat C) <+: (walkC ns C (ns.length + 1) reps x).map (gat C) := by
    obtain ⟨t, ht⟩ := hp
    exact ⟨t.map (gat C), by rw [← ht, List.map_append]⟩
  have hF5' : Fr (fun k => k = bo ∨ k = bm ∨ nv.ownBlock = some k) wr w5 := ⟨hF5.os, hF5.tape, hF5.output, hF5.size, hF5.block⟩
  have hrl : ∀ g, rv.ownBlock = some g → W0.heap.size ≤ g ∧ g < wr.heap.size := fun g hg => World.ownsRow.lt h.row g hg
  have hgo : ∀ g, rv.ownBlock = some g → ¬ (g = bo ∨ g = bm ∨ nv.ownBlock = some g) := by
    rintro g hg (e | e | e)
    · have := (hrl g hg).1; omega
    · have := (hrl g hg).1; omega
    · exact (h.rno g hg).2 e
  have hrow5 : OwnRow w5 W0.heap.size rv (((rs.take k).map (gat C)).map (placeI ((walkC ns C (ns.length + 1) reps x).map (gat C)))) := by
    have : ((rs.take k).map (gat C)).map (placeI ((walkC ns C (ns.length + 1) reps x).map (gat C))) = ((rs.take k).map (gat C)).map (placeI (reps.map (gat C))) := by
      refine List.map_congr_left fun y hy => ?_
      obtain ⟨z, hz, rfl⟩ := List.mem_map.1 hy
      exact placeI_prefix hpm (h.mem z hz)
    rw [this]
    exact h.row.fr hF5' hgo
  have hlj : (((rs.take k).map (gat C)).map (placeI ((walkC ns C (ns.length + 1) reps x).map (gat C)))).length = k := by
    rw [List.length_map, List.length_map, List.length_take]; omega
  obtain ⟨g6, cap6, w6, e1, e2, e3, e4, e5⟩ := append_int w5 W0.heap.size _ _ ((ixOf ((walkC ns C (ns.length + 1) reps x).map (gat C)) (gat C x) : Nat) : Int) hrow5 hS5.fr.size (by rw [hlj]; exact hj)
  rw [hlj] at e1 e2
  have hbr : rv.ownBlock ≠ some bo := fun e => by have := (hrl bo e).1; omega
  have hB6 : Blk w6 bo #[nv5, rv] 38 := (e3.block bo hS5.out.lt (fun e => hbr e.symm)).trans hS5.out
  refine ⟨_, rfl, hS5.out.cell0 (o := 1) rfl, (hS5.out.alloc _).cell0 (o := 1) rfl, g6, cap6, w6, e1, hB6.cell0 (o := 1) rfl, hB6.free 1, walkC ns C (ns.length + 1) reps x, es ++ new5, nv5, ?_⟩
  have hfg : Fr (fun k => rv.ownBlock = some k) w5 w6 := Fr.of_grown e3 (fun b hb => hb)
  have hr5 : ∀ g, rv.ownBlock = some g → g ∉ blks (es ++ new5) ∧ nv5.ownBlock ≠ some g := fun g hg => by
    refine ⟨?_, fun e => ?_⟩
    · rw [blks_append, List.mem_append]
      rintro (hx | hx)
      · exact (h.rno g hg).1 hx
      · have := hb5 g hx
        have := (hrl g hg).2
        have h9 : wr.drew.heap.size = wr.heap.size := rfl
        omega
    · rcases hnv5 g e with e | e
      · exact (h.rno g hg).2 e
      · have := (hrl g hg).2
        have h9 : wr.drew.heap.size = wr.heap.size := rfl
        omega
  have hlow : ∀ y ∈ blks (es ++ new5), W0.heap.size ≤ y ∧ y < w5.heap.size := fun y hy => by
    obtain ⟨cells, _, _, _, h4⟩ := hS5.nodes
    exact ⟨(h4 y hy).1, (h4 y hy).2.1⟩
  have hg6 : rv.ownBlock = some g6 ∨ w5.heap.size ≤ g6 := e4
  have hg6lo : W0.heap.size ≤ g6 := by
    rcases hg6 with e | e
    · exact (hrl g6 e).1
    · have := hS5.fr.size; omega
  refine ⟨?_, ⟨?_, hB6.set 1 _, ?_, ?_, hS5.len, hS5.sem, hS5.good⟩, ?_, ?_, ?_, ?_⟩
  · rw [take_snoc' _ k x hx, List.foldl_append, ← h.eq]
    rfl
  · exact (hS5.fr.trans hfg (fun b hb e => by have := (hrl b e).1; omega)).trans (Fr.set w6 _ _ (X := fun k => k = bo) rfl) (fun b _ e => .inl e)
  · exact (hS5.at_.carry (w' := w6) (hfg.block bm hS5.at_.lt (fun e => by have := (hrl bm e).1; omega))).carry (Below.heap_setCell _ _ _ _ (by simp; omega))
  · refine (hS5.nodes.carry (w' := w6) hfg.size (fun y hy => hfg.block y (hS5.nodes.own_lt y hy).2 (fun e => (hr5 y e).2 hy)) (fun y hy => hfg.block y (hlow y hy).2 (fun e => (hr5 y e).1 hy))).carry (by simp) (fun y hy => Below.heap_setCell _ _ _ _ ?_) (fun y hy => Below.heap_setCell _ _ _ _ ?_)
    · have := (hS5.nodes.own_lt y hy).1
      simp; omega
    · have := (hlow y hy).1
      simp; omega
  · intro y hy
    rcases List.mem_append.1 hy with hy | hy
    · exact h.full y hy
    · exact hfull5 y hy
  · rw [take_snoc' _ k x hx, List.map_append, List.map_append]
    have : ([x].map (gat C)).map (placeI ((walkC ns C (ns.length + 1) reps x).map (gat C))) = [((ixOf ((walkC ns C (ns.length + 1) reps x).map (gat C)) (gat C x) : Nat) : Int)] := by
      simp only [List.map_cons, List.map_nil]
      rw [placeI_ix hm]
    rw [this]
    exact OwnRow.far e2 hbo _ _
  · intro y hy
    rw [take_snoc' _ k x hx] at hy
    rcases List.mem_append.1 hy with hy | hy
    · exact hpm.subset (h.mem y hy)
    · simp only [List.mem_singleton] at hy
      rw [hy]; exact hm
  · intro y hy
    cases hy
    rcases hg6 with e | e
    · exact hr5 g6 e
    · refine ⟨fun hx => ?_, fun hx => ?_⟩
      · have h9 := (hlow _ hx).2
        simp only at h9
        omega
      · have h9 := (hS5.nodes.own_lt _ hx).2
        simp only at h9
        omega

theorem blks_full : ∀ {es : List Ent}, (∀ x ∈ es, x.2 ≠ none) → (blks es).length = es.length ∧ ∀ (i : Nat) (g : Nat), (blks es)[i]? = some g → ∃ d, es[i]? = some (d, some g)
  | [], _ => ⟨rfl, fun i g h => by simp [blks] at h⟩
  | (d, none) :: es, h => absurd rfl (h (d, none) (by simp))
  | (d, some x) :: es, h => by
    obtain ⟨h1, h2⟩ := blks_full (es := es) fun y hy => h y (by simp [hy])
    have e1 : blks ((d, some x) :: es) = x :: blks es := rfl
    rw [e1]
    refine ⟨by simp [h1], fun i g hi => ?_⟩
    cases i with
    | zero =>
      simp only [List.getElem?_cons_zero, Option.some.injEq] at hi
      subst hi
      exact ⟨d, rfl⟩
    | succ i =>
      rw [List.getElem?_cons_succ] at hi ⊢
      exact h2 i g hi

theorem OwnData.weak {w : World} {lo lo' hi : Nat} {v : Value} {ns : List Nd} {rs : List Int} (h : OwnData w lo hi v ns rs) (hl : lo' ≤ lo) : OwnData w lo' hi v ns rs := by
  obtain ⟨nv, rv, G, r, gs, h1, h2, h3, h4, h5⟩ := h
  exact ⟨nv, rv, G, r, gs, h1, h2, h3, h4, fun g hg => ⟨Nat.le_trans hl (h5 g hg).1, (h5 g hg).2⟩⟩

theorem RI.own {ns : List Nd} {C rs : List Int} {W0 : World} {bo bm : Nat} {wr : World} {reps : List Int} {es : List Ent} {nv rv : Value} (h : RI ns C rs W0 bo bm rs.length wr reps es nv rv) (hsz : ns.length * 48 ≤ 140737488351232) (hms : rs.length * 8 ≤ 140737488351232) (hne : rs ≠ []) :
    OwnData wr W0.heap.size wr.heap.size (.agg #[nv, rv]) (es.map Prod.fst) ((rs.map (gat C)).map (placeI (reps.map (gat C)))) := by
  have hrow := h.row
  have hmem := h.mem
  rw [List.take_of_length_le (Nat.le_refl _)] at hrow hmem
  have hre : reps ≠ [] := fun e => by
    obtain ⟨x, hx⟩ := List.exists_mem_of_ne_nil _ hne
    have := hmem x hx
    rw [e] at this
    simp at this
  have hes : es ≠ [] := fun e => hre (List.length_eq_zero_iff.1 (by rw [← h.st.len, e]; rfl))
  have hxl : ((rs.map (gat C)).map (placeI (reps.map (gat C)))).length = rs.length := by simp
  have hlen := h.st.len
  have hgl := h.st.good.le
  obtain ⟨ra, rc, rfl, hrs⟩ := hrow.shape
  obtain ⟨r, rfl, hr1, hr2, _⟩ := hrs (fun e => hne (List.length_eq_zero_iff.1 (by rw [← hxl, e]; rfl)))
  have hrown := hrow.own (by rw [hxl]; exact hms)
  obtain ⟨hrn, hrG⟩ := h.rno r rfl
  obtain ⟨hbl, hba⟩ := blks_full h.full
  obtain ⟨cells, ⟨hc0, ⟨rfl, hz⟩ | ⟨G, cap, cur, rfl, hGb, hG, hGc, hcm, hs, ht⟩⟩, h2, h3, h4⟩ := h.st.nodes
  · exact absurd (List.length_eq_zero_iff.1 hz) hes
  have hB : Blk wr G cur 58 := hG
  refine ⟨_, _, G, r, blks es, rfl, ⟨by rw [List.length_map]; omega, by rw [List.length_map]; exact hbl, .inl ⟨cap, cur, by rw [List.length_map], hB, ⟨by rw [List.length_map]; exact hbl, fun i d g hd hg => ?_⟩⟩⟩, .inl hrown, ?_, fun g hg => ?_⟩
  · obtain ⟨d', he⟩ := hba i g hg
    rw [List.getElem?_map, he] at hd
    simp only [Option.map_some, Option.some.injEq] at hd
    subst hd
    have hi := (List.getElem?_eq_some_iff.1 he).1
    obtain ⟨c1, c2, c3, _, c5⟩ := h2 i _ he
    obtain ⟨kv, k1, k2⟩ := c5 g rfl
    have key : ∀ j v, j < es.length * 3 → cells[j]? = some v → cur[j]? = some v := by
      intro j v hj hv
      rw [← ht, List.getElem?_take_of_lt hj] at hv
      simpa using hv
    exact ⟨c3, key _ _ (by omega) c1, key _ _ (by omega) c2, kv, key _ _ (by omega) k1, k2⟩
  · rw [List.nodup_cons, List.nodup_cons]
    refine ⟨?_, hrn, h3⟩
    intro hx
    rcases List.mem_cons.1 hx with e | e
    · exact hrG (by rw [e]; rfl)
    · exact (h4 G e).2.2 rfl
  · rcases List.mem_cons.1 hg with rfl | hg
    · exact ⟨hGb, hB.lt⟩
    · rcases List.mem_cons.1 hg with rfl | hg
      · exact ⟨hr1, hr2⟩
      · exact ⟨(h4 g hg).1, (h4 g hg).2.1⟩

theorem RI.post {ns : List Nd} {C rs : List Int} {W0 : World} {bo bm : Nat} {wr w' : World} {reps : List Int} {es : List Ent} {nv rv : Value} (h : RI ns C rs W0 bo bm rs.length wr reps es nv rv) (hk : ∀ d ∈ ns, ∀ k ∈ d.kids, inR ns.length k = true) (hP : Parts ns C) (hr : ∀ x ∈ rs, inR ns.length x = true) (hok : allOk ns rs = true)
    (hsz : ns.length * 48 ≤ 140737488351232) (hms : rs.length * 8 ≤ 140737488351232) {lo : Nat} (hlo : lo + 2 ≤ W0.heap.size) (hw : ∀ g, W0.heap.size ≤ g → w'.heap[g]? = wr.heap[g]?) (hws : w'.heap.size = wr.heap.size) :
    OwnData w' lo w'.heap.size (.agg #[nv, rv]) (specNs ns rs) (specRs ns rs) := by
  have heq := h.eq
  rw [List.take_of_length_le (Nat.le_refl _)] at heq
  have e1 := nodes_same hk hP rs hr reps es heq h.st.len h.st.sem h.full
  have e2 := roots_same hk hP rs hr reps heq
  rw [specNs, specRs, if_pos hok, if_pos hok, ← e1, ← e2]
  by_cases hne : rs = []
  · subst hne
    have hre : reps = [] := by simpa using heq
    have hes : es = [] := List.length_eq_zero_iff.1 (by rw [h.st.len, hre]; rfl)
    obtain ⟨a, c, ha⟩ := h.st.nodes.shape
    obtain ⟨a', c', ha', _⟩ := h.row.shape
    rw [hes] at ha ⊢
    simp only [List.take_nil, List.map_nil, List.length_nil] at ha'
    rw [ha, ha']
    have := h.st.fr.size
    exact ownData_nil (by omega) _ _ _ _
  · have h1 := h.own hsz hms hne
    rw [hws]
    exact (h1.carry fun g hg _ => hw g hg).weak (by omega)
end Go.Proofs.YtjpkmcaogekkdaaDoor.Rm
