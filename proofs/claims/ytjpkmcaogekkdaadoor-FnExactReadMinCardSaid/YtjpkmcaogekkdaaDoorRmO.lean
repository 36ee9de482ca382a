/- The law's argument, opened: what reads as data of nodes and roots stands in memory so. -/
import Derived.Test.YtjpkmcaogekkdaaDoorRmC
import Derived.Deep.Slices
import Derived.Deep.Fields
import Derived.ChangeSame
import Derived.SizedLaws
import Derived.Lib.SmallJoins
namespace Go.Proofs.YtjpkmcaogekkdaaDoor.Rm
open Go.ChangeShapes Go.WideShapes Go.Deep Go.RowKit
set_option linter.unusedVariables false
set_option linter.unusedSimpArgs false

section
variable {H : Type} {enc : TypeId × Value → H} {P : Program} {w : World} {base : Nat} {spare : Nat → Bool} {held : Bool}
/-- A slice of structs of one-cell fields, opened field by field (after the guide's words). -/
theorem open_slice_fields {t e : TypeId} {fs : Array Field} {fuel : Nat} {cs : List Value} {x : DataW H × List MemPlace} (ht : P.underlying t = some (.slice e)) (he : P.underlying e = some (.struct fs))
    (hone : oneCellFields P fs = true) (hC : P.cellsOf e = fs.size) (h : DataW.trod enc P w base spare held fuel t cs = some x) :
    (cs = [.slice none 0 0] ∧ x = (.nil, [])) ∨
    ∃ (a : Addr) (len cap m : Nat) (D : Nat → DataW H) (Pl : Nat → List MemPlace), cs = [.slice (some a) len cap] ∧ base ≤ a.block ∧ len ≤ cap ∧ cap ≤ maxLen ∧ m = (if spare a.block then cap else len) ∧
      x = (.slice ((List.range len).map D) ((List.range (m - len)).map fun j => D (len + j)), MemPlace.row a (m * fs.size) ++ (List.range m).flatMap Pl) ∧
      ∀ i, i < m → ∃ (ys : List (DataW H × List MemPlace)) (n : Nat), D i = .agg (ys.map (·.1)) ∧ Pl i = ys.flatMap (·.2) ∧ ys.length = fs.size ∧
        ∀ (j : Nat) (f : Field), fs[j]? = some f → ∃ (v : Value) (y : DataW H × List MemPlace), w.cell? (a.add (i * fs.size + j)) = some v ∧ ys[j]? = some y ∧ DataW.trod enc P w base spare held n f.type [v] = some y := by
  rcases open_slice ht h with h0 | ⟨a, len, cap, m, n, D, Pl, hcs, hb, hl, hm, hmm, hx, hi⟩
  · exact .inl h0
  · refine .inr ⟨a, len, cap, m, D, Pl, hcs, hb, hl, hm, hmm, by rw [hC] at hx; exact hx, fun i him => ?_⟩
    obtain ⟨cs', hc, ht'⟩ := hi i him
    rw [hC] at hc
    obtain ⟨ys, n', hn', hy, hlen, hyl, hf⟩ := DataW.trod_struct he ht'
    obtain ⟨_, hcl, hat⟩ := World.cells?_some hc
    simp only [Prod.mk.injEq] at hy
    refine ⟨ys, n', hy.1, hy.2, hyl, fun j f hj => ?_⟩
    obtain ⟨ho, hk⟩ := hone_of hone j f hj
    have hjl : j < fs.size := (Array.getElem?_eq_some_iff.1 hj).1
    have hcell := hat j hjl
    have hv : cs'[j]? = some (cs'[j]'(by omega)) := List.getElem?_eq_getElem (by omega)
    have h1 := hf j f hj
    rw [ho, hk] at h1
    have hone' : (cs'.drop j).take 1 = [cs'[j]'(by omega)] := by
      rw [List.drop_eq_getElem_cons (by omega)]
      rfl
    rw [hone'] at h1
    have hys : ys[j]? = some (ys[j]'(by omega)) := List.getElem?_eq_getElem (by omega)
    refine ⟨_, _, ?_, hys, h1.trans hys⟩
    rw [← Go.Deep.add_add, hcell, hv]
end

/-- all its weights are within the reach -/
def Sm {H : Type} (t : TypeId) (d : DataW H) : Prop := ∀ n ∈ d.weights Tryd.prog t, n ≤ reachBytes
theorem Sm.all {H : Type} {e : TypeId} : ∀ {l : List (DataW H)}, (∀ n ∈ DataW.weightsAll Tryd.prog e l, n ≤ reachBytes) → ∀ d ∈ l, Sm e d
  | [], _, d, hd => by simp at hd
  | x :: l, h, d, hd => by
    simp only [DataW.weightsAll, List.mem_append] at h
    rcases List.mem_cons.1 hd with rfl | hd
    · exact fun n hn => h n (.inl hn)
    · exact Sm.all (fun n hn => h n (.inr hn)) d hd
theorem Sm.slice {H : Type} {t e : TypeId} {l s : List (DataW H)} (hu : Tryd.prog.underlying t = some (.slice e)) (h : Sm t (.slice l s)) : (l.length + s.length) * Tryd.prog.bytesOf e ≤ reachBytes ∧ ∀ d ∈ l, Sm e d := by
  unfold Sm at h
  simp only [DataW.weights, hu, List.mem_cons, List.mem_append] at h
  exact ⟨h _ (.inl rfl), Sm.all fun n hn => h n (.inr (.inl hn))⟩

theorem addr_plain {w : World} {a : Addr} {v : Value} (h : w.cell? a = some v) : a = ⟨a.block, a.off, none⟩ := by
  obtain ⟨b, o, s⟩ := a
  cases s with
  | none => rfl
  | some s =>
    unfold World.cell? at h
    split at h
    · simp at h
    · cases h

theorem add_at {a : Addr} (ha : a = ⟨a.block, a.off, none⟩) (j : Nat) : a.add j = ⟨a.block, a.off + j, none⟩ := by
  obtain ⟨b, o, s⟩ := a
  cases ha
  unfold Addr.add
  split
  · next h => subst h; rfl
  · rfl

section
variable {H : Type} {enc : TypeId × Value → H} {W : World} {base : Nat} {held : Bool}
theorem bytes3 : Tryd.prog.bytesOf 3 = 8 := by kernel_rfl
theorem bytes80 : Tryd.prog.bytesOf 80 = 48 := by kernel_rfl
theorem cells3 : Tryd.prog.cellsOf 3 = 1 := by kernel_rfl
theorem cells80 : Tryd.prog.cellsOf 80 = 3 := by kernel_rfl

theorem ints_of {fuel : Nat} {v : Value} {x : DataW H × List MemPlace} (h : DataW.trod enc Tryd.prog W base (fun _ => true) held fuel 32 [v] = some x) (hs : Sm 32 x.1) : ∃ xs, Ints W (fun b => b < W.heap.size) v xs := by
  rcases open_ints Tryd.underlying32 Tryd.underlying3 cells3 h with ⟨h1, rfl⟩ | ⟨a, len, cap, zs, h1, hb, hl, hm, hz, rfl, hc, hw⟩
  · simp only [List.cons.injEq, and_true] at h1
    exact ⟨[], by simp, .inr ⟨rfl, none, 0, h1⟩⟩
  · simp only [List.cons.injEq, and_true] at h1
    subst h1
    simp only [if_true] at hz
    have hsz := (hs.slice Tryd.underlying32).1
    rw [bytes3] at hsz
    have hlen : ((lits (H := H) .i64 (zs.take len)).length + (lits (H := H) .i64 (zs.drop len)).length) = zs.length := by
      simp [lits]
      omega
    rw [hlen, hz] at hsz
    have hr : reachBytes = 140737488351232 := rfl
    rw [hr] at hsz
    have htl : (zs.take len).length = len := by rw [List.length_take]; omega
    by_cases h0 : len = 0
    · subst h0
      exact ⟨[], by simp, .inr ⟨rfl, _, _, rfl⟩⟩
    · have hc0 := hc 0 (by omega)
      have e0 : a.add 0 = a := by unfold Addr.add; rw [if_pos rfl]
      rw [e0] at hc0
      have ha : a = ⟨a.block, a.off, none⟩ := addr_plain hc0
      refine ⟨zs.take len, by rw [htl]; omega, .inl ⟨a.block, a.off, cap, by rw [htl, ← ha], cell_in hc0, fun i y hi => ?_⟩⟩
      have hi2 := (List.getElem?_eq_some_iff.1 hi).1
      rw [htl] at hi2
      have h2 := hc i (by omega)
      rw [List.getElem?_take_of_lt hi2] at hi
      have h3 : zs.getD i 0 = y := by rw [List.getD, hi]; rfl
      rw [h3] at h2
      rw [← h2, add_at ha]

theorem string_of {fuel : Nat} {v : Value} {x : DataW H × List MemPlace} (h : DataW.trod enc Tryd.prog W base (fun _ => true) held fuel 9 [v] = some x) (hs : Sm 9 x.1) : ∃ s : ByteArray, v = .string s ∧ s.size ≤ 140737488351232 := by
  obtain ⟨s, e0, h1, ws⟩ := DataW.trod_string Tryd.underlying9 h
  simp only [List.cons.injEq, and_true] at e0
  subst h1
  have h2 := hs s.data.toList.length (by rw [show (DataW.lit (.string s.data.toList) : DataW H).weights Tryd.prog 9 = [s.data.toList.length] from by rw [DataW.weights]]; exact List.mem_singleton.2 rfl)
  exact ⟨s, e0, h2⟩

theorem nodes_of {fuel : Nat} {v : Value} {x : DataW H × List MemPlace} (h : DataW.trod enc Tryd.prog W base (fun _ => true) held fuel 31 [v] = some x) (hs : Sm 31 x.1) : ∃ ns, Nodes W (fun b => b < W.heap.size) v ns ∧ ∀ d ∈ ns, -9223372036854775808 ≤ d.sort ∧ d.sort ≤ 9223372036854775807 := by
  rcases open_slice_fields Tryd.underlying31 Tryd.underlying80 (by kernel_rfl) cells80 h with ⟨h1, rfl⟩ | ⟨a, len, cap, m, D, Pl, h1, hb, hl, hm, hmm, rfl, hi⟩
  · simp only [List.cons.injEq, and_true] at h1
    exact ⟨[], ⟨by simp, .inr ⟨rfl, none, 0, h1⟩⟩, fun d hd => by simp at hd⟩
  · simp only [List.cons.injEq, and_true] at h1
    subst h1
    simp only [if_true] at hmm
    subst hmm
    obtain ⟨hsz, hse⟩ := hs.slice Tryd.underlying31
    rw [bytes80] at hsz
    simp only [List.length_map, List.length_range] at hsz
    have hr : reachBytes = 140737488351232 := rfl
    rw [hr] at hsz
    have each : ∀ i, i < len → ∃ d : Nd, (W.cell? (a.add (i * 3)) = some (.int .i64 d.sort) ∧ W.cell? (a.add (i * 3 + 1)) = some (.string d.text) ∧ d.text.size ≤ 140737488351232 ∧ ∃ kv, W.cell? (a.add (i * 3 + 2)) = some kv ∧ Ints W (fun b => b < W.heap.size) kv d.kids) ∧ -9223372036854775808 ≤ d.sort ∧ d.sort ≤ 9223372036854775807 := by
      intro i hil
      obtain ⟨ys, n, hD, _, hyl, hf⟩ := hi i (by omega)
      obtain ⟨v0, y0, c0, g0, t0⟩ := hf 0 _ rfl
      obtain ⟨v1, y1, c1, g1, t1⟩ := hf 1 _ rfl
      obtain ⟨v2, y2, c2, g2, t2⟩ := hf 2 _ rfl
      have hsm : Sm 80 (D i) := hse (D i) (List.mem_map.2 ⟨i, List.mem_range.2 hil, rfl⟩)
      have hys : ys = [y0, y1, y2] := by
        match ys, hyl with
        | [z0, z1, z2], _ =>
          simp at g0 g1 g2
          rw [g0, g1, g2]
      rw [hD, hys] at hsm
      unfold Sm at hsm
      simp only [DataW.weights, Tryd.underlying80, List.map_cons, List.map_nil, DataW.weightsEach, List.mem_append] at hsm
      obtain ⟨z, e0, hz, wz⟩ := DataW.trod_int Tryd.underlying3 t0
      simp only [List.cons.injEq, and_true] at e0
      subst e0
      obtain ⟨s, rfl, hss⟩ := string_of t1 (fun q hq => hsm q (.inr (.inl hq)))
      obtain ⟨xs, hxs⟩ := ints_of t2 (fun q hq => hsm q (.inr (.inr (.inl hq))))
      have hwf : -9223372036854775808 ≤ z ∧ z ≤ 9223372036854775807 := by
        simp only [Lit.wf, Bool.and_eq_true, decide_eq_true_eq] at wz
        exact ⟨wz.1, wz.2⟩
      exact ⟨⟨z, s, xs⟩, ⟨c0, c1, hss, v2, c2, hxs⟩, hwf⟩
    by_cases h0 : len = 0
    · subst h0
      exact ⟨[], ⟨by simp, .inr ⟨rfl, _, _, rfl⟩⟩, fun d hd => by simp at hd⟩
    · obtain ⟨d0, ⟨hc0, _⟩, _⟩ := each 0 (by omega)
      have e0 : a.add (0 * 3) = a := by unfold Addr.add; rw [if_pos rfl]
      rw [e0] at hc0
      have ha := addr_plain hc0
      have hadd := add_at ha
      obtain ⟨ns, hl', hns⟩ : ∃ ns : List Nd, ns.length = len ∧ ∀ i, (hi : i < ns.length) → (W.cell? (a.add (i * 3)) = some (.int .i64 ns[i].sort) ∧ W.cell? (a.add (i * 3 + 1)) = some (.string ns[i].text) ∧ ns[i].text.size ≤ 140737488351232 ∧ ∃ kv, W.cell? (a.add (i * 3 + 2)) = some kv ∧ Ints W (fun b => b < W.heap.size) kv ns[i].kids) ∧ -9223372036854775808 ≤ ns[i].sort ∧ ns[i].sort ≤ 9223372036854775807 := by
        refine ⟨(List.range len).attach.map fun i => (each i.1 (List.mem_range.1 i.2)).choose, by simp, fun i hi => ?_⟩
        simp only [List.getElem_map, List.getElem_attach, List.getElem_range]
        exact (each i (by simpa using hi)).choose_spec
      refine ⟨ns, ⟨by omega, .inl ⟨a.block, a.off, m, by rw [hl', ← ha], cell_in hc0, fun i d hd => ?_⟩⟩, fun d hd => ?_⟩
      · obtain ⟨hil, rfl⟩ := List.getElem?_eq_some_iff.1 hd
        have := (hns i hil).1
        rw [hadd, hadd, hadd] at this
        simpa [Nat.add_assoc] using this
      · obtain ⟨i, hil, rfl⟩ := List.getElem_of_mem hd
        exact (hns i hil).2
end
end Go.Proofs.YtjpkmcaogekkdaaDoor.Rm
