/- Both contracts at data of their own, and sizes. -/
import Derived.Test.YtjpkmcaogekkdaaDoorRmV
import Derived.Test.YtjpkmcaogekkdaaDoorRmL
namespace Go.Proofs.YtjpkmcaogekkdaaDoor.Rm
open Go.RowKit Go.Maps
set_option linter.unusedVariables false
set_option linter.unusedSimpArgs false
set_option linter.unusedSectionVars false
set_option linter.unnecessarySimpa false

theorem OwnDataA.nodesA {w : World} {lo hi : Nat} {ns : List Nd} {G : Nat} {gs : List Nat} {C : Array Value} (hB : Blk w G C 58) (hN : NodeCells w C gs ns) (hg : ∀ g ∈ gs, lo ≤ g ∧ g < hi) : NodesA w (fun b => lo ≤ b ∧ b < hi) G 0 ns := by
  intro i d hd
  have hi' : i < gs.length := by rw [hN.1]; exact (List.getElem?_eq_some_iff.1 hd).1
  obtain ⟨e0, e1, e2, kv, e3, e4⟩ := hN.2 i d gs[i] hd (List.getElem?_eq_getElem hi')
  obtain ⟨h0, cap, C', rfl, hB', hc⟩ := e4
  rw [Nat.zero_add, hB.cell, hB.cell, hB.cell]
  exact ⟨e1, e2, e0, gs[i], 0, cap, e3, hg _ (List.getElem_mem hi'), fun j x hx => by rw [Nat.zero_add, hB'.cell]; exact hc j x hx⟩
theorem NodeCells.kids8 {w : World} {ns : List Nd} {gs : List Nat} {C : Array Value} (hN : NodeCells w C gs ns) : ∀ d ∈ ns, d.kids.length * 8 ≤ 140737488351232 := by
  intro d hd
  obtain ⟨i, hi, rfl⟩ := List.getElem_of_mem hd
  have hi' : i < gs.length := by rw [hN.1]; exact hi
  obtain ⟨_, _, _, kv, _, e4⟩ := hN.2 i _ gs[i] (List.getElem?_eq_getElem hi) (List.getElem?_eq_getElem hi')
  exact e4.1

theorem specMin_any (w : World) (lo hi : Nat) (v : Value) (ns : List Nd) (rs : List Int) (h : OwnDataA w lo hi v ns rs) (hhi : hi ≤ w.heap.size) : Calls Tryd.prog 12 #[v] w (SpecPost ns rs w) := by
  obtain ⟨G, r, gs, cap, cap', C, rfl, h0, hB, hN, hR, _, hin⟩ := h
  obtain ⟨hr0, rc, RC, hrv, hRB, hrc⟩ := hR
  have hA := OwnDataA.nodesA hB hN (fun g hg => hin g (by simp [hg]))
  have hw := hA.weak hN.kids8
  refine specMin_go w (fun b => lo ≤ b ∧ b < hi) G 0 cap r 0 cap' ns.length rs.length ns rs hB.lt hRB.lt (fun b hb => Nat.lt_of_lt_of_le hb.2 hhi) rfl rfl h0 hr0 hw (fun i x hx => by rw [Nat.zero_add, hRB.cell]; exact hrc i x hx) ⟨h0, .inl ⟨G, 0, cap, rfl, hin G (by simp), hw⟩⟩

theorem implMin_any (w : World) (lo hi : Nat) (v : Value) (ns : List Nd) (rs : List Int) (h : OwnDataA w lo hi v ns rs) (hhi : hi ≤ w.heap.size) (ht : Tab w) (hso : ∀ d ∈ ns, -9223372036854775808 ≤ d.sort ∧ d.sort ≤ 9223372036854775807) (htx : ∀ d ∈ ns, d.text.size ≤ 1048576) :
    Calls Tryd.prog 14 #[v] w (ImplPost ns rs w) := by
  obtain ⟨G, r, gs, cap, cap', C, rfl, h0, hB, hN, hR, _, hin⟩ := h
  obtain ⟨hr0, rc, RC, hrv, hRB, hrc⟩ := hR
  exact min_go w (fun b => lo ≤ b ∧ b < hi) G 0 cap r 0 cap' ns.length rs.length ns rs hB.lt hRB.lt (fun b hb => Nat.lt_of_lt_of_le hb.2 hhi) (hin r (by simp)) rfl rfl h0 hr0 (OwnDataA.nodesA hB hN (fun g hg => hin g (by simp [hg]))) hN.kids8 (fun i x hx => by rw [Nat.zero_add, hRB.cell]; exact hrc i x hx) ht hso htx

/-! ### sizes -/
theorem bulk_mem {ns : List Nd} {d : Nd} (hd : d ∈ ns) : d.bulk ≤ bulks ns := by
  induction ns with
  | nil => simp at hd
  | cons x ns ih =>
    unfold bulks at *
    rcases List.mem_cons.1 hd with rfl | hd
    · simp
    · have := ih hd
      simp only [List.map_cons, List.sum_cons]
      omega
theorem tot_le {M : Nat} : ∀ (l : List Nd), (∀ d ∈ l, d.kids.length ≤ M) → tot l ≤ l.length * (2 + M)
  | [], _ => by simp [tot]
  | d :: l, h => by
    have h1 := tot_le l fun x hx => h x (by simp [hx])
    have h2 := h d (by simp)
    unfold tot at *
    simp only [List.map_cons, List.sum_cons, List.length_cons]
    rw [Nat.add_mul, Nat.one_mul]
    omega
theorem minNd_kids (ns : List Nd) (G order : List Int) (g : Int) : (minNd ns G order g).kids.length ≤ bulks ns := by
  unfold minNd
  split
  · next d hd =>
    have := bulk_mem (List.mem_of_getElem? hd)
    simp only [List.length_map]
    unfold Nd.bulk at this
    omega
  · simp
theorem tot_small {ns : List Nd} {rs : List Int} (h : bulk ns rs ≤ 1048576) : 1 + tot ns + rs.length ≤ 100000000000000 := by
  unfold bulk at h
  have := tot_le (M := 1048576) ns fun d hd => by
    have := bulk_mem hd
    unfold Nd.bulk at this
    omega
  have h2 : ns.length * (2 + 1048576) ≤ 1048576 * (2 + 1048576) := Nat.mul_le_mul_right _ (by omega)
  omega
theorem spec_small {ns : List Nd} {rs : List Int} (h : bulk ns rs ≤ 1048576) : 1 + tot (specNs ns rs) + (specRs ns rs).length ≤ 100000000000000 := by
  unfold bulk at h
  unfold specNs specRs
  by_cases hok : allOk ns rs = true
  · rw [if_pos hok, if_pos hok]
    have hok2 := hok
    simp only [allOk, Bool.and_eq_true, List.all_eq_true] at hok2
    have hk : ∀ d ∈ ns, ∀ k ∈ d.kids, inR ns.length k = true := fun d hd x hx => by
      have h1 := hok2.1 d hd
      simp only [kidsOk, Bool.and_eq_true, List.all_eq_true] at h1
      exact h1.2 x hx
    have hgood := fold_good (n := ns.length) (fun o g h1 h2 => walkG_good (iterG_len ns (ns.length + 1)) (iterG_in ns (ns.length + 1)) hk (ns.length + 1) o g h1 h2) (rs.map (gat (iterG ns (ns.length + 1)))) [] ⟨List.nodup_nil, fun g hg => by simp at hg⟩ (fun y hy => by
      obtain ⟨z, hz, rfl⟩ := List.mem_map.1 hy
      have h3 := hok2.2 z hz
      rw [← iterG_len ns (ns.length + 1)] at h3
      exact iterG_in ns _ _ (List.mem_of_getElem? (gat_some h3).1))
    have hle := hgood.1.le
    have hl : (minNs ns (iterG ns (ns.length + 1)) (ordG ns rs (iterG ns (ns.length + 1)))).length ≤ ns.length := by
      unfold minNs ordG
      rw [List.length_map]
      exact hle
    have := tot_le (M := 1048576) (minNs ns (iterG ns (ns.length + 1)) (ordG ns rs (iterG ns (ns.length + 1)))) fun d hd => by
      unfold minNs at hd
      obtain ⟨g, _, rfl⟩ := List.mem_map.1 hd
      have := minNd_kids ns (iterG ns (ns.length + 1)) (ordG ns rs (iterG ns (ns.length + 1))) g
      omega
    have h2 : (minNs ns (iterG ns (ns.length + 1)) (ordG ns rs (iterG ns (ns.length + 1)))).length * (2 + 1048576) ≤ 1048576 * (2 + 1048576) := Nat.mul_le_mul_right _ (by omega)
    have h4 : (minRs rs (iterG ns (ns.length + 1)) (ordG ns rs (iterG ns (ns.length + 1)))).length = rs.length := by
      unfold minRs
      simp
    omega
  · rw [if_neg hok, if_neg hok]
    simp [tot]
end Go.Proofs.YtjpkmcaogekkdaaDoor.Rm
