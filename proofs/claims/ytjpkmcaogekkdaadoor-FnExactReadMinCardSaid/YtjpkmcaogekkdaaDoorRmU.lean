/- The order of the program is the order of the reference; plain lists. -/
import Derived.Test.YtjpkmcaogekkdaaDoorRmS2
namespace Go.Proofs.YtjpkmcaogekkdaaDoor.Rm
open Go.RowKit Go.Maps
set_option linter.unusedVariables false
set_option linter.unusedSimpArgs false
set_option linter.unusedSectionVars false
set_option linter.unnecessarySimpa false

/-! ### the program's order is the reference's -/
section
variable {ns : List Nd} {C : List Int}

theorem rep_look (h2 : iterG ns (ns.length + 2) = iterG ns (ns.length + 1)) {i : Int} {d : Nd} (hi : inR ns.length i = true) (hd : ns[i.toNat]? = some d) :
    ∃ d', ns[(gat (iterG ns (ns.length + 1)) i).toNat]? = some d' ∧ d'.sort = d.sort ∧ d'.text = d.text ∧ d'.kids.map (gat (iterG ns (ns.length + 1))) = d.kids.map (gat (iterG ns (ns.length + 1))) := by
  have hi' : i.toNat < ns.length := by simp [inR] at hi; omega
  have e : gat (iterG ns (ns.length + 1)) i = (low (testK (iterG ns (ns.length + 1)) ns i.toNat) i.toNat i.toNat : Nat) := by
    conv => lhs; rw [← h2]
    show gat (stepG ns (iterG ns (ns.length + 1))) i = _
    simp only [gat, List.getD, stepG_at ns _ i.toNat hi', Option.getD_some]
  have hr := rep_is (testK (iterG ns (ns.length + 1)) ns) i.toNat (by simp [testK])
  have hle := low_le (testK (iterG ns (ns.length + 1)) ns i.toNat) i.toNat i.toNat (Nat.le_refl _)
  have h3 := hr.1
  simp only [testK, Bool.and_eq_true, decide_eq_true_eq] at h3
  rw [e]
  simp only [Int.toNat_natCast]
  generalize low (testK (iterG ns (ns.length + 1)) ns i.toNat) i.toNat i.toNat = r at *
  have hrl : r < ns.length := by omega
  have h4 := h3.2
  rw [hd, List.getElem?_eq_getElem hrl] at h4
  simp only [Option.map_some, Option.some.injEq, look, Nd.mk.injEq] at h4
  exact ⟨ns[r], List.getElem?_eq_getElem hrl, h4.1.symm, h4.2.1.symm, h4.2.2.symm⟩

theorem kidsG_rep (h2 : iterG ns (ns.length + 2) = iterG ns (ns.length + 1)) {i : Int} (hi : inR ns.length i = true) :
    kidsG ns (iterG ns (ns.length + 1)) (gat (iterG ns (ns.length + 1)) i) = (kidsAt ns i).map (gat (iterG ns (ns.length + 1))) := by
  have hi' : i.toNat < ns.length := by simp [inR] at hi; omega
  have hd := List.getElem?_eq_getElem hi'
  obtain ⟨d', h3, _, _, h4⟩ := rep_look h2 hi hd
  unfold kidsG kidsAt
  rw [h3, hd]
  exact h4

theorem same_in (hP : Parts ns C) {x y : Int} (hx : inR ns.length x = true) (hy : inR ns.length y = true) : gat C x = gat C y ↔ gat (iterG ns (ns.length + 1)) x = gat (iterG ns (ns.length + 1)) y := by
  simp [inR] at hx hy
  have := hP.2.1 x.toNat y.toNat (by omega) (by omega)
  rwa [Int.toNat_of_nonneg hx.1, Int.toNat_of_nonneg hy.1] at this
theorem mem_same (hP : Parts ns C) {x : Int} (hx : inR ns.length x = true) : ∀ (reps : List Int), (∀ y ∈ reps, inR ns.length y = true) → (gat C x ∈ reps.map (gat C) ↔ gat (iterG ns (ns.length + 1)) x ∈ reps.map (gat (iterG ns (ns.length + 1)))) := by
  intro reps hr
  simp only [List.mem_map]
  constructor
  · rintro ⟨y, hy, e⟩
    exact ⟨y, hy, (same_in hP (hr y hy) hx).1 e⟩
  · rintro ⟨y, hy, e⟩
    exact ⟨y, hy, (same_in hP (hr y hy) hx).2 e⟩
theorem idx_same (hP : Parts ns C) {x : Int} (hx : inR ns.length x = true) : ∀ (reps : List Int), (∀ y ∈ reps, inR ns.length y = true) → (reps.map (gat C)).idxOf (gat C x) = (reps.map (gat (iterG ns (ns.length + 1)))).idxOf (gat (iterG ns (ns.length + 1)) x)
  | [], _ => rfl
  | y :: reps, hr => by
    have ih := idx_same hP hx reps fun z hz => hr z (by simp [hz])
    have hs := same_in hP (hr y (by simp)) hx
    rw [List.map_cons, List.map_cons, List.idxOf_cons, List.idxOf_cons, ih]
    by_cases h : gat C y = gat C x
    · rw [show (gat C y == gat C x) = true by simpa using h, show (gat (iterG ns (ns.length + 1)) y == gat (iterG ns (ns.length + 1)) x) = true by simpa using hs.1 h]
    · rw [show (gat C y == gat C x) = false by simpa using h, show (gat (iterG ns (ns.length + 1)) y == gat (iterG ns (ns.length + 1)) x) = false by simpa using fun e => h (hs.2 e)]
theorem place_same (hP : Parts ns C) {x : Int} (hx : inR ns.length x = true) (reps : List Int) (hr : ∀ y ∈ reps, inR ns.length y = true) : placeI (reps.map (gat C)) (gat C x) = placeI (reps.map (gat (iterG ns (ns.length + 1)))) (gat (iterG ns (ns.length + 1)) x) := by
  unfold placeI
  by_cases h : gat C x ∈ reps.map (gat C)
  · rw [if_pos h, if_pos ((mem_same hP hx reps hr).1 h), idx_same hP hx reps hr]
  · rw [if_neg h, if_neg (fun e => h ((mem_same hP hx reps hr).2 e))]

theorem foldl_map_comm {f : List Int → Int → List Int} {g : List Int → Int → List Int} {φ : Int → Int} {I : List Int → Prop} (hI : ∀ o x, I o → inR ns.length x = true → I (f o x) ∧ (f o x).map φ = g (o.map φ) (φ x)) :
    ∀ (l o : List Int), I o → (∀ x ∈ l, inR ns.length x = true) → (l.foldl f o).map φ = (l.map φ).foldl g (o.map φ)
  | [], o, _, _ => rfl
  | x :: l, o, hO, hl => by
    have h1 := hI o x hO (hl x (by simp))
    rw [List.foldl_cons, List.map_cons, List.foldl_cons, foldl_map_comm hI l (f o x) h1.1 (fun y hy => hl y (by simp [hy])), h1.2]

theorem walk_same (hk : ∀ d ∈ ns, ∀ k ∈ d.kids, inR ns.length k = true) (hP : Parts ns C) : ∀ (f : Nat) (reps : List Int) (i : Int), GoodC ns.length C reps → inR ns.length i = true →
    (walkC ns C f reps i).map (gat (iterG ns (ns.length + 1))) = walkG ns (iterG ns (ns.length + 1)) f (reps.map (gat (iterG ns (ns.length + 1)))) (gat (iterG ns (ns.length + 1)) i) := by
  intro f
  induction f with
  | zero => intro reps i _ _; rfl
  | succ f ih =>
    intro reps i hg hi
    rw [walkC, walkG]
    by_cases h : gat C i ∈ reps.map (gat C)
    · rw [if_pos h, if_pos ((mem_same hP hi reps hg.2).1 h)]
    · rw [if_neg h, if_neg (fun e => h ((mem_same hP hi reps hg.2).2 e)), kidsG_rep hP.2.2 hi]
      have := foldl_map_comm (ns := ns) (f := walkC ns C f) (g := walkG ns (iterG ns (ns.length + 1)) f) (φ := gat (iterG ns (ns.length + 1))) (I := GoodC ns.length C)
        (fun o x ho hx => ⟨(walkC_good hk f o x ho hx).1, ih o x ho hx⟩) (kidsAt ns i) (reps ++ [i]) (hg.snoc hi h) (kidsAt_in hk i)
      rw [this]
      simp

theorem ord_same (hk : ∀ d ∈ ns, ∀ k ∈ d.kids, inR ns.length k = true) (hP : Parts ns C) (rs : List Int) (hr : ∀ x ∈ rs, inR ns.length x = true) :
    (rs.foldl (walkC ns C (ns.length + 1)) []).map (gat (iterG ns (ns.length + 1))) = ordG ns rs (iterG ns (ns.length + 1)) := by
  unfold ordG
  have := foldl_map_comm (ns := ns) (f := walkC ns C (ns.length + 1)) (g := walkG ns (iterG ns (ns.length + 1)) (ns.length + 1)) (φ := gat (iterG ns (ns.length + 1))) (I := GoodC ns.length C)
    (fun o x ho hx => ⟨(walkC_good hk _ o x ho hx).1, walk_same hk hP _ o x ho hx⟩) rs [] (GoodC.nil _ _) hr
  simpa using this

/-- The nodes that the program has laid are the reference's. -/
theorem nodes_same (hk : ∀ d ∈ ns, ∀ k ∈ d.kids, inR ns.length k = true) (hP : Parts ns C) (rs : List Int) (hr : ∀ x ∈ rs, inR ns.length x = true) (reps : List Int) (es : List Ent) (he : reps = rs.foldl (walkC ns C (ns.length + 1)) [])
    (hl : es.length = reps.length) (hs : Sem ns C (reps.map (gat C)) reps es) (hf : ∀ x ∈ es, x.2 ≠ none) :
    es.map Prod.fst = minNs ns (iterG ns (ns.length + 1)) (ordG ns rs (iterG ns (ns.length + 1))) := by
  have hgood : GoodC ns.length C reps := by
    rw [he]
    exact (foldC_good (walkC_good hk _) rs [] (GoodC.nil _ _) hr).1
  rw [← ord_same hk hP rs hr, ← he]
  unfold minNs
  apply List.ext_getElem?
  intro j
  rw [List.getElem?_map, List.getElem?_map, List.getElem?_map]
  by_cases hj : j < reps.length
  · have e1 := List.getElem?_eq_getElem hj
    have e2 := List.getElem?_eq_getElem (l := es) (i := j) (by omega)
    have hin := hgood.2 reps[j] (List.getElem_mem hj)
    obtain ⟨d, hd, h1, h2, h3⟩ := hs j reps[j] es[j] e1 e2
    obtain ⟨h4, h5⟩ := h3 (hf _ (List.getElem_mem _))
    obtain ⟨d', g1, g2, g3, g4⟩ := rep_look hP.2.2 hin hd
    rw [e1, e2]
    simp only [Option.map_some, Option.some.injEq]
    unfold minNd
    rw [g1]
    simp only
    rw [g2, g3, g4]
    have e3 : es[j].1 = ⟨es[j].1.sort, es[j].1.text, es[j].1.kids⟩ := rfl
    rw [e3, h1, h2, h4]
    congr 1
    rw [List.map_map, List.map_map]
    refine List.map_congr_left fun x hx => ?_
    exact place_same hP (hk d (List.mem_of_getElem? hd) x hx) reps hgood.2
  · rw [List.getElem?_eq_none (by omega), List.getElem?_eq_none (by omega)]
    rfl
theorem roots_same (hk : ∀ d ∈ ns, ∀ k ∈ d.kids, inR ns.length k = true) (hP : Parts ns C) (rs : List Int) (hr : ∀ x ∈ rs, inR ns.length x = true) (reps : List Int) (he : reps = rs.foldl (walkC ns C (ns.length + 1)) []) :
    (rs.map (gat C)).map (placeI (reps.map (gat C))) = minRs rs (iterG ns (ns.length + 1)) (ordG ns rs (iterG ns (ns.length + 1))) := by
  have hgood : GoodC ns.length C reps := by
    rw [he]
    exact (foldC_good (walkC_good hk _) rs [] (GoodC.nil _ _) hr).1
  rw [← ord_same hk hP rs hr, ← he]
  unfold minRs
  rw [List.map_map, List.map_map]
  exact List.map_congr_left fun x hx => place_same hP (hr x hx) reps hgood.2
end

/-! ### what the two guards ask -/
theorem allOk_of {ns : List Nd} {rs : List Int} : allOk ns rs = (plOk ns rs && ns.all fun d => cntOk d.sort d.kids.length) := by
  unfold allOk plOk kidsOk
  rw [Bool.eq_iff_iff]
  simp only [Bool.and_eq_true, List.all_eq_true]
  constructor
  · rintro ⟨h1, h2⟩
    exact ⟨⟨fun d hd => (h1 d hd).2, h2⟩, fun d hd => (h1 d hd).1⟩
  · rintro ⟨⟨h1, h2⟩, h3⟩
    exact ⟨fun d hd => ⟨h3 d hd, h1 d hd⟩, h2⟩
theorem cnt40 {s : Int} {n : Nat} (h : cntOk s n = true) : n ≤ 40 := by
  unfold cntOk at h
  split at h
  · have := of_decide_eq_true h; omega
  · split at h
    · exact of_decide_eq_true h
    · have := of_decide_eq_true h; omega
end Go.Proofs.YtjpkmcaogekkdaaDoor.Rm
