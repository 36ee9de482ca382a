/- The reference ReadMin's data are closed under their parts: plain law, no program in sight. -/
import Derived.Test.YtjpkmcaogekkdaaDoorRmK2
namespace Go.Proofs.YtjpkmcaogekkdaaDoor.Rm
open Go.RowKit
set_option linter.unusedVariables false
set_option linter.unusedSimpArgs false

/-- what a walk adds to an order has its parts in what comes out -/
def Clo (ns : List Nd) (G : List Int) (o R : List Int) : Prop := ∀ y ∈ R, y ∉ o → ∀ x ∈ kidsG ns G y, x ∈ R

theorem fold_clo {ns : List Nd} {G : List Int} {n f : Nat} {w : List Int → Int → List Int} (hg : ∀ o g, Good n o → inR n g = true → Good n (w o g) ∧ o <+: w o g)
    (hw : ∀ o g, Good n o → inR n g = true → n + 1 ≤ o.length + f → g ∈ w o g ∧ Clo ns G o (w o g)) :
    ∀ (l : List Int) (o : List Int), Good n o → (∀ x ∈ l, inR n x = true) → n + 1 ≤ o.length + f → (∀ x ∈ l, x ∈ l.foldl w o) ∧ Clo ns G o (l.foldl w o) := by
  intro l
  induction l with
  | nil => exact fun o h _ _ => ⟨by simp, fun y hy hn => absurd hy hn⟩
  | cons x l ih =>
    intro o h hl hf
    have h1 := hg o x h (hl x (by simp))
    have h2 := hw o x h (hl x (by simp)) hf
    have hle := h1.2.length_le
    have hl' : ∀ y ∈ l, inR n y = true := fun y hy => hl y (by simp [hy])
    have h3 := ih (w o x) h1.1 hl' (by omega)
    have h4 := (fold_good hg l (w o x) h1.1 hl').2
    refine ⟨fun y hy => ?_, fun y hy hn z hz => ?_⟩
    · rcases List.mem_cons.1 hy with rfl | hy
      · exact h4.subset h2.1
      · exact h3.1 y hy
    · by_cases hy1 : y ∈ w o x
      · exact h4.subset (h2.2 y hy1 hn z hz)
      · exact h3.2 y hy hy1 z hz

theorem walkG_clo {ns : List Nd} {G : List Int} (hGl : G.length = ns.length) (hG : ∀ x ∈ G, inR ns.length x = true) (hk : ∀ d ∈ ns, ∀ k ∈ d.kids, inR ns.length k = true) :
    ∀ (f : Nat) (o : List Int) (g : Int), Good ns.length o → inR ns.length g = true → ns.length + 1 ≤ o.length + f → g ∈ walkG ns G f o g ∧ Clo ns G o (walkG ns G f o g) := by
  intro f
  induction f with
  | zero => intro o g h _ hl; have := h.le; omega
  | succ f ih =>
    intro o g h hg hl
    unfold walkG
    split
    · next hin => exact ⟨hin, fun y hy hn => absurd hy hn⟩
    · next hn =>
      have hs := h.snoc hg hn
      have hki := kidsG_in hGl hG hk g
      have hln : (o ++ [g]).length = o.length + 1 := by simp
      have h1 := fold_clo (walkG_good hGl hG hk f) ih (kidsG ns G g) (o ++ [g]) hs hki (by omega)
      have h2 := (fold_good (walkG_good hGl hG hk f) (kidsG ns G g) (o ++ [g]) hs hki).2
      refine ⟨h2.subset (by simp), fun y hy hny z hz => ?_⟩
      by_cases hyg : y = g
      · subst hyg
        exact h1.1 z hz
      · exact h1.2 y hy (by simp [hny, hyg]) z hz

theorem placeI_in {order : List Int} {x : Int} (h : x ∈ order) : inR order.length (placeI order x) = true := by
  have h1 : order.idxOf x < order.length := List.idxOf_lt_length_iff.2 h
  unfold placeI
  rw [if_pos h]
  simp [inR]
  omega

/-- the data of the specification: closed, with the sorts and texts of the data that came in -/
theorem spec_closed (ns : List Nd) (rs : List Int) (h : allOk ns rs = true) :
    (∀ d ∈ specNs ns rs, kidsOk (specNs ns rs).length d = true) ∧ (∀ d ∈ specNs ns rs, ∃ e ∈ ns, d.sort = e.sort ∧ d.text = e.text) ∧ (∀ r ∈ specRs ns rs, inR (specNs ns rs).length r = true) ∧ (specNs ns rs).length ≤ ns.length ∧ (specRs ns rs).length = rs.length := by
  have h' := h
  rw [allOk, Bool.and_eq_true, List.all_eq_true, List.all_eq_true] at h'
  obtain ⟨ha, hr⟩ := h'
  have hk : ∀ d ∈ ns, ∀ k ∈ d.kids, inR ns.length k = true := fun d hd k hk => by
    have h1 := ha d hd
    simp only [kidsOk, Bool.and_eq_true, List.all_eq_true] at h1
    exact h1.2 k hk
  have hGl := iterG_len ns (ns.length + 1)
  have hGi := iterG_in ns (ns.length + 1)
  unfold specNs specRs
  rw [if_pos h, if_pos h]
  generalize iterG ns (ns.length + 1) = G at *
  have hrl : ∀ x ∈ rs.map (gat G), inR ns.length x = true := fun y hy => by
    obtain ⟨z, hz, rfl⟩ := List.mem_map.1 hy
    have h2 := hr z hz
    rw [← hGl] at h2
    exact hGi _ (List.mem_of_getElem? (gat_some h2).1)
  have hg0 : Good ns.length [] := ⟨List.nodup_nil, fun g hg => by simp at hg⟩
  have h1 := fold_good (walkG_good hGl hGi hk (ns.length + 1)) (rs.map (gat G)) [] hg0 hrl
  have h2 := fold_clo (walkG_good hGl hGi hk (ns.length + 1)) (walkG_clo hGl hGi hk (ns.length + 1)) (rs.map (gat G)) [] hg0 hrl (by simp)
  have hO : ordG ns rs G = (rs.map (gat G)).foldl (walkG ns G (ns.length + 1)) [] := rfl
  rw [← hO] at h1 h2
  generalize ordG ns rs G = ord at *
  have hml : (minNs ns G ord).length = ord.length := by simp [minNs]
  have key : ∀ d ∈ minNs ns G ord, ∃ e ∈ ns, d = ⟨e.sort, e.text, (e.kids.map (gat G)).map (placeI ord)⟩ ∧ ∀ k ∈ e.kids, gat G k ∈ ord := fun d hd => by
    obtain ⟨g, hg, rfl⟩ := List.mem_map.1 hd
    have hgi := h1.1.2 g hg
    have hc := h2.2 g hg (by simp)
    simp only [inR, Bool.and_eq_true, decide_eq_true_eq] at hgi
    have hgl : g.toNat < ns.length := by omega
    have he : ns[g.toNat]? = some ns[g.toNat] := List.getElem?_eq_getElem hgl
    refine ⟨ns[g.toNat], List.getElem_mem hgl, by simp [minNd, he], fun k hk' => hc _ ?_⟩
    rw [kidsG, he]
    exact List.mem_map_of_mem hk'
  refine ⟨fun d hd => ?_, fun d hd => ?_, fun r hr' => ?_, ?_, ?_⟩
  · obtain ⟨e, he, rfl, hin⟩ := key d hd
    have h3 := ha e he
    rw [kidsOk, Bool.and_eq_true] at h3 ⊢
    refine ⟨?_, ?_⟩
    · simpa using h3.1
    · rw [List.all_eq_true]
      intro x hx
      obtain ⟨y, hy, rfl⟩ := List.mem_map.1 hx
      obtain ⟨z, hz, rfl⟩ := List.mem_map.1 hy
      rw [hml]
      exact placeI_in (hin z hz)
  · obtain ⟨e, he, rfl, _⟩ := key d hd
    exact ⟨e, he, rfl, rfl⟩
  · obtain ⟨y, hy, rfl⟩ := List.mem_map.1 hr'
    rw [hml]
    exact placeI_in (h2.1 y hy)
  · rw [hml]
    exact h1.1.le
  · simp [minRs]
end Go.Proofs.YtjpkmcaogekkdaaDoor.Rm
