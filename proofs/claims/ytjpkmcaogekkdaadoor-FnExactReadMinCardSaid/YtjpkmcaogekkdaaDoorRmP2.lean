/- The program parts nodes as the reference groups them; plain lists. -/
import Derived.Test.YtjpkmcaogekkdaaDoorRmP
namespace Go.Proofs.YtjpkmcaogekkdaaDoor.Rm
open Go.RowKit
set_option linter.unusedVariables false
set_option linter.unusedSimpArgs false
set_option linter.unusedSectionVars false
set_option linter.unnecessarySimpa false

/-- the keys of round r -/
def keysI (ns : List Nd) : Nat → List (List UInt8)
  | 0 => ns.map key0
  | r + 1 => ns.map (keyC (clsOf (keysI ns r)))
def clsI (ns : List Nd) (r : Nat) : List Int := clsOf (keysI ns r)
def cntI (ns : List Nd) (r : Nat) : Nat := (firsts (keysI ns r)).length
theorem keysI_len (ns : List Nd) (r : Nat) : (keysI ns r).length = ns.length := by cases r <;> simp [keysI]
theorem clsI_len (ns : List Nd) (r : Nat) : (clsI ns r).length = ns.length := by rw [clsI, clsOf_len, keysI_len]

theorem gat_cls {α : Type} [DecidableEq α] (ks : List α) (i : Nat) (x : α) (h : ks[i]? = some x) : gat (clsOf ks) (i : Int) = (ixOf (firsts ks) x : Nat) := by
  simp [gat, clsOf, List.getD, h]
theorem cls_iff {α : Type} [DecidableEq α] (ks : List α) {i j : Nat} {x y : α} (h : ks[i]? = some x) (h' : ks[j]? = some y) : gat (clsOf ks) (i : Int) = gat (clsOf ks) (j : Int) ↔ x = y := by
  rw [gat_cls ks i x h, gat_cls ks j y h']
  exact clsOf_eq ks (List.mem_of_getElem? h)

theorem low_none (p : Nat → Bool) : ∀ (m cur : Nat), (∀ k, k < m → p k = false) → low p m cur = cur
  | 0, cur, _ => rfl
  | m + 1, cur, h => by
    rw [low, h m (by omega)]
    exact low_none p m cur fun k hk => h k (by omega)
theorem low_min (p : Nat → Bool) : ∀ (m cur : Nat), (∃ k, k < m ∧ p k = true) → p (low p m cur) = true ∧ low p m cur < m ∧ ∀ j, j < low p m cur → p j = false
  | 0, cur, ⟨k, hk, _⟩ => by omega
  | m + 1, cur, ⟨k, hk, hp⟩ => by
    rw [low]
    by_cases h : ∃ k, k < m ∧ p k = true
    · have := low_min p m (if p m = true then m else cur) h
      exact ⟨this.1, by omega, this.2.2⟩
    · have h0 : ∀ j, j < m → p j = false := fun j hj => by
        cases hj2 : p j
        · rfl
        · exact (h ⟨j, hj, hj2⟩).elim
      have hk : k = m := by
        by_cases hkm : k < m
        · exact (h ⟨k, hkm, hp⟩).elim
        · omega
      subst hk
      rw [hp, low_none p k _ h0]
      exact ⟨hp, by simp, h0⟩
theorem rep_is (E : Nat → Nat → Bool) (i : Nat) (hr : E i i = true) : E i (low (E i) i i) = true ∧ ∀ k, k < low (E i) i i → E i k = false := by
  by_cases h : ∃ k, k < i ∧ E i k = true
  · have := low_min (E i) i i h
    exact ⟨this.1, this.2.2⟩
  · have h0 : ∀ j, j < i → E i j = false := fun j hj => by
      cases hj2 : E i j
      · rfl
      · exact (h ⟨j, hj, hj2⟩).elim
    rw [low_none (E i) i i h0]
    exact ⟨hr, h0⟩
theorem rep_iff (E : Nat → Nat → Bool) (hr : ∀ i, E i i = true) (hs : ∀ i j, E i j = true → E j i = true) (ht : ∀ i j k, E i j = true → E j k = true → E i k = true) (i j : Nat) :
    low (E i) i i = low (E j) j j ↔ E i j = true := by
  obtain ⟨a1, a2⟩ := rep_is E i (hr i)
  obtain ⟨b1, b2⟩ := rep_is E j (hr j)
  constructor
  · intro h
    rw [h] at a1
    exact ht _ _ _ a1 (hs _ _ b1)
  · intro h
    rcases Nat.lt_trichotomy (low (E i) i i) (low (E j) j j) with hl | hl | hl
    · have := b2 _ hl
      rw [ht _ _ _ (hs _ _ h) a1] at this
      cases this
    · exact hl
    · have := a2 _ hl
      rw [ht _ _ _ h b1] at this
      cases this

theorem test_rep (G : List Int) (ns : List Nd) (i j : Nat) : low (testK G ns i) i i = low (testK G ns j) j j ↔ testK G ns i j = true := by
  refine rep_iff (testK G ns) (fun i => by simp [testK]) (fun i j h => ?_) (fun i j k h h' => ?_) i j
  · simp only [testK, Bool.and_eq_true, decide_eq_true_eq] at h ⊢
    exact ⟨h.1.symm, h.2.symm⟩
  · simp only [testK, Bool.and_eq_true, decide_eq_true_eq] at h h' ⊢
    exact ⟨h.1.trans h'.1, h.2.trans h'.2⟩
theorem step_iff (ns : List Nd) (G : List Int) (i j : Nat) (hi : i < ns.length) (hj : j < ns.length) : gat (stepG ns G) (i : Int) = gat (stepG ns G) (j : Int) ↔ testK G ns i j = true := by
  rw [← test_rep]
  have h1 := stepG_at ns G i hi
  have h2 := stepG_at ns G j hj
  simp only [gat, List.getD, Int.toNat_natCast, h1, h2, Option.getD_some]
  omega

theorem map_coarser {C D : List Int} {n : Nat} (h : ∀ i j : Nat, i < n → j < n → gat C (i : Int) = gat C (j : Int) → gat D (i : Int) = gat D (j : Int)) :
    ∀ (ks ls : List Int), (∀ k ∈ ks, inR n k = true) → (∀ k ∈ ls, inR n k = true) → ks.map (gat C) = ls.map (gat C) → ks.map (gat D) = ls.map (gat D)
  | [], [], _, _, _ => rfl
  | [], l :: ls, _, _, e => by simp at e
  | k :: ks, [], _, _, e => by simp at e
  | k :: ks, l :: ls, h1, h2, e => by
    simp only [List.map_cons, List.cons.injEq] at e ⊢
    refine ⟨?_, map_coarser h ks ls (fun x hx => h1 x (by simp [hx])) (fun x hx => h2 x (by simp [hx])) e.2⟩
    have hk := h1 k (by simp)
    have hl := h2 l (by simp)
    simp [inR] at hk hl
    have := h k.toNat l.toNat (by omega) (by omega)
    rw [Int.toNat_of_nonneg hk.1, Int.toNat_of_nonneg hl.1] at this
    exact this e.1

section
variable {ns : List Nd} (hk : ∀ d ∈ ns, ∀ k ∈ d.kids, inR ns.length k = true)
include hk
theorem look_coarser {C D : List Int} (h : ∀ i j : Nat, i < ns.length → j < ns.length → gat C (i : Int) = gat C (j : Int) → gat D (i : Int) = gat D (j : Int)) {i j : Nat} (hi : i < ns.length) (hj : j < ns.length)
    (e : ns[i]?.map (look C) = ns[j]?.map (look C)) : ns[i]?.map (look D) = ns[j]?.map (look D) := by
  rw [List.getElem?_eq_getElem hi, List.getElem?_eq_getElem hj] at e ⊢
  simp only [Option.map_some, Option.some.injEq, look, Nd.mk.injEq] at e ⊢
  exact ⟨e.1, e.2.1, map_coarser h _ _ (hk _ (List.getElem_mem hi)) (hk _ (List.getElem_mem hj)) e.2.2⟩

theorem test_look (r : Nat) : ∀ (i j : Nat), i < ns.length → j < ns.length → (testK (iterG ns r) ns i j = true ↔ ns[i]?.map (look (iterG ns r)) = ns[j]?.map (look (iterG ns r))) := by
  induction r with
  | zero =>
    intro i j hi hj
    simp only [testK, Bool.and_eq_true, decide_eq_true_eq]
    have : ∀ i : Nat, gat (iterG ns 0) (i : Int) = 0 := fun i => by
      simp only [gat, iterG, List.getD, Int.toNat_natCast, List.getElem?_replicate]
      split <;> rfl
    rw [this, this]
    simp
  | succ r ih =>
    intro i j hi hj
    simp only [testK, Bool.and_eq_true, decide_eq_true_eq]
    refine ⟨fun h => h.2, fun h => ⟨?_, h⟩⟩
    rw [iterG, step_iff ns _ i j hi hj, ih i j hi hj]
    refine look_coarser hk (fun a b ha hb e => ?_) hi hj h
    rw [iterG, step_iff ns _ a b ha hb] at e
    simp only [testK, Bool.and_eq_true, decide_eq_true_eq] at e
    exact e.1

theorem iter_iff (r i j : Nat) (hi : i < ns.length) (hj : j < ns.length) : gat (iterG ns (r + 1)) (i : Int) = gat (iterG ns (r + 1)) (j : Int) ↔ ns[i]?.map (look (iterG ns r)) = ns[j]?.map (look (iterG ns r)) := by
  rw [iterG, step_iff ns _ i j hi hj]
  exact test_look hk r i j hi hj

/-- The program's classes of round r part the nodes as the reference's groups of round r + 1. -/
theorem cls_iter (r : Nat) : ∀ i j : Nat, i < ns.length → j < ns.length → (gat (clsI ns r) (i : Int) = gat (clsI ns r) (j : Int) ↔ gat (iterG ns (r + 1)) (i : Int) = gat (iterG ns (r + 1)) (j : Int)) := by
  induction r with
  | zero =>
    intro i j hi hj
    rw [iter_iff hk 0 i j hi hj]
    have e1 : (keysI ns 0)[i]? = some (key0 ns[i]) := by rw [keysI, List.getElem?_map, List.getElem?_eq_getElem hi]; rfl
    have e2 : (keysI ns 0)[j]? = some (key0 ns[j]) := by rw [keysI, List.getElem?_map, List.getElem?_eq_getElem hj]; rfl
    rw [clsI, cls_iff _ e1 e2, key0_iff, List.getElem?_eq_getElem hi, List.getElem?_eq_getElem hj]
    simp only [Option.map_some, Option.some.injEq, look, Nd.mk.injEq]
    have hz : ∀ ks : List Int, ks.map (gat (iterG ns 0)) = List.replicate ks.length 0 := fun ks => by
      rw [List.eq_replicate_iff]
      refine ⟨by simp, fun b hb => ?_⟩
      obtain ⟨k, _, rfl⟩ := List.mem_map.1 hb
      simp only [gat, iterG, List.getD, List.getElem?_replicate]
      split <;> rfl
    rw [hz, hz]
    constructor
    · rintro ⟨h1, h2, h3⟩
      exact ⟨h1, h2, by rw [h3]⟩
    · rintro ⟨h1, h2, h3⟩
      refine ⟨h1, h2, ?_⟩
      have := congrArg List.length h3
      rwa [List.length_replicate, List.length_replicate] at this
  | succ r ih =>
    intro i j hi hj
    rw [iter_iff hk (r + 1) i j hi hj]
    have e1 : (keysI ns (r + 1))[i]? = some (keyC (clsI ns r) ns[i]) := by rw [keysI, List.getElem?_map, List.getElem?_eq_getElem hi]; rfl
    have e2 : (keysI ns (r + 1))[j]? = some (keyC (clsI ns r) ns[j]) := by rw [keysI, List.getElem?_map, List.getElem?_eq_getElem hj]; rfl
    rw [clsI, cls_iff _ e1 e2, keyC_iff]
    have : (ns[i].sort = ns[j].sort ∧ ns[i].text = ns[j].text ∧ ns[i].kids.map (gat (clsI ns r)) = ns[j].kids.map (gat (clsI ns r))) ↔ ns[i]?.map (look (clsI ns r)) = ns[j]?.map (look (clsI ns r)) := by
      rw [List.getElem?_eq_getElem hi, List.getElem?_eq_getElem hj]
      simp only [Option.map_some, Option.some.injEq, look, Nd.mk.injEq]
    rw [this]
    exact ⟨look_coarser hk (fun a b ha hb => (ih a b ha hb).1) hi hj, look_coarser hk (fun a b ha hb => (ih a b ha hb).2) hi hj⟩

theorem cls_finer (r : Nat) (i j : Nat) (hi : i < ns.length) (hj : j < ns.length) (h : gat (clsI ns (r + 1)) (i : Int) = gat (clsI ns (r + 1)) (j : Int)) : gat (clsI ns r) (i : Int) = gat (clsI ns r) (j : Int) := by
  rw [cls_iter hk r i j hi hj]
  rw [cls_iter hk (r + 1) i j hi hj, iterG, step_iff ns _ i j hi hj] at h
  simp only [testK, Bool.and_eq_true, decide_eq_true_eq] at h
  exact h.1

theorem cnt_news (r : Nat) : cntI ns r = news (fun i => gat (clsI ns r) (i : Int)) ns.length := by
  have h := firsts_news (keysI ns r) (fun i => (keysI ns r).getD i []) (fun i h => by simp [List.getD, h]) ns.length (by rw [keysI_len]; exact Nat.le_refl _)
  rw [List.take_of_length_le (by rw [keysI_len]; exact Nat.le_refl _)] at h
  rw [cntI, h]
  have key : ∀ m, m ≤ ns.length → news (fun i => (keysI ns r).getD i []) m = news (fun i => gat (clsI ns r) (i : Int)) m := by
    intro m
    induction m with
    | zero => intro _; rfl
    | succ m ih =>
      intro hm
      rw [news, news, ih (by omega)]
      congr 1
      have : (∃ j, j < m ∧ (keysI ns r).getD j [] = (keysI ns r).getD m []) ↔ (∃ j, j < m ∧ gat (clsI ns r) (j : Int) = gat (clsI ns r) (m : Int)) := by
        have e : ∀ j, j < ns.length → (keysI ns r)[j]? = some ((keysI ns r).getD j []) := fun j hj => by
          rw [← keysI_len ns r] at hj
          simp [List.getD, hj]
        constructor
        · rintro ⟨j, hj, he⟩
          exact ⟨j, hj, (cls_iff _ (e j (by omega)) (e m (by omega))).2 he⟩
        · rintro ⟨j, hj, he⟩
          exact ⟨j, hj, (cls_iff _ (e j (by omega)) (e m (by omega))).1 he⟩
      simp only [this]
  exact key _ (Nat.le_refl _)

theorem cnt_le (r : Nat) : cntI ns r ≤ ns.length := by
  rw [cnt_news hk]
  exact news_le _ _
theorem cnt_mono (r : Nat) : cntI ns r ≤ cntI ns (r + 1) := by
  rw [cnt_news hk, cnt_news hk]
  exact (news_finer _ _ _ fun i j hi hj => cls_finer hk r i j hi hj).1
theorem cnt_stop (r : Nat) (h : cntI ns (r + 1) = cntI ns r) : ∀ i j : Nat, i < ns.length → j < ns.length → (gat (clsI ns (r + 1)) (i : Int) = gat (clsI ns (r + 1)) (j : Int) ↔ gat (clsI ns r) (i : Int) = gat (clsI ns r) (j : Int)) := by
  rw [cnt_news hk, cnt_news hk] at h
  intro i j hi hj
  exact ⟨cls_finer hk r i j hi hj, same_of_news _ _ _ (fun i j hi hj => cls_finer hk r i j hi hj) h.symm i j hi hj⟩

theorem iter_stop (r : Nat) (h : cntI ns (r + 1) = cntI ns r) : iterG ns (r + 3) = iterG ns (r + 2) := by
  have h1 := cnt_stop hk r h
  have h2 : ∀ i j : Nat, i < ns.length → j < ns.length → (gat (iterG ns (r + 2)) (i : Int) = gat (iterG ns (r + 2)) (j : Int) ↔ gat (iterG ns (r + 1)) (i : Int) = gat (iterG ns (r + 1)) (j : Int)) := fun i j hi hj => by
    rw [← cls_iter hk r i j hi hj, ← cls_iter hk (r + 1) i j hi hj]
    exact h1 i j hi hj
  show stepG ns (iterG ns (r + 2)) = stepG ns (iterG ns (r + 1))
  unfold stepG
  refine List.map_congr_left fun i hi => ?_
  have hi := List.mem_range.1 hi
  have : ∀ k, k < i → testK (iterG ns (r + 2)) ns i k = testK (iterG ns (r + 1)) ns i k := fun k hk' => by
    rw [Bool.eq_iff_iff, test_look hk (r + 2) i k hi (by omega), test_look hk (r + 1) i k hi (by omega)]
    exact ⟨look_coarser hk (fun a b ha hb => (h2 a b ha hb).1) hi (by omega), look_coarser hk (fun a b ha hb => (h2 a b ha hb).2) hi (by omega)⟩
  have lc : ∀ m cur, m ≤ i → low (testK (iterG ns (r + 2)) ns i) m cur = low (testK (iterG ns (r + 1)) ns i) m cur := by
    intro m
    induction m with
    | zero => intro _ _; rfl
    | succ m ih =>
      intro cur hm
      rw [low, low, this m (by omega), ih _ (by omega)]
  rw [lc i i (Nat.le_refl _)]

/-- What the program's classes say where they stop. -/
def Parts (ns : List Nd) (C : List Int) : Prop := C.length = ns.length ∧ (∀ i j : Nat, i < ns.length → j < ns.length → (gat C (i : Int) = gat C (j : Int) ↔ gat (iterG ns (ns.length + 1)) (i : Int) = gat (iterG ns (ns.length + 1)) (j : Int))) ∧ iterG ns (ns.length + 2) = iterG ns (ns.length + 1)

theorem parts_stop (r : Nat) (h : cntI ns (r + 1) = cntI ns r) (hr : r + 1 ≤ ns.length) : Parts ns (clsI ns (r + 1)) := by
  have h1 := iter_stop hk r h
  have h2 : ∀ m, r + 2 ≤ m → iterG ns m = iterG ns (r + 2) := iterG_fix h1
  refine ⟨clsI_len _ _, fun i j hi hj => ?_, ?_⟩
  · rw [cls_iter hk (r + 1) i j hi hj, h2 (ns.length + 1) (by omega)]
  · rw [h2 (ns.length + 1) (by omega), h2 (ns.length + 2) (by omega)]
end
theorem iter_nil (r : Nat) : iterG [] r = [] := List.length_eq_zero_iff.1 (iterG_len [] r)
theorem parts_nil : Parts [] [] := ⟨rfl, fun i j hi => by simp at hi, by rw [iter_nil, iter_nil]⟩
theorem cnt_pos {ns : List Nd} (h : ns ≠ []) (r : Nat) : 1 ≤ cntI ns r := by
  have h1 : keysI ns r ≠ [] := fun e => by
    have := keysI_len ns r
    rw [e] at this
    exact h (List.length_eq_zero_iff.1 this.symm)
  obtain ⟨x, hx⟩ := List.exists_mem_of_ne_nil _ h1
  have := (mem_firsts (keysI ns r) x).2 hx
  exact List.length_pos_of_mem this
end Go.Proofs.YtjpkmcaogekkdaaDoor.Rm
