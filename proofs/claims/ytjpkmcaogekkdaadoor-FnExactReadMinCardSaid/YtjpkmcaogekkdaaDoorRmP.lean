/- Plain lists: the keys by which the program parts nodes into classes, the classes, and that they part the nodes as the reference's groups do. No program in sight. -/
import Derived.Test.YtjpkmcaogekkdaaDoorRmK2
import Derived.Lib.ItoaLen
namespace Go.Proofs.YtjpkmcaogekkdaaDoor.Rm
open Go.RowKit
set_option linter.unusedVariables false
set_option linter.unusedSimpArgs false

/-! ### numerals -/
def dval (l : List UInt8) : Nat := l.foldl (fun a b => a * 10 + (b.toNat - 48)) 0
theorem ofNat_digit (d : Nat) (h : d < 10) : (UInt8.ofNat (48 + d)).toNat = 48 + d := by
  rw [UInt8.toNat_ofNat']
  omega
theorem dval_dec (u : Nat) : dval (Lib.decDigits u) = u := by
  induction u using Nat.strongRecOn with
  | _ u ih =>
    by_cases h : u < 10
    · rw [Lib.decDigits, dif_pos h]
      show 0 * 10 + ((UInt8.ofNat (48 + u)).toNat - 48) = u
      rw [ofNat_digit u h]
      omega
    · rw [Lib.decDigits, dif_neg h]
      have := ih (u / 10) (by omega)
      rw [dval, List.foldl_append]
      simp only [List.foldl_cons, List.foldl_nil]
      unfold dval at this
      rw [this, ofNat_digit _ (Nat.mod_lt _ (by omega))]
      omega
theorem dec_mem (u : Nat) : ∀ b ∈ Lib.decDigits u, 48 ≤ b.toNat ∧ b.toNat ≤ 57 := by
  induction u using Nat.strongRecOn with
  | _ u ih =>
    intro b hb
    by_cases h : u < 10
    · rw [Lib.decDigits, dif_pos h, List.mem_singleton] at hb
      rw [hb, ofNat_digit u h]
      omega
    · rw [Lib.decDigits, dif_neg h, List.mem_append] at hb
      rcases hb with hb | hb
      · exact ih (u / 10) (by omega) b hb
      · simp only [List.mem_singleton] at hb
        have := Nat.mod_lt u (show 10 > 0 by omega)
        rw [hb, ofNat_digit _ this]
        omega
theorem dec_inj {u v : Nat} (h : Lib.decDigits u = Lib.decDigits v) : u = v := by
  rw [← dval_dec u, h, dval_dec]
theorem itoa_inj {n m : Int} (h : Lib.itoa n = Lib.itoa m) : n = m := by
  have key : ∀ (a : List UInt8) (u : Nat), 45 :: a = Lib.decDigits u → False := fun a u h => by
    have := dec_mem u 45 (by rw [← h]; simp)
    simp at this
  unfold Lib.itoa at h
  split at h <;> split at h
  · have := dec_inj (List.cons.inj h).2
    omega
  · exact (key _ _ h).elim
  · exact (key _ _ h.symm).elim
  · have := dec_inj h
    omega
theorem itoa_no32 (n : Int) : (32 : UInt8) ∉ Lib.itoa n := by
  intro h
  unfold Lib.itoa at h
  split at h
  · rcases List.mem_cons.1 h with h | h
    · simp at h
    · have := dec_mem _ _ h
      simp at this
  · have := dec_mem _ _ h
    simp at this

/-! ### keys -/
def key0 (d : Nd) : List UInt8 := Lib.itoa d.sort ++ 32 :: (Lib.itoa d.text.size ++ 32 :: (d.text.data.toList ++ 32 :: Lib.itoa d.kids.length))
def kidKey (C : List Int) (ks : List Int) : List UInt8 := (ks.map fun k => 32 :: Lib.itoa (gat C k)).flatten
def keyC (C : List Int) (d : Nd) : List UInt8 := key0 d ++ kidKey C d.kids

theorem split32 : ∀ (a b x y : List UInt8), (32 : UInt8) ∉ a → (32 : UInt8) ∉ b → a ++ 32 :: x = b ++ 32 :: y → a = b ∧ x = y
  | [], [], x, y, _, _, h => by simpa using h
  | [], c :: b, x, y, _, hb, h => by
    simp at h
    exact (hb (by simp [h.1])).elim
  | c :: a, [], x, y, ha, _, h => by
    simp at h
    exact (ha (by simp [h.1])).elim
  | c :: a, e :: b, x, y, ha, hb, h => by
    simp only [List.cons_append, List.cons.injEq] at h
    have := split32 a b x y (fun h => ha (by simp [h])) (fun h => hb (by simp [h])) h.2
    exact ⟨by rw [h.1, this.1], this.2⟩
/-- empty, or a blank first -/
def Bl (x : List UInt8) : Prop := x = [] ∨ ∃ r, x = 32 :: r
theorem splitB {a b x y : List UInt8} (ha : (32 : UInt8) ∉ a) (hb : (32 : UInt8) ∉ b) (hx : Bl x) (hy : Bl y) (h : a ++ x = b ++ y) : a = b ∧ x = y := by
  rcases hx with rfl | ⟨x, rfl⟩ <;> rcases hy with rfl | ⟨y, rfl⟩
  · simpa using h
  · rw [List.append_nil] at h
    exact (ha (by rw [h]; simp)).elim
  · rw [List.append_nil] at h
    exact (hb (by rw [← h]; simp)).elim
  · obtain ⟨h1, h2⟩ := split32 a b x y ha hb h
    exact ⟨h1, by rw [h2]⟩
theorem kidKey_bl (C ks : List Int) : Bl (kidKey C ks) := by
  cases ks with
  | nil => exact .inl rfl
  | cons k ks => exact .inr ⟨_, rfl⟩
theorem kidKey_inj (C : List Int) : ∀ (ks ls : List Int), kidKey C ks = kidKey C ls → ks.map (gat C) = ls.map (gat C)
  | [], [], _ => rfl
  | [], l :: ls, h => by simp [kidKey] at h
  | k :: ks, [], h => by simp [kidKey] at h
  | k :: ks, l :: ls, h => by
    have h' : Lib.itoa (gat C k) ++ kidKey C ks = Lib.itoa (gat C l) ++ kidKey C ls := by
      simpa [kidKey] using h
    obtain ⟨h1, h2⟩ := splitB (itoa_no32 _) (itoa_no32 _) (kidKey_bl _ _) (kidKey_bl _ _) h'
    rw [List.map_cons, List.map_cons, kidKey_inj C ks ls h2, itoa_inj h1]
theorem text_ext {a b : ByteArray} (h : a.data.toList = b.data.toList) : a = b := by
  cases a; cases b; simp_all

theorem keyTail {d e : Nd} {x y : List UInt8} (hx : Bl x) (hy : Bl y) (h : key0 d ++ x = key0 e ++ y) : d.sort = e.sort ∧ d.text = e.text ∧ d.kids.length = e.kids.length ∧ x = y := by
  unfold key0 at h
  simp only [List.append_assoc, List.cons_append] at h
  obtain ⟨h1, h2⟩ := split32 _ _ _ _ (itoa_no32 _) (itoa_no32 _) h
  obtain ⟨h3, h4⟩ := split32 _ _ _ _ (itoa_no32 _) (itoa_no32 _) h2
  have h5 := itoa_inj h3
  have h6 : d.text.data.toList.length = e.text.data.toList.length := by
    have h6 : d.text.size = e.text.size := by omega
    exact h6
  have h7 := List.append_inj h4 h6
  have h8 := (List.cons.inj h7.2).2
  obtain ⟨h9, h10⟩ := splitB (itoa_no32 _) (itoa_no32 _) hx hy h8
  have h11 := itoa_inj h9
  exact ⟨itoa_inj h1, text_ext h7.1, by omega, h10⟩
theorem key0_iff (d e : Nd) : key0 d = key0 e ↔ d.sort = e.sort ∧ d.text = e.text ∧ d.kids.length = e.kids.length := by
  constructor
  · intro h
    have := keyTail (d := d) (e := e) (x := []) (y := []) (.inl rfl) (.inl rfl) (by simpa using h)
    exact ⟨this.1, this.2.1, this.2.2.1⟩
  · rintro ⟨h1, h2, h3⟩
    unfold key0
    rw [h1, h2, h3]
theorem keyC_iff (C : List Int) (d e : Nd) : keyC C d = keyC C e ↔ d.sort = e.sort ∧ d.text = e.text ∧ d.kids.map (gat C) = e.kids.map (gat C) := by
  constructor
  · intro h
    have := keyTail (kidKey_bl _ _) (kidKey_bl _ _) h
    exact ⟨this.1, this.2.1, kidKey_inj C _ _ this.2.2.2⟩
  · rintro ⟨h1, h2, h3⟩
    have h4 : d.kids.length = e.kids.length := by have := congrArg List.length h3; rwa [List.length_map, List.length_map] at this
    unfold keyC
    rw [(key0_iff d e).2 ⟨h1, h2, h4⟩]
    congr 1
    have : ∀ ks, kidKey C ks = ((ks.map (gat C)).map fun g => 32 :: Lib.itoa g).flatten := fun ks => by rw [kidKey, List.map_map]; rfl
    rw [this, this, h3]

/-! ### the distinct ones, in order -/
section
variable {α : Type} [DecidableEq α]
def addNew (acc : List α) (k : α) : List α := if k ∈ acc then acc else acc ++ [k]
def firsts (ks : List α) : List α := ks.foldl addNew []
theorem firsts_snoc (ks : List α) (k : α) : firsts (ks ++ [k]) = addNew (firsts ks) k := by
  simp [firsts, List.foldl_append]
theorem addNew_prefix (acc : List α) (k : α) : acc <+: addNew acc k := by
  unfold addNew
  split
  · exact List.prefix_rfl
  · exact List.prefix_append _ _
theorem foldl_addNew_prefix : ∀ (ks acc : List α), acc <+: ks.foldl addNew acc
  | [], acc => List.prefix_rfl
  | k :: ks, acc => (addNew_prefix acc k).trans (foldl_addNew_prefix ks _)
theorem firsts_take (ks : List α) (i : Nat) : firsts (ks.take i) <+: firsts ks := by
  have : firsts ks = (ks.drop i).foldl addNew (firsts (ks.take i)) := by
    rw [firsts, firsts, ← List.foldl_append, List.take_append_drop]
  rw [this]
  exact foldl_addNew_prefix _ _
theorem mem_foldl_addNew : ∀ (ks acc : List α) (x : α), x ∈ ks.foldl addNew acc ↔ x ∈ acc ∨ x ∈ ks
  | [], acc, x => by simp
  | k :: ks, acc, x => by
    rw [List.foldl_cons, mem_foldl_addNew ks]
    unfold addNew
    split
    · next h =>
      simp only [List.mem_cons]
      constructor
      · rintro (h | h)
        · exact .inl h
        · exact .inr (.inr h)
      · rintro (h1 | h1 | h1)
        · exact .inl h1
        · exact .inl (h1 ▸ h)
        · exact .inr h1
    · simp only [List.mem_append, List.mem_cons, List.not_mem_nil, or_false]
      constructor
      · rintro ((h | h) | h)
        · exact .inl h
        · exact .inr (.inl h)
        · exact .inr (.inr h)
      · rintro (h | h | h)
        · exact .inl (.inl h)
        · exact .inl (.inr h)
        · exact .inr h
theorem mem_firsts (ks : List α) (x : α) : x ∈ firsts ks ↔ x ∈ ks := by
  rw [firsts, mem_foldl_addNew]
  simp
theorem idxOf_prefix {a b : List α} {x : α} (h : a <+: b) (hx : x ∈ a) : b.idxOf x = a.idxOf x := by
  obtain ⟨c, rfl⟩ := h
  rw [List.idxOf_append, if_pos hx]
/-- where x stands -/
def ixOf (l : List α) (x : α) : Nat := l.idxOf x
/-- the number of each one's class -/
def clsOf (ks : List α) : List Int := ks.map fun k => ((ixOf (firsts ks) k : Nat) : Int)
theorem clsOf_len (ks : List α) : (clsOf ks).length = ks.length := by simp [clsOf]
theorem idxOf_inj {l : List α} {x y : α} (hx : x ∈ l) (h : l.idxOf x = l.idxOf y) : x = y := by
  have h1 := List.idxOf_lt_length_of_mem hx
  have h2 : l.idxOf y < l.length := by omega
  have e1 := List.getElem_idxOf h1
  have e2 := List.getElem_idxOf h2
  rw [← e1, ← e2]
  congr 1
theorem clsOf_eq (ks : List α) {x y : α} (hx : x ∈ ks) : ((ixOf (firsts ks) x : Nat) : Int) = (ixOf (firsts ks) y : Nat) ↔ x = y := by
  unfold ixOf
  constructor
  · intro h
    exact idxOf_inj ((mem_firsts ks x).2 hx) (by omega)
  · rintro rfl
    rfl
end

/-- how many of the first n are new where they stand -/
def news {α : Type} [DecidableEq α] (f : Nat → α) : Nat → Nat
  | 0 => 0
  | n + 1 => news f n + if ∃ j, j < n ∧ f j = f n then 0 else 1
theorem news_le {α : Type} [DecidableEq α] (f : Nat → α) (n : Nat) : news f n ≤ n := by
  induction n with
  | zero => simp [news]
  | succ n ih =>
    rw [news]
    split <;> omega
theorem news_finer {α β : Type} [DecidableEq α] [DecidableEq β] (f : Nat → α) (g : Nat → β) (n : Nat) (h : ∀ i j, i < n → j < n → g i = g j → f i = f j) :
    news f n ≤ news g n ∧ (news f n = news g n → ∀ i, i < n → (∃ j, j < i ∧ f j = f i) → ∃ j, j < i ∧ g j = g i) := by
  induction n with
  | zero => exact ⟨Nat.le_refl _, fun _ i hi => by omega⟩
  | succ n ih =>
    obtain ⟨h1, h2⟩ := ih fun i j hi hj => h i j (by omega) (by omega)
    rw [news, news]
    by_cases hf : ∃ j, j < n ∧ f j = f n
    · rw [if_pos hf]
      by_cases hg : ∃ j, j < n ∧ g j = g n
      · rw [if_pos hg]
        refine ⟨by omega, fun he i hi hx => ?_⟩
        by_cases hin : i < n
        · exact h2 (by omega) i hin hx
        · obtain rfl : i = n := by omega
          exact hg
      · rw [if_neg hg]
        exact ⟨by omega, fun he => by omega⟩
    · have hg : ¬ ∃ j, j < n ∧ g j = g n := fun ⟨j, hj, e⟩ => hf ⟨j, hj, h j n (by omega) (by omega) e⟩
      rw [if_neg hf, if_neg hg]
      refine ⟨by omega, fun he i hi hx => ?_⟩
      by_cases hin : i < n
      · exact h2 (by omega) i hin hx
      · obtain rfl : i = n := by omega
        exact (hf hx).elim
/-- As many classes in the finer parting: the same parting. -/
theorem same_of_news {α β : Type} [DecidableEq α] [DecidableEq β] (f : Nat → α) (g : Nat → β) (n : Nat) (h : ∀ i j, i < n → j < n → g i = g j → f i = f j) (he : news f n = news g n) :
    ∀ i j, i < n → j < n → f i = f j → g i = g j := by
  have h2 := (news_finer f g n h).2 he
  have key : ∀ i, i < n → ∃ m, m ≤ i ∧ g m = g i ∧ ∀ j, j < m → f j ≠ f i := by
    intro i
    induction i using Nat.strongRecOn with
    | _ i ih =>
      intro hi
      by_cases hf : ∃ j, j < i ∧ f j = f i
      · obtain ⟨j, hj, hg⟩ := h2 i hi hf
        obtain ⟨m, hm, e1, e2⟩ := ih j hj (by omega)
        refine ⟨m, by omega, e1.trans hg, fun k hk => ?_⟩
        rw [← h j i (by omega) hi hg]
        exact e2 k hk
      · exact ⟨i, Nat.le_refl _, rfl, fun j hj e => hf ⟨j, hj, e⟩⟩
  intro i j hi hj hf
  obtain ⟨m, hm, e1, e2⟩ := key i hi
  obtain ⟨m', hm', e1', e2'⟩ := key j hj
  have : m = m' := by
    rcases Nat.lt_trichotomy m m' with hl | hl | hl
    · have hm2 : f m = f i := h m i (by omega) hi e1
      exact (e2' m hl (hm2.trans hf)).elim
    · exact hl
    · have hm2 : f m' = f j := h m' j (by omega) hj e1'
      exact (e2 m' hl (hm2.trans hf.symm)).elim
  rw [← e1, ← e1', this]
theorem firsts_news {α : Type} [DecidableEq α] (ks : List α) (f : Nat → α) (hf : ∀ i, (h : i < ks.length) → ks[i] = f i) : ∀ m, m ≤ ks.length → (firsts (ks.take m)).length = news f m := by
  intro m
  induction m with
  | zero => intro _; simp [firsts, news]
  | succ m ih =>
    intro hm
    have hlt : m < ks.length := by omega
    rw [List.take_succ_eq_append_getElem hlt, firsts_snoc, addNew, news, ← ih (by omega)]
    have : ks[m] ∈ firsts (ks.take m) ↔ ∃ j, j < m ∧ f j = f m := by
      rw [mem_firsts, List.mem_take_iff_getElem, ← hf m hlt]
      constructor
      · rintro ⟨j, hj, e⟩
        exact ⟨j, by omega, by rw [← hf j (by omega)]; exact e⟩
      · rintro ⟨j, hj, e⟩
        exact ⟨j, by omega, by rw [hf j (by omega)]; exact e⟩
    by_cases h : ks[m] ∈ firsts (ks.take m)
    · rw [if_pos h, if_pos (this.1 h)]; rfl
    · rw [if_neg h, if_neg (fun e => h (this.2 e))]; simp
end Go.Proofs.YtjpkmcaogekkdaaDoor.Rm
