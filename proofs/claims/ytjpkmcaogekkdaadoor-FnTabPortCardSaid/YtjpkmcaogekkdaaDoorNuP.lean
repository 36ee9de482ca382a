/- Decimals as lists of bytes: their numbers, trimming, comparing. No program in sight. -/
namespace Go.Proofs.YtjpkmcaogekkdaaDoor.Nu
set_option linter.unusedVariables false
set_option linter.unusedSimpArgs false

def dg (b : UInt8) : Nat := b.toNat - 48
/-- digits from the right -/
def rv : List UInt8 → Nat
  | [] => 0
  | b :: t => dg b + 10 * rv t
def vl (l : List UInt8) : Nat := rv l.reverse
def Dig (b : UInt8) : Prop := 48 ≤ b.toNat ∧ b.toNat ≤ 57
def Digs (l : List UInt8) : Prop := ∀ b ∈ l, Dig b
def trimL : List UInt8 → List UInt8
  | b :: c :: t => if b = 48 then trimL (c :: t) else b :: c :: t
  | l => l
def Dec (l : List UInt8) : Prop := Digs l ∧ l ≠ [] ∧ (l.length = 1 ∨ l.head? ≠ some 48)

theorem rv_append (a b : List UInt8) : rv (a ++ b) = rv a + 10 ^ a.length * rv b := by
  induction a with
  | nil => simp [rv]
  | cons x t ih =>
    simp only [List.cons_append, rv, ih, List.length_cons, Nat.pow_succ, Nat.mul_add]
    have : 10 ^ t.length * 10 * rv b = 10 * (10 ^ t.length * rv b) := by rw [Nat.mul_comm (10 ^ t.length) 10, Nat.mul_assoc]
    omega
theorem dg_le {b : UInt8} (h : Dig b) : dg b ≤ 9 := by
  have := h.2
  unfold dg
  omega
theorem rv_lt (l : List UInt8) (h : Digs l) : rv l < 10 ^ l.length := by
  induction l with
  | nil => simp [rv]
  | cons x t ih =>
    have h1 := ih fun b hb => h b (List.mem_cons_of_mem _ hb)
    have h2 := dg_le (h x List.mem_cons_self)
    simp only [rv, List.length_cons, Nat.pow_succ]
    omega
theorem Digs.rev {l : List UInt8} (h : Digs l) : Digs l.reverse := fun b hb => h b (List.mem_reverse.1 hb)
theorem Digs.app {a b : List UInt8} (h : Digs a) (k : Digs b) : Digs (a ++ b) := fun x hx => (List.mem_append.1 hx).elim (h x) (k x)
theorem Digs.cons {x : UInt8} {b : List UInt8} (h : Dig x) (k : Digs b) : Digs (x :: b) := by
  intro y hy
  rcases List.mem_cons.1 hy with rfl | hy
  · exact h
  · exact k y hy
theorem Digs.one {x : UInt8} (h : Dig x) : Digs [x] := Digs.cons h (fun _ h => by simp at h)
theorem vl_lt (l : List UInt8) (h : Digs l) : vl l < 10 ^ l.length := by
  have := rv_lt _ h.rev
  simpa [vl] using this
theorem vl_cons (x : UInt8) (t : List UInt8) : vl (x :: t) = vl t + 10 ^ t.length * dg x := by
  simp only [vl, List.reverse_cons, rv_append, List.length_reverse, rv]
  simp
theorem vl_snoc (t : List UInt8) (x : UInt8) : vl (t ++ [x]) = 10 * vl t + dg x := by
  simp only [vl, List.reverse_append, List.reverse_cons, List.reverse_nil, List.nil_append, List.cons_append, rv]
  omega
theorem vl_nil : vl [] = 0 := rfl
theorem vl_trim : ∀ l, vl (trimL l) = vl l
  | [] => rfl
  | [b] => rfl
  | b :: c :: t => by
    rw [trimL]
    split
    · rename_i h
      subst h
      rw [vl_trim (c :: t), vl_cons 48]
      simp [dg]
    · rfl
theorem trim_mem : ∀ l x, x ∈ trimL l → x ∈ l
  | [], x, h => h
  | [b], x, h => h
  | b :: c :: t, x, h => by
    rw [trimL] at h
    split at h
    · exact List.mem_cons_of_mem _ (trim_mem (c :: t) x h)
    · exact h
theorem Digs.trim {l : List UInt8} (h : Digs l) : Digs (trimL l) := fun b hb => h b (trim_mem l b hb)
theorem trim_len : ∀ l, (trimL l).length ≤ l.length
  | [] => Nat.le_refl _
  | [b] => Nat.le_refl _
  | b :: c :: t => by
    rw [trimL]
    split
    · exact Nat.le_trans (trim_len (c :: t)) (by simp)
    · exact Nat.le_refl _
theorem trim_ne : ∀ l, l ≠ [] → trimL l ≠ []
  | [], h => h
  | [b], h => h
  | b :: c :: t, h => by
    rw [trimL]
    split
    · exact trim_ne (c :: t) (by simp)
    · exact h
theorem trim_head : ∀ l, (trimL l).length ≤ 1 ∨ (trimL l).head? ≠ some 48
  | [] => .inl (by simp [trimL])
  | [b] => .inl (by simp [trimL])
  | b :: c :: t => by
    rw [trimL]
    split
    · exact trim_head (c :: t)
    · rename_i h
      exact .inr (by simpa using h)
theorem trim_dec {l : List UInt8} (h : Digs l) (hn : l ≠ []) : Dec (trimL l) := by
  refine ⟨h.trim, trim_ne l hn, ?_⟩
  have h1 := trim_ne l hn
  have h2 : (trimL l).length ≠ 0 := fun e => h1 (List.length_eq_zero_iff.1 e)
  rcases trim_head l with h3 | h3
  · exact .inl (by omega)
  · exact .inr h3
theorem Dec.one {x : UInt8} (h : Dig x) : Dec [x] := ⟨Digs.one h, by simp, .inl rfl⟩
theorem Dec.pos {l : List UInt8} (h : Dec l) : 0 < l.length := List.length_pos_iff.2 h.2.1
theorem Dec.ge {l : List UInt8} (h : Dec l) (h2 : 2 ≤ l.length) : 10 ^ (l.length - 1) ≤ vl l := by
  obtain ⟨h0, h1, h3⟩ := h
  cases l with
  | nil => simp at h2
  | cons x t =>
    have hx : x ≠ 48 := by
      rcases h3 with h3 | h3
      · omega
      · simpa using h3
    have hd := h0 x List.mem_cons_self
    have hx' : x.toNat ≠ 48 := fun e => hx (UInt8.toNat_inj.1 (by simpa using e))
    have : 1 ≤ dg x := by
      have := hd.1
      unfold dg
      omega
    rw [vl_cons]
    simp only [List.length_cons, Nat.add_sub_cancel]
    exact Nat.le_trans (Nat.le_mul_of_pos_right _ this) (Nat.le_add_left _ _)
theorem Dec.len_lt {a b : List UInt8} (ha : Dec a) (hb : Dec b) (h : a.length < b.length) : vl a < vl b := by
  have h1 := vl_lt a ha.1
  have h2 := hb.ge (by have := ha.pos; omega)
  have h3 : 10 ^ a.length ≤ 10 ^ (b.length - 1) := Nat.pow_le_pow_right (by omega) (by omega)
  omega
theorem Dec.len_le {a b : List UInt8} (ha : Dec a) (hb : Dec b) (h : vl a ≤ vl b) : a.length ≤ b.length := by
  rcases Nat.lt_or_ge b.length a.length with h1 | h1
  · have := hb.len_lt ha h1
    omega
  · exact h1
theorem dig_inj {x y : UInt8} (hx : Dig x) (hy : Dig y) (h : dg x = dg y) : x = y := by
  have h1 := hx.1
  have h2 := hy.1
  unfold dg at h
  exact UInt8.toNat_inj.1 (by omega)
theorem Dec.zero {l : List UInt8} (h : Dec l) : vl l = 0 ↔ l = [48] := by
  constructor
  · intro h0
    rcases Nat.lt_or_ge 1 l.length with h1 | h1
    · have := h.ge h1
      have : 0 < 10 ^ (l.length - 1) := Nat.pow_pos (by omega)
      omega
    · obtain ⟨x, rfl⟩ := List.length_eq_one_iff.1 (show l.length = 1 by have := h.pos; omega)
      have : dg x = 0 := by simpa [vl, rv] using h0
      rw [dig_inj (h.1 x List.mem_cons_self) (y := 48) ⟨by decide, by decide⟩ (by rw [this]; rfl)]
  · rintro rfl
    rfl
/-- the order of texts of one length is that of the numbers -/
theorem lex_lt : ∀ (a b : List UInt8), a.length = b.length → Digs a → Digs b → (a < b ↔ vl a < vl b)
  | [], [], _, _, _ => by simp [vl, rv]
  | x :: t, y :: u, hl, ha, hb => by
    have hl' : t.length = u.length := by simpa using hl
    have ha' : Digs t := fun z hz => ha z (List.mem_cons_of_mem _ hz)
    have hb' : Digs u := fun z hz => hb z (List.mem_cons_of_mem _ hz)
    have ih := lex_lt t u hl' ha' hb'
    have h1 := vl_lt t ha'
    have h2 := vl_lt u hb'
    have hx := ha x List.mem_cons_self
    have hy := hb y List.mem_cons_self
    rw [vl_cons, vl_cons, List.cons_lt_cons_iff, ih, hl']
    rw [hl'] at h1
    generalize 10 ^ u.length = p at *
    have h3 := hx.1
    have h4 := hy.1
    constructor
    · rintro (h | ⟨rfl, h⟩)
      · have h' : x.toNat < y.toNat := h
        have h5 : dg x + 1 ≤ dg y := by unfold dg; omega
        have := Nat.mul_le_mul_left p h5
        rw [Nat.mul_add] at this
        omega
      · omega
    · intro h
      rcases Nat.lt_trichotomy x.toNat y.toNat with h5 | h5 | h5
      · exact .inl h5
      · right
        obtain rfl := UInt8.toNat_inj.1 h5
        exact ⟨rfl, by omega⟩
      · exfalso
        have h6 : dg y + 1 ≤ dg x := by unfold dg; omega
        have := Nat.mul_le_mul_left p h6
        rw [Nat.mul_add] at this
        omega

/-- the digit at a place from the right -/
def atN (l : List UInt8) (k : Nat) : Nat := if k < l.length then dg (l.getD (l.length - 1 - k) 48) else 0
theorem atN_rev (l : List UInt8) (k : Nat) : atN l k = dg (l.reverse.getD k 48) := by
  unfold atN
  split
  · rename_i h
    simp only [List.getD_eq_getElem?_getD]
    rw [List.getElem?_reverse h]
  · rename_i h
    rw [List.getD_eq_getElem?_getD, List.getElem?_eq_none (by simpa using h)]
    rfl
theorem atN_le {l : List UInt8} (h : Digs l) (k : Nat) : atN l k ≤ 9 := by
  unfold atN
  split
  · rename_i h1
    rw [List.getD_eq_getElem?_getD, List.getElem?_eq_getElem (by omega)]
    exact dg_le (h _ (List.getElem_mem _))
  · omega
/-- the last k digits -/
def lowv (l : List UInt8) (k : Nat) : Nat := rv (l.reverse.take k)
theorem rv_take (r : List UInt8) (k : Nat) : rv (r.take (k + 1)) = rv (r.take k) + 10 ^ k * dg (r.getD k 48) := by
  rcases Nat.lt_or_ge k r.length with h | h
  · rw [List.take_add_one, List.getElem?_eq_getElem h, rv_append, List.length_take, Nat.min_eq_left (by omega)]
    simp [rv, List.getD_eq_getElem?_getD, List.getElem?_eq_getElem h]
  · rw [List.take_of_length_le (by omega), List.take_of_length_le (by omega), List.getD_eq_getElem?_getD, List.getElem?_eq_none h]
    simp [dg]
theorem lowv_succ (l : List UInt8) (k : Nat) : lowv l (k + 1) = lowv l k + 10 ^ k * atN l k := by
  rw [lowv, rv_take, atN_rev]; rfl
theorem lowv_full (l : List UInt8) (k : Nat) (h : l.length ≤ k) : lowv l k = vl l := by
  rw [lowv, List.take_of_length_le (by simpa using h)]; rfl
theorem lowv_zero (l : List UInt8) : lowv l 0 = 0 := by simp [lowv, rv]

/-- the byte of a digit -/
def dch (x : Int) : UInt8 := ((48 + x) % 256).toNat.toUInt8
theorem dch_toNat (x : Int) : ((dch x).toNat : Int) = (48 + x) % 256 := by
  have h0 : 0 ≤ (48 + x) % 256 := Int.emod_nonneg _ (by omega)
  have h1 : (48 + x) % 256 < 256 := Int.emod_lt_of_pos _ (by omega)
  unfold dch
  rw [show (((48 + x) % 256).toNat.toUInt8).toNat = ((48 + x) % 256).toNat % 256 from UInt8.toNat_ofNat', Nat.mod_eq_of_lt (by omega), Int.toNat_of_nonneg h0]
theorem dch_dig {x : Int} (h0 : 0 ≤ x) (h9 : x ≤ 9) : Dig (dch x) ∧ ((dg (dch x) : Nat) : Int) = x := by
  have := dch_toNat x
  rw [Int.emod_eq_of_lt (by omega) (by omega)] at this
  exact ⟨⟨by omega, by omega⟩, by unfold dg; omega⟩
def textL (xs : List Int) : List UInt8 := if xs = [] then [48] else trimL (xs.map dch).reverse
/-- digits from the right, as numbers -/
def rvI : List Int → Int
  | [] => 0
  | x :: t => x + 10 * rvI t
theorem rvI_snoc (xs : List Int) (x : Int) : rvI (xs ++ [x]) = rvI xs + (10 ^ xs.length : Nat) * x := by
  induction xs with
  | nil => simp [rvI]
  | cons y t ih =>
    simp only [List.cons_append, rvI, ih, List.length_cons, Nat.pow_succ, Int.mul_add, Int.natCast_mul]
    have : ((10 ^ t.length : Nat) : Int) * (10 : Nat) * x = 10 * (((10 ^ t.length : Nat) : Int) * x) := by
      rw [Int.mul_comm ((10 ^ t.length : Nat) : Int) (10 : Nat), Int.mul_assoc]; rfl
    omega
def Ds (xs : List Int) : Prop := ∀ x ∈ xs, 0 ≤ x ∧ x ≤ 9
theorem Ds.snoc {xs : List Int} (h : Ds xs) {x : Int} (h0 : 0 ≤ x) (h9 : x ≤ 9) : Ds (xs ++ [x]) := by
  intro y hy
  rcases List.mem_append.1 hy with hy | hy
  · exact h y hy
  · obtain rfl := List.mem_singleton.1 hy
    exact ⟨h0, h9⟩
theorem Ds.nil : Ds [] := fun _ h => by simp at h
theorem rvI_nonneg : ∀ {xs : List Int}, Ds xs → 0 ≤ rvI xs
  | [], _ => Int.le_refl _
  | x :: t, h => by
    have h1 := rvI_nonneg (xs := t) fun y hy => h y (List.mem_cons_of_mem _ hy)
    have h2 := h x List.mem_cons_self
    simp only [rvI]
    omega
theorem rvI_lt : ∀ {xs : List Int}, Ds xs → rvI xs < (10 ^ xs.length : Nat)
  | [], _ => by simp [rvI]
  | x :: t, h => by
    have h1 := rvI_lt (xs := t) fun y hy => h y (List.mem_cons_of_mem _ hy)
    have h2 := h x List.mem_cons_self
    simp only [rvI, List.length_cons, Nat.pow_succ, Int.natCast_mul]
    omega
theorem rv_dch : ∀ {xs : List Int}, Ds xs → ((rv (xs.map dch) : Nat) : Int) = rvI xs
  | [], _ => rfl
  | x :: t, h => by
    have h1 := rv_dch (xs := t) fun y hy => h y (List.mem_cons_of_mem _ hy)
    have h2 := h x List.mem_cons_self
    have h3 := (dch_dig h2.1 h2.2).2
    simp only [List.map_cons, rv, rvI]
    omega
theorem textL_dec {xs : List Int} (h : Ds xs) : Dec (textL xs) := by
  unfold textL
  split
  · exact Dec.one ⟨by decide, by decide⟩
  · rename_i hne
    refine trim_dec (Digs.rev ?_) (by simpa using hne)
    intro b hb
    obtain ⟨x, hx, rfl⟩ := List.mem_map.1 hb
    exact (dch_dig (h x hx).1 (h x hx).2).1
theorem textL_vl {xs : List Int} (h : Ds xs) : ((vl (textL xs) : Nat) : Int) = rvI xs := by
  unfold textL
  split
  · rename_i he
    subst he
    rfl
  · rw [vl_trim, vl, List.reverse_reverse, rv_dch h]
theorem textL_len (xs : List Int) : (textL xs).length ≤ xs.length + 1 := by
  unfold textL
  split
  · simp
  · refine Nat.le_trans (trim_len _) (by simp)
end Go.Proofs.YtjpkmcaogekkdaaDoor.Nu
