/- Orders of groups as plain lists, and appends of numbers. -/
import Derived.Test.YtjpkmcaogekkdaaDoorRmI
import Derived.Deep.AppendLies
namespace Go.Proofs.YtjpkmcaogekkdaaDoor.Rm
open Go.RowKit
set_option linter.unusedVariables false
set_option linter.unusedSimpArgs false

theorem nodup_le : ∀ (n : Nat) (l : List Int), l.Nodup → (∀ g ∈ l, 0 ≤ g ∧ g < n) → l.length ≤ n := by
  intro n
  induction n with
  | zero =>
    intro l h1 h2
    cases l with
    | nil => simp
    | cons x l => have := h2 x (by simp); omega
  | succ n ih =>
    intro l h1 h2
    by_cases h : (n : Int) ∈ l
    · have h3 := ih (l.erase n) (h1.erase _) (fun g hg => by
        rw [h1.mem_erase_iff] at hg
        have := h2 g hg.2
        have := hg.1
        omega)
      rw [List.length_erase_of_mem h] at h3
      omega
    · have := ih l h1 (fun g hg => by
        have h4 := h2 g hg
        have : g ≠ n := fun e => h (e ▸ hg)
        omega)
      omega

/-- numbers as cells -/
def icells (xs : List Int) : List Value := xs.map (Value.int .i64)

/-- A slice's row of its own, at lo or above. -/
def OwnRow (w : World) (lo : Nat) (v : Value) (xs : List Int) : Prop := w.ownsRow lo 3 1 v xs.length (icells xs)

theorem OwnRow.alloc {w : World} {lo : Nat} {v : Value} {xs : List Int} (h : OwnRow w lo v xs) (o : Obj) : OwnRow (w.alloc o) lo v xs := World.ownsRow.alloc h o
theorem OwnRow.shape {w : World} {lo : Nat} {v : Value} {xs : List Int} (h : OwnRow w lo v xs) : ∃ a c, v = .slice a xs.length c ∧ (xs ≠ [] → ∃ g, a = some ⟨g, 0, none⟩ ∧ lo ≤ g ∧ g < w.heap.size ∧ ∀ i x, xs[i]? = some x → w.cell? ⟨g, i, none⟩ = some (.int .i64 x)) := by
  obtain ⟨h1, ⟨rfl, h2⟩ | ⟨g, cap, cur, rfl, hb, hg, hc, _, hs, ht⟩⟩ := h
  · refine ⟨none, 0, by rw [h2], fun h => absurd (List.length_eq_zero_iff.1 h2) h⟩
  · refine ⟨_, cap, rfl, fun _ => ⟨g, rfl, hb, (Array.getElem?_eq_some_iff.1 hg).1, fun i x hi => ?_⟩⟩
    have hi2 := (List.getElem?_eq_some_iff.1 hi).1
    have h3 : (cur.toList.take (xs.length * 1))[i]? = (icells xs)[i]? := by rw [ht]
    rw [List.getElem?_take_of_lt (by omega), icells, List.getElem?_map, hi] at h3
    have h4 : Blk w g cur 3 := hg
    exact h4.cell0 (by simpa using h3)

theorem append_int (w : World) (lo : Nat) (v : Value) (xs : List Int) (x : Int) (h : OwnRow w lo v xs) (hlo : lo ≤ w.heap.size) (hm : (xs.length + 1) * 8 ≤ 140737488351232) :
    ∃ g cap w', (Builtin.append_ #[32, 32] 32 #[v, .slice (some ⟨w.heap.size, 0, none⟩) 1 1]).run Tryd.prog (w.alloc (.cells #[.int .i64 x] 3)) = .ok (.slice (some ⟨g, 0, none⟩) (xs.length + 1) cap) w' ∧
      OwnRow w' lo (.slice (some ⟨g, 0, none⟩) (xs.length + 1) cap) (xs ++ [x]) ∧ w.grownBy w' v.ownBlock ∧ (v.ownBlock = some g ∨ w.heap.size ≤ g) ∧ g < w'.heap.size := by
  obtain ⟨i0, hi, hz0, hz1, hz2⟩ := info_parts info3
  obtain ⟨g, cap, w', h1, h2, h3, h4, h5⟩ := run_append_lies (P := Tryd.prog) (w.alloc (.cells #[.int .i64 x] 3)) 32 32 lo 3 i0 _ 1 8 Tryd.underlying32 hi hz0 hz1 hz2 rfl (by omega) v xs.length (icells xs) (World.ownsRow.alloc h _)
    ⟨w.heap.size, 0, none⟩ 1 1 [.int .i64 x] rfl (World.news_of_block (Blk.new w _ _)) (by simp [Value.oneCell']) (by omega) (by simp only [maxLen]; omega) (by omega) (by simp; omega) _ rfl
  refine ⟨g, cap, w', h1, ?_, ⟨h3.os, h3.tape, h3.output, ?_, fun k hk hne => ?_⟩, ?_, h5⟩
  · have : icells (xs ++ [x]) = icells xs ++ [.int .i64 x] := by simp [icells]
    unfold OwnRow
    rw [this, List.length_append]
    exact h2
  · have := h3.size
    simp at this
    omega
  · rw [h3.block k (by simp; omega) hne, Below.heap_alloc _ _ _ hk]
  · rcases h4 with h4 | h4
    · exact .inl h4
    · right
      rw [h4]
      simp

/-- At an append whose run is known: the step of the walk. -/
theorem wp_append_run {P : Program} {w w' : World} {o : Oper} {a : Act} {K : Act → World → Prop} {Q : Exit → Act → World → Prop} (s x : Operand) (t : TypeId)
    (ho : o.op = .call { callee := .builtin .append, args := #[s, x], argTypes := #[t, t] }) {v xv v' : Value} (hs : a.eval s = v) (hx : a.eval x = xv)
    (hr : (Builtin.append_ #[t, t] o.type #[v, xv]).run P w = .ok v' w') (h : K (a.put o.dst v') w') : o.wp P a w K Q := by
  unfold Oper.wp execOp
  simp only [ho, resolve, invoke, builtin, Sem.run_bind, Sem.run_pure, Result.andThen_ok, List.map_toArray, List.map_cons, List.map_nil, hs, hx, hr]
  exact h
theorem wpList_append_run {P : Program} {w w' : World} {ops : Array Oper} {rest : List Oper} {o : Oper} {a : Act} {Q : Exit → Act → World → Prop} (hgd : o.guard = none) (s x : Operand) (t : TypeId)
    (ho : o.op = .call { callee := .builtin .append, args := #[s, x], argTypes := #[t, t] }) {v xv v' : Value} (hs : a.eval s = v) (hx : a.eval x = xv)
    (hr : (Builtin.append_ #[t, t] o.type #[v, xv]).run P w = .ok v' w') (h : wpList P ops Q rest (a.put o.dst v') w') : wpList P ops Q (o :: rest) a w :=
  wpList_plain hgd fun _ hK => wp_append_run s x t ho hs hx hr (hK _ _ h)
theorem step_append_run {P : Program} {w w' : World} {ops : Array Oper} {o : Oper} {a : Act} {K : Act → World → Prop} {Q : Exit → Act → World → Prop} {E : Prop} (hgd : o.guard = none) (s x : Operand) (t : TypeId)
    (ho : o.op = .call { callee := .builtin .append, args := #[s, x], argTypes := #[t, t] }) {v xv v' : Value} (hs : a.eval s = v) (hx : a.eval x = xv)
    (hr : (Builtin.append_ #[t, t] o.type #[v, xv]).run P w = .ok v' w') (h : K (a.put o.dst v') w') :
    if Region.wanted o (yielded ops a.tmps) = true then Oper.wp P o a w K Q else E := by
  have hw : Region.wanted o (yielded ops a.tmps) = true := by simp [Region.wanted, hgd]
  rw [if_pos hw]
  exact wp_append_run s x t ho hs hx hr h

theorem grown_below {w w' : World} {lo : Nat} {o : Option Nat} (h : w.grownBy w' o) (ho : ∀ g, o = some g → lo ≤ g) (hlo : lo ≤ w.heap.size) : Below lo w w' :=
  ⟨h.os, h.tape, h.output, h.size, fun k hk => h.block k (by omega) (fun e => by have := ho k e.symm; omega)⟩
theorem OwnRow.above {w : World} {lo : Nat} {v : Value} {xs : List Int} (h : OwnRow w lo v xs) : ∀ g, v.ownBlock = some g → lo ≤ g := fun g hg => (World.ownsRow.lt h g hg).1
theorem OwnRow.weak {w : World} {lo lo' : Nat} {v : Value} {xs : List Int} (h : OwnRow w lo v xs) (hl : lo' ≤ lo) : OwnRow w lo' v xs := by
  obtain ⟨h1, h2 | ⟨g, cap, cur, rfl, hb, rest⟩⟩ := h
  · exact ⟨h1, .inl h2⟩
  · exact ⟨h1, .inr ⟨g, cap, cur, rfl, by omega, rest⟩⟩
theorem OwnRow.below {w w' : World} {lo : Nat} {v : Value} {xs : List Int} (h : OwnRow w lo v xs) (hb : Below w.heap.size w w') : OwnRow w' lo v xs := by
  obtain ⟨h1, h2 | ⟨g, cap, cur, rfl, h3, h4, rest⟩⟩ := h
  · exact ⟨h1, .inl h2⟩
  · exact ⟨h1, .inr ⟨g, cap, cur, rfl, h3, (hb.block g (Array.getElem?_eq_some_iff.1 h4).1).trans h4, rest⟩⟩

/-- the groups of a group's parts -/
def kidsG (ns : List Nd) (G : List Int) (g : Int) : List Int := match ns[g.toNat]? with | some d => d.kids.map (gat G) | none => []
/-- the order in which groups are come to -/
def walkG (ns : List Nd) (G : List Int) : Nat → List Int → Int → List Int
  | 0, order, _ => order
  | f + 1, order, g => if g ∈ order then order else (kidsG ns G g).foldl (walkG ns G f) (order ++ [g])

/-- An order: each group once, all in range. -/
def Good (n : Nat) (order : List Int) : Prop := order.Nodup ∧ ∀ g ∈ order, inR n g = true
theorem Good.le {n : Nat} {order : List Int} (h : Good n order) : order.length ≤ n := nodup_le n order h.1 (fun g hg => by have := h.2 g hg; simpa [inR] using this)
theorem Good.snoc {n : Nat} {order : List Int} (h : Good n order) {g : Int} (hg : inR n g = true) (hn : g ∉ order) : Good n (order ++ [g]) := by
  refine ⟨?_, fun x hx => ?_⟩
  · rw [List.nodup_append]
    refine ⟨h.1, by simp, fun a ha b hb => ?_⟩
    simp at hb
    subst hb
    rintro rfl
    exact hn ha
  · rcases List.mem_append.1 hx with hx | hx
    · exact h.2 x hx
    · simp at hx
      rw [hx]; exact hg

theorem kidsG_in {ns : List Nd} {G : List Int} (hGl : G.length = ns.length) (hG : ∀ x ∈ G, inR ns.length x = true) (hk : ∀ d ∈ ns, ∀ k ∈ d.kids, inR ns.length k = true) (g : Int) : ∀ x ∈ kidsG ns G g, inR ns.length x = true := by
  intro x hx
  unfold kidsG at hx
  split at hx
  · next d hd =>
    obtain ⟨k, hk1, rfl⟩ := List.mem_map.1 hx
    have h1 := hk d (List.mem_of_getElem? hd) k hk1
    rw [← hGl] at h1
    have h2 := (gat_some h1).1
    exact hG _ (List.mem_of_getElem? h2)
  · simp at hx

theorem fold_good {n : Nat} {f : List Int → Int → List Int} (hf : ∀ o g, Good n o → inR n g = true → Good n (f o g) ∧ o <+: f o g) : ∀ (l : List Int) (o : List Int), Good n o → (∀ x ∈ l, inR n x = true) → Good n (l.foldl f o) ∧ o <+: l.foldl f o := by
  intro l
  induction l with
  | nil => intro o h _; exact ⟨h, List.prefix_rfl⟩
  | cons x l ih =>
    intro o h hl
    have h1 := hf o x h (hl x (by simp))
    have h2 := ih (f o x) h1.1 (fun y hy => hl y (by simp [hy]))
    exact ⟨h2.1, h1.2.trans h2.2⟩

theorem walkG_good {ns : List Nd} {G : List Int} (hGl : G.length = ns.length) (hG : ∀ x ∈ G, inR ns.length x = true) (hk : ∀ d ∈ ns, ∀ k ∈ d.kids, inR ns.length k = true) :
    ∀ (f : Nat) (o : List Int) (g : Int), Good ns.length o → inR ns.length g = true → Good ns.length (walkG ns G f o g) ∧ o <+: walkG ns G f o g := by
  intro f
  induction f with
  | zero => intro o g h _; exact ⟨h, List.prefix_rfl⟩
  | succ f ih =>
    intro o g h hg
    unfold walkG
    split
    · exact ⟨h, List.prefix_rfl⟩
    · next hn =>
      have h1 := fold_good ih (kidsG ns G g) (o ++ [g]) (h.snoc hg hn) (kidsG_in hGl hG hk g)
      exact ⟨h1.1, (List.prefix_append _ _).trans h1.2⟩

theorem foldl_take (f : List Int → Int → List Int) (l : List Int) (o : List Int) (k : Nat) (x : Int) (h : l[k]? = some x) : (l.take (k + 1)).foldl f o = f ((l.take k).foldl f o) x := by
  rw [take_snoc' l k x h, List.foldl_append]
  rfl
end Go.Proofs.YtjpkmcaogekkdaaDoor.Rm
