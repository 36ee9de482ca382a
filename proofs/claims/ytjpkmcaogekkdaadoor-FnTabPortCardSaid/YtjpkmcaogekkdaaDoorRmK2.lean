/- Appends of nodes, and what the reference answers, plainly. -/
import Derived.Test.YtjpkmcaogekkdaaDoorRmK
namespace Go.Proofs.YtjpkmcaogekkdaaDoor.Rm
open Go.RowKit
set_option linter.unusedVariables false
set_option linter.unusedSimpArgs false

theorem step_append_law {P : Program} {w w' : World} {ops : Array Oper} {T : Array Value} {o : Oper} {a : Act} {K : Act → World → Prop} {Q : Exit → Act → World → Prop} {E : Prop} (hgd : o.guard = none) (s x : Operand) (t : TypeId)
    (ho : o.op = .call { callee := .builtin .append, args := #[s, x], argTypes := #[t, t] }) {v xv v' : Value} (hs : a.eval s = v) (hx : a.eval x = xv)
    (hr : (Builtin.append_ #[t, t] o.type #[v, xv]).run P w = .ok v' w') (h : K (a.put o.dst v') w') :
    if Region.wanted o (yielded ops T) = true then Oper.wp P o a w K Q else E := by
  have hw : Region.wanted o (yielded ops T) = true := by simp [Region.wanted, hgd]
  rw [if_pos hw]
  exact wp_append_run s x t ho hs hx hr h

theorem append_node (w : World) (lo : Nat) (v : Value) (m : Nat) (cells : List Value) (s : Int) (t : ByteArray) (a : Option Addr) (kl kc : Nat) (h : w.ownsRow lo 58 3 v m cells) (hlo : lo ≤ w.heap.size) (hm : (m + 1) * 48 ≤ 140737488351232) :
    ∃ g cap w', (Builtin.append_ #[36, 36] 36 #[v, .slice (some ⟨w.heap.size, 0, none⟩) 1 1]).run Tryd.prog (w.alloc (.cells #[.int .i64 s, .string t, .slice a kl kc] 58)) = .ok (.slice (some ⟨g, 0, none⟩) (m + 1) cap) w' ∧
      w'.ownsRow lo 58 3 (.slice (some ⟨g, 0, none⟩) (m + 1) cap) (m + 1) (cells ++ [.int .i64 s, .string t, .slice a kl kc]) ∧ w.grownBy w' v.ownBlock ∧ (v.ownBlock = some g ∨ w.heap.size ≤ g) ∧ g < w'.heap.size := by
  obtain ⟨i0, hi, hz0, hz1, hz2⟩ := info_parts info58
  obtain ⟨g, cap, w', h1, h2, h3, h4, h5⟩ := run_append_lies (P := Tryd.prog) (w.alloc (.cells #[.int .i64 s, .string t, .slice a kl kc] 58)) 36 36 lo 58 i0 _ 3 48 Tryd.underlying36 hi hz0 hz1 hz2 rfl (by omega) v m cells (World.ownsRow.alloc h _)
    ⟨w.heap.size, 0, none⟩ 1 1 [.int .i64 s, .string t, .slice a kl kc] rfl (World.news_of_block (Blk.new w _ _)) (by simp [Value.oneCell']) (by omega) (by simp only [maxLen]; omega) (by omega) (by simp; omega) _ rfl
  refine ⟨g, cap, w', h1, h2, ⟨h3.os, h3.tape, h3.output, ?_, fun k hk hne => ?_⟩, ?_, h5⟩
  · have := h3.size
    simp at this
    omega
  · rw [h3.block k (by simp; omega) hne, Below.heap_alloc _ _ _ hk]
  · rcases h4 with h4 | h4
    · exact .inl h4
    · right
      rw [h4]
      simp

def ordG (ns : List Nd) (rs : List Int) (G : List Int) : List Int := (rs.map (gat G)).foldl (walkG ns G (ns.length + 1)) []
def placeI (order : List Int) (x : Int) : Int := if x ∈ order then (order.idxOf x : Nat) else -1
def minNd (ns : List Nd) (G order : List Int) (g : Int) : Nd := match ns[g.toNat]? with | some d => ⟨d.sort, d.text, (d.kids.map (gat G)).map (placeI order)⟩ | none => ⟨0, ⟨#[]⟩, []⟩
def minNs (ns : List Nd) (G order : List Int) : List Nd := order.map (minNd ns G order)
def minRs (rs : List Int) (G order : List Int) : List Int := (rs.map (gat G)).map (placeI order)
def allOk (ns : List Nd) (rs : List Int) : Bool := ns.all (kidsOk ns.length) && rs.all (inR ns.length)
/-- The data of the specification. -/
def specNs (ns : List Nd) (rs : List Int) : List Nd := if allOk ns rs then minNs ns (iterG ns (ns.length + 1)) (ordG ns rs (iterG ns (ns.length + 1))) else []
def specRs (ns : List Nd) (rs : List Int) : List Int := if allOk ns rs then minRs rs (iterG ns (ns.length + 1)) (ordG ns rs (iterG ns (ns.length + 1))) else []

def SpecPost (ns : List Nd) (rs : List Int) (w : World) (e : Ending) (w' : World) : Prop :=
  ∃ v, e = .returned v ∧ Below w.heap.size w w' ∧ Dat w' (fun b => w.heap.size ≤ b ∧ b < w'.heap.size) v (specNs ns rs) (specRs ns rs)

theorem spec_empty {ns : List Nd} {rs : List Int} {w w' : World} (h : allOk ns rs = false) (hb : Below w.heap.size w w') : SpecPost ns rs w (.returned (.agg #[.slice none 0 0, .slice none 0 0])) w' := by
  refine ⟨_, rfl, hb, _, _, rfl, ?_, ?_⟩
  · rw [specNs, h]
    exact ⟨by simp, .inr ⟨rfl, _, _, rfl⟩⟩
  · rw [specRs, h]
    exact ⟨by simp, .inr ⟨rfl, _, _, rfl⟩⟩

theorem low_le (p : Nat → Bool) : ∀ (m cur : Nat), m ≤ cur → low p m cur ≤ cur := by
  intro m
  induction m with
  | zero => intro cur _; exact Nat.le_refl _
  | succ m ih =>
    intro cur h
    unfold low
    cases p m
    · exact ih cur (by omega)
    · exact Nat.le_trans (ih m (Nat.le_refl _)) (by omega)
theorem iterG_in (ns : List Nd) (r : Nat) : ∀ x ∈ iterG ns r, inR ns.length x = true := by
  intro x hx
  cases r with
  | zero =>
    rw [iterG, List.mem_replicate] at hx
    have := hx.1
    rw [hx.2]
    simp only [inR, Bool.and_eq_true, decide_eq_true_eq]
    omega
  | succ r =>
    rw [iterG, stepG, List.mem_map] at hx
    obtain ⟨i, hi, rfl⟩ := hx
    have h1 := List.mem_range.1 hi
    have h2 := low_le (testK (iterG ns r) ns i) i i (Nat.le_refl _)
    simp [inR]
    omega

theorem place_no (w : World) (b n c : Nat) (xs : List Int) (g : Int) (hn : xs.length = n) (hsz : n * 8 ≤ 140737488351232) (hg : g ∉ xs)
    (hx : ∀ i x, xs[i]? = some x → w.cell? ⟨b, i, none⟩ = some (.int .i64 x)) :
    Calls Tryd.prog 31 #[.slice (some ⟨b, 0, none⟩) n c, .int .i64 g] w fun e w' => e = .returned (.int .i64 (-1)) ∧ w' = w := by
  have HX := Lib.hid hx
  have HN := Lib.hid hn
  have HG := Lib.hid hg
  clear hx hn hg
  go_enter Tryd.func31, Tryd.ntmps31
  go_wp2
  go_loopw [5] (fun i wr => ∃ k : Nat, k ≤ n ∧ i = .int .i64 k ∧ wr = w) (fun i wr => n - (intOf i).toNat)
  case atStart => exact ⟨0, by omega, rfl, rfl⟩
  case round =>
    obtain ⟨k, hk, rfl, rfl⟩ := hrel
    have hk0 : (0 : Int) ≤ k := by omega
    by_cases hlt : k < n
    · obtain ⟨x, hxk⟩ := getSome xs k (by rw [HN.out]; exact hlt)
      have cx := HX.out k x hxk
      have he : ¬ x = g := by
        rintro rfl
        exact HG.out (List.mem_of_getElem? hxk)
      clear hxk
      go_wp2
      exact ⟨⟨k + 1, by omega, by go_num, by trivial⟩, by simp [intOf]; omega⟩
    · go_wp2
      go_ret
      exact ⟨rfl, rfl⟩

theorem place_nil (w : World) (a : Option Addr) (c : Nat) (g : Int) :
    Calls Tryd.prog 31 #[.slice a 0 c, .int .i64 g] w fun e w' => e = .returned (.int .i64 (-1)) ∧ w' = w := by
  go_enter Tryd.func31, Tryd.ntmps31
  go_wp2
  go_loopw [5] (fun i wr => i = .int .i64 0 ∧ wr = w) (fun i wr => 0)
  case atStart => exact ⟨rfl, rfl⟩
  case round =>
    obtain ⟨rfl, rfl⟩ := hrel
    go_wp2
    go_ret
    exact ⟨rfl, rfl⟩

theorem place_any (w : World) (a : Option Addr) (n oc : Nat) (xs : List Int) (x : Int) (hn : xs.length = n) (hsz : n * 8 ≤ 140737488351232) (hs : xs ≠ [] → ∃ g, a = some ⟨g, 0, none⟩ ∧ ∀ i x, xs[i]? = some x → w.cell? ⟨g, i, none⟩ = some (.int .i64 x)) :
    Calls Tryd.prog 31 #[.slice a n oc, .int .i64 x] w fun e w' => e = .returned (.int .i64 (placeI xs x)) ∧ w' = w := by
  unfold placeI
  by_cases h : x ∈ xs
  · rw [if_pos h]
    obtain ⟨g, rfl, h2⟩ := hs (by rintro rfl; simp at h)
    exact (place_go w g 0 n oc xs x hn hsz h (by simpa using h2)).mono fun e w' h => ⟨h.1, h.2.symm⟩
  · rw [if_neg h]
    by_cases h0 : xs = []
    · subst h0
      obtain rfl : n = 0 := by simpa using hn.symm
      exact place_nil w a oc x
    · obtain ⟨g, rfl, h2⟩ := hs h0
      exact place_no w g n oc xs x hn hsz h h2

theorem OwnRow.far {w : World} {lo : Nat} {v : Value} {xs : List Int} (h : OwnRow w lo v xs) {b : Nat} (hb : b < lo) (o : Nat) (u : Value) : OwnRow (w.setCell ⟨b, o, none⟩ u) lo v xs := by
  obtain ⟨h1, h2 | ⟨g, cap, cur, rfl, h3, h4, rest⟩⟩ := h
  · exact ⟨h1, .inl h2⟩
  · exact ⟨h1, .inr ⟨g, cap, cur, rfl, h3, (Below.heap_setCell _ _ _ _ (by simp; omega)).trans h4, rest⟩⟩

/-- Nodes laid one behind the other, and their parts' rows, in blocks from lo on and below hi. -/
def Fin (w : World) (lo hi : Nat) (nv : Value) (ds : List Nd) : Prop :=
  hi ≤ w.heap.size ∧ (∀ g, nv.ownBlock = some g → g < hi) ∧ ∃ cells, w.ownsRow lo 58 3 nv ds.length cells ∧ ∀ i d, ds[i]? = some d → cells[i * 3]? = some (.int .i64 d.sort) ∧ cells[i * 3 + 1]? = some (.string d.text) ∧ d.text.size ≤ 140737488351232 ∧
    ∃ kv, cells[i * 3 + 2]? = some kv ∧ Ints w (fun b => lo ≤ b ∧ b < hi ∧ nv.ownBlock ≠ some b) kv d.kids

theorem Fin.nil (w : World) (lo hi : Nat) (h : hi ≤ w.heap.size) : Fin w lo hi (.slice none 0 0) [] :=
  ⟨h, fun g hg => by simp [Value.ownBlock] at hg, [], World.ownsRow_nil _ _ _ _, fun i d hd => by simp at hd⟩

theorem Fin.shape {w : World} {lo hi : Nat} {nv : Value} {ds : List Nd} (h : Fin w lo hi nv ds) : ∃ a l c, nv = .slice a l c := by
  obtain ⟨_, _, cells, ⟨_, ⟨rfl, _⟩ | ⟨g, cap, cur, rfl, _⟩⟩, _⟩ := h
  · exact ⟨_, _, _, rfl⟩
  · exact ⟨_, _, _, rfl⟩

theorem Fin.carry {w w' : World} {lo hi : Nat} {nv : Value} {ds : List Nd} (h : Fin w lo hi nv ds) (hs : hi ≤ w'.heap.size) (hw : ∀ b, lo ≤ b → b < hi → w'.heap[b]? = w.heap[b]?) : Fin w' lo hi nv ds := by
  obtain ⟨h1, h2, cells, h3, h4⟩ := h
  refine ⟨hs, h2, cells, ⟨h3.1, ?_⟩, fun i d hd => ?_⟩
  · rcases h3.2 with h5 | ⟨g, cap, cur, rfl, hb, hg, rest⟩
    · exact .inl h5
    · exact .inr ⟨g, cap, cur, rfl, hb, (hw g hb (h2 g rfl)).trans hg, rest⟩
  · obtain ⟨e1, e2, e3, kv, e4, e5⟩ := h4 i d hd
    exact ⟨e1, e2, e3, kv, e4, e5.same fun b hb => hw b hb.1 hb.2.1⟩

theorem OwnRow.ints {w : World} {lo : Nat} {v : Value} {xs : List Int} (h : OwnRow w lo v xs) (h0 : xs.length * 8 ≤ 140737488351232) {P : Nat → Prop} (hP : ∀ g, v.ownBlock = some g → lo ≤ g → g < w.heap.size → P g) : Ints w P v xs := by
  obtain ⟨a, c, rfl, hs⟩ := h.shape
  refine ⟨h0, ?_⟩
  by_cases hx : xs = []
  · subst hx
    exact .inr ⟨rfl, a, c, rfl⟩
  · obtain ⟨g, rfl, h1, h2, h3⟩ := hs hx
    exact .inl ⟨g, 0, c, rfl, hP g rfl h1 h2, fun i x hi => by rw [Nat.zero_add]; exact h3 i x hi⟩

theorem append_fin (w : World) (lo hi : Nat) (nv : Value) (ds : List Nd) (d : Nd) (a : Option Addr) (kl kc : Nat) (h : Fin w lo hi nv ds) (hlo : lo ≤ hi) (hk : OwnRow w hi (.slice a kl kc) d.kids) (ht : d.text.size ≤ 140737488351232) (hks : d.kids.length * 8 ≤ 140737488351232) (hm : (ds.length + 1) * 48 ≤ 140737488351232) :
    ∃ g cap w', (Builtin.append_ #[36, 36] 36 #[nv, .slice (some ⟨w.heap.size, 0, none⟩) 1 1]).run Tryd.prog (w.alloc (.cells #[.int .i64 d.sort, .string d.text, .slice a kl kc] 58)) = .ok (.slice (some ⟨g, 0, none⟩) (ds.length + 1) cap) w' ∧
      Fin w' lo w'.heap.size (.slice (some ⟨g, 0, none⟩) (ds.length + 1) cap) (ds ++ [d]) ∧ Below lo w w' := by
  obtain ⟨h1, h2, cells, h3, h4⟩ := h
  obtain ⟨g, cap, w', e1, e2, e3, e4, e5⟩ := append_node w lo nv ds.length cells d.sort d.text a kl kc h3 (by omega) hm
  refine ⟨g, cap, w', e1, ⟨Nat.le_refl _, fun x hx => ?_, _, by rw [List.length_append]; exact e2, fun i d' hd' => ?_⟩, ?_⟩
  · simp [Value.ownBlock] at hx
    omega
  · have hcl := h3.1
    have hlt := h3.lt
    by_cases hi' : i < ds.length
    · rw [List.getElem?_append_left hi'] at hd'
      obtain ⟨c1, c2, c3, kv, c4, c5⟩ := h4 i d' hd'
      rw [List.getElem?_append_left (by omega), List.getElem?_append_left (by omega), List.getElem?_append_left (by omega)]
      refine ⟨c1, c2, c3, kv, c4, (c5.same (w' := w') fun b hb => ?_).weaken fun b hb => ?_⟩
      · exact e3.block b (by omega) (fun e => hb.2.2 e.symm)
      · refine ⟨hb.1, ?_, ?_⟩
        · have := e3.size
          omega
        · simp only [Value.ownBlock]
          intro e
          have e := Option.some.inj e
          subst e
          rcases e4 with e4 | e4
          · exact hb.2.2 e4
          · omega
    · have hil : i = ds.length := by
        have := (List.getElem?_eq_some_iff.1 hd').1
        simp at this
        omega
      subst hil
      rw [List.getElem?_append_right (Nat.le_refl _)] at hd'
      simp at hd'
      subst hd'
      rw [List.getElem?_append_right (by omega), List.getElem?_append_right (by omega), List.getElem?_append_right (by omega), hcl]
      simp only [Nat.sub_self, Nat.add_sub_cancel_left]
      refine ⟨rfl, rfl, ht, _, rfl, ?_⟩
      refine (hk.ints hks (P := fun b => hi ≤ b ∧ b < w.heap.size) (fun g _ h5 h6 => ⟨h5, h6⟩)).same (w' := w') (fun b hb => ?_) |>.weaken fun b hb => ?_
      · refine e3.block b hb.2 fun e => ?_
        have := h2 b e.symm
        omega
      · refine ⟨by omega, ?_, ?_⟩
        · have := e3.size
          omega
        · simp only [Value.ownBlock]
          intro e
          have e := Option.some.inj e
          subst e
          rcases e4 with e4 | e4
          · have := h2 _ e4
            omega
          · omega
  · exact grown_below e3 (fun x hx => (h3.lt x hx).1) (by omega)

theorem Fin.nodes {w : World} {lo hi : Nat} {nv : Value} {ds : List Nd} (h : Fin w lo hi nv ds) (hm : ds.length * 48 ≤ 140737488351232) {P : Nat → Prop} (hP : ∀ b, lo ≤ b → b < w.heap.size → P b) : Nodes w P nv ds := by
  obtain ⟨h1, h2, cells, h3, h4⟩ := h
  refine ⟨hm, ?_⟩
  obtain ⟨h5, ⟨rfl, h6⟩ | ⟨g, cap, cur, rfl, hb, hg, hc, _, hs, ht⟩⟩ := h3
  · exact .inr ⟨List.length_eq_zero_iff.1 h6, none, 0, rfl⟩
  · have hB : Blk w g cur 58 := hg
    refine .inl ⟨g, 0, cap, rfl, hP g hb hB.lt, fun i d hd => ?_⟩
    obtain ⟨c1, c2, c3, kv, c4, c5⟩ := h4 i d hd
    have hi' := (List.getElem?_eq_some_iff.1 hd).1
    have key : ∀ j v, j < ds.length * 3 → cells[j]? = some v → w.cell? ⟨g, 0 + j, none⟩ = some v := by
      intro j v hj hv
      rw [Nat.zero_add]
      rw [← ht, List.getElem?_take_of_lt hj] at hv
      exact hB.cell0 (by simpa using hv)
    refine ⟨key _ _ (by omega) c1, ?_, c3, kv, ?_, c5.weaken fun b hb2 => hP b hb2.1 (by omega)⟩
    · have := key _ _ (by omega) c2
      rwa [← Nat.add_assoc] at this
    · have := key _ _ (by omega) c4
      rwa [← Nat.add_assoc] at this
end Go.Proofs.YtjpkmcaogekkdaaDoor.Rm
