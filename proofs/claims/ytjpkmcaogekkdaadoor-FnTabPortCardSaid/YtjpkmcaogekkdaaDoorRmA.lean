/- Equality of data in the law, walked. -/
import Derived.Test.YtjpkmcaogekkdaaDoorProg
import Derived.Test.YtjpkmcaogekkdaaDoorRmData
import Derived.WalkKit
import Derived.WalkLawsBesides
import Derived.WalkSpells
import Derived.LoopTactic
import Derived.RegionTactic
import Derived.ChangeAlike
import Derived.Lib.Hide
import Derived.Outline
import Derived.KernelRfl
import Derived.Deep.QuietTactic
import Derived.BigQuiet
import Derived.BigRegion
import Derived.Deep.RegionHeld3
namespace Go.Proofs.YtjpkmcaogekkdaaDoor.Rm
open Go.RowKit

theorem eqInts_len (a b : Option Addr) (n m c d : Nat) (w : World) (h : n ≠ m) :
    Calls Tryd.prog 39 #[.slice a n c, .slice b m d] w fun e w' => e = .returned (.bool false) ∧ ∃ n, w' = w.drewN n := by
  have h' : ((n : Int) != (m : Int)) = true := by rw [bne_iff_ne]; omega
  go_enter Tryd.func39, Tryd.ntmps39
  go_wp2
  go_ret
  exact ⟨rfl, 0, rfl⟩

theorem eqInts_nil (a b : Option Addr) (c d : Nat) (w : World) :
    Calls Tryd.prog 39 #[.slice a 0 c, .slice b 0 d] w fun e w' => e = .returned (.bool true) ∧ ∃ n, w' = w.drewN n := by
  go_enter Tryd.func39, Tryd.ntmps39
  go_wp2
  go_loopw [5] (fun i wr => i = .int .i64 0 ∧ ∃ n, wr = w.drewN n) (fun i wr => 0)
  case atStart => exact ⟨rfl, 0, rfl⟩
  case round =>
    obtain ⟨rfl, n, rfl⟩ := hrel
    go_wp2
    go_ret
    exact ⟨rfl, n, rfl⟩

theorem take_snoc (xs : List Int) (k : Nat) (x : Int) (h : xs[k]? = some x) : xs.take (k + 1) = xs.take k ++ [x] := by
  rw [List.take_add_one, h]; rfl

theorem getSome {α : Type} (xs : List α) (k : Nat) (h : k < xs.length) : ∃ x, xs[k]? = some x := ⟨xs[k], List.getElem?_eq_getElem h⟩

theorem eqInts_go (b o c b' o' c' n : Nat) (xs ys : List Int) (w : World) (hn : xs.length = n) (hm : ys.length = n) (hsz : n * 8 ≤ 140737488351232)
    (hx : ∀ i x, xs[i]? = some x → w.cell? ⟨b, o + i, none⟩ = some (.int .i64 x))
    (hy : ∀ i x, ys[i]? = some x → w.cell? ⟨b', o' + i, none⟩ = some (.int .i64 x)) :
    Calls Tryd.prog 39 #[.slice (some ⟨b, o, none⟩) n c, .slice (some ⟨b', o', none⟩) n c'] w fun e w' => e = .returned (.bool (decide (xs = ys))) ∧ ∃ n, w' = w.drewN n := by
  have HX := Lib.hid hx
  have HY := Lib.hid hy
  have HN := Lib.hid hn
  have HM := Lib.hid hm
  clear hx hy hn hm
  go_enter Tryd.func39, Tryd.ntmps39
  go_wp2
  go_loopw [5] (fun i wr => ∃ k : Nat, k ≤ n ∧ i = .int .i64 k ∧ (∃ m, wr = w.drewN m) ∧ Hid (xs.take k = ys.take k)) (fun i wr => n - (intOf i).toNat)
  case atStart => exact ⟨0, by omega, rfl, ⟨0, rfl⟩, rfl⟩
  case round =>
    obtain ⟨k, hk, rfl, ⟨m, rfl⟩, heq⟩ := hrel
    by_cases hlt : k < n
    · obtain ⟨x, hxk⟩ := getSome xs k (by rw [HN.out]; exact hlt)
      obtain ⟨y, hyk⟩ := getSome ys k (by rw [HM.out]; exact hlt)
      have cx := HX.out k x hxk
      have cy := HY.out k y hyk
      have H1 := Lib.hid hxk
      have H2 := Lib.hid hyk
      clear hxk hyk
      have hk0 : (0 : Int) ≤ k := by omega
      by_cases hxy : x = y
      · subst hxy
        have hb : (x != x) = false := by simp
        go_wp2
        go_quiet (fail)
        go_wp2
        refine ⟨⟨k + 1, by omega, by go_num, ⟨_, rfl⟩, ?_⟩, by simp [intOf]; omega⟩
        show xs.take (k + 1) = ys.take (k + 1)
        rw [take_snoc xs k x H1.out, take_snoc ys k x H2.out, heq.out]
      · have hb : (x != y) = true := by simp [hxy]
        go_wp2
        go_quiet (fail)
        go_wp2
        go_ret
        have hne : xs ≠ ys := by
          rintro rfl
          have := H1.out.symm.trans H2.out
          simp at this
          exact hxy this
        exact ⟨by simp [hne], m + nq, by simp⟩
    · go_wp2
      go_ret
      have hk2 : k = n := by omega
      have e := heq.out
      rw [List.take_of_length_le (by rw [HN.out]; omega), List.take_of_length_le (by rw [HM.out]; omega)] at e
      exact ⟨by simp [e], ⟨_, rfl⟩⟩

/-- eqIntS, whatever the slices. -/
theorem eqInts_any (w : World) (P Q : Nat → Prop) (v u : Value) (xs ys : List Int) (hv : Ints w P v xs) (hu : Ints w Q u ys) :
    Calls Tryd.prog 39 #[v, u] w fun e w' => e = .returned (.bool (decide (xs = ys))) ∧ ∃ n, w' = w.drewN n := by
  obtain ⟨h1, h2⟩ := hv
  obtain ⟨k1, k2⟩ := hu
  by_cases hl : xs.length = ys.length
  · rcases h2 with ⟨b, o, c, rfl, _, hc⟩ | ⟨rfl, a, c, rfl⟩
    · rcases k2 with ⟨b', o', c', rfl, _, hc'⟩ | ⟨rfl, a, c', rfl⟩
      · rw [← hl]
        exact eqInts_go b o c b' o' c' _ xs ys w rfl hl.symm h1 hc hc'
      · obtain rfl : xs = [] := List.eq_nil_of_length_eq_zero hl
        exact eqInts_nil _ _ _ _ w
    · obtain rfl : ys = [] := List.eq_nil_of_length_eq_zero hl.symm
      rcases k2 with ⟨b', o', c', rfl, _, hc'⟩ | ⟨_, a, c', rfl⟩
      · exact eqInts_nil _ _ _ _ w
      · exact eqInts_nil _ _ _ _ w
  · have hne : decide (xs = ys) = false := by
      rw [decide_eq_false_iff_not]
      rintro rfl
      exact hl rfl
    rw [hne]
    obtain ⟨a, c, rfl⟩ : ∃ a c, v = .slice a xs.length c := by
      rcases h2 with ⟨b, o, c, rfl, _⟩ | ⟨rfl, a, c, rfl⟩ <;> exact ⟨_, _, rfl⟩
    obtain ⟨a', c', rfl⟩ : ∃ a c, u = .slice a ys.length c := by
      rcases k2 with ⟨b, o, c, rfl, _⟩ | ⟨rfl, a, c, rfl⟩ <;> exact ⟨_, _, rfl⟩
    exact eqInts_len _ _ _ _ _ _ w hl

theorem eqNode_any (w : World) (P Q : Nat → Prop) (s s' : Int) (t t' : ByteArray) (v u : Value) (xs ys : List Int) (hv : Ints w P v xs) (hu : Ints w Q u ys)
    (hP : ∀ b, P b → b < w.heap.size) (hQ : ∀ b, Q b → b < w.heap.size) :
    Calls Tryd.prog 56 #[.agg #[.int .i64 s, .string t, v], .agg #[.int .i64 s', .string t', u]] w fun e w' => e = .returned (.bool (decide (s = s') && (t.toList == t'.toList) && decide (xs = ys))) ∧ Below w.heap.size w w' := by
  have hB := Lib.hid (below2 w (.cells #[.int .i64 s, .string t, v] 58) (.cells #[.int .i64 s', .string t', u] 58))
  have hE := Lib.hid (eqInts_any ((w.alloc (.cells #[.int .i64 s, .string t, v] 58)).alloc (.cells #[.int .i64 s', .string t', u] 58)) P Q v u xs ys (hv.same fun b hb => hB.out.block b (hP b hb)) (hu.same fun b hb => hB.out.block b (hQ b hb)))
  clear hP hQ hv hu
  by_cases h1 : s = s'
  · subst h1
    have e1 : (s != s) = false := by simp
    by_cases h2 : t.toList = t'.toList
    · have e2 : (!t.toList == t'.toList) = false := by simp [h2]
      by_cases h3 : xs = ys
      · have hE' := hE.out
        rw [decide_eq_true h3] at hE'
        have HE := Lib.hid hE'
        clear hE hE'
        go_enter Tryd.func56, Tryd.ntmps56
        go_wp2_with (go_at_call 39; refine HE.out.mono ?_; rintro e w1 ⟨rfl, nd, rfl⟩)
        go_ret
        exact ⟨by simp [h2, h3], below_drewN hB.out _⟩
      · have hE' := hE.out
        rw [decide_eq_false h3] at hE'
        have HE := Lib.hid hE'
        clear hE hE'
        go_enter Tryd.func56, Tryd.ntmps56
        go_wp2_with (go_at_call 39; refine HE.out.mono ?_; rintro e w1 ⟨rfl, nd, rfl⟩)
        go_ret
        exact ⟨by simp [h3], below_drewN hB.out _⟩
    · have e2 : (!t.toList == t'.toList) = true := by simp [h2]
      go_enter Tryd.func56, Tryd.ntmps56
      go_wp2
      go_ret
      exact ⟨by simp [h2], hB.out⟩
  · have e1 : (s != s') = true := by simp [h1]
    go_enter Tryd.func56, Tryd.ntmps56
    go_wp2
    go_ret
    exact ⟨by simp [h1], hB.out⟩

/-- equal nodes, as Go compares them -/
def Nd.same (a b : Nd) : Bool := decide (a.sort = b.sort) && (a.text.toList == b.text.toList) && decide (a.kids = b.kids)

theorem Nd.same_iff (a b : Nd) : a.same b = true ↔ a = b := by
  obtain ⟨s, t, k⟩ := a
  obtain ⟨s', t', k'⟩ := b
  simp only [Nd.same, Bool.and_eq_true, decide_eq_true_eq, beq_iff_eq, Nd.mk.injEq]
  constructor
  · rintro ⟨⟨h1, h2⟩, h3⟩
    refine ⟨h1, ?_, h3⟩
    rw [ByteArray.toList_eq, ByteArray.toList_eq] at h2
    cases t; cases t'
    simp at h2
    rw [h2]
  · rintro ⟨rfl, rfl, rfl⟩
    exact ⟨⟨rfl, rfl⟩, rfl⟩

instance : DecidableEq Nd := fun a b => decidable_of_iff _ (Nd.same_iff a b)

theorem take_snoc' {α : Type} (xs : List α) (k : Nat) (x : α) (h : xs[k]? = some x) : xs.take (k + 1) = xs.take k ++ [x] := by
  rw [List.take_add_one, h]; rfl

theorem eqNodes_nil (a b : Option Addr) (c d : Nat) (w : World) :
    Calls Tryd.prog 38 #[.slice a 0 c, .slice b 0 d] w fun e w' => e = .returned (.bool true) ∧ Below w.heap.size w w' := by
  go_enter Tryd.func38, Tryd.ntmps38
  go_wp2
  go_loopw [5] (fun i wr => i = .int .i64 0 ∧ wr = w) (fun i wr => 0)
  case atStart => exact ⟨rfl, rfl⟩
  case round =>
    obtain ⟨rfl, rfl⟩ := hrel
    go_wp2
    go_ret
    exact ⟨rfl, Below.refl _ _⟩
theorem eqNodes_len (a b : Option Addr) (n m c d : Nat) (w : World) (h : n ≠ m) :
    Calls Tryd.prog 38 #[.slice a n c, .slice b m d] w fun e w' => e = .returned (.bool false) ∧ Below w.heap.size w w' := by
  have h' : ((n : Int) != (m : Int)) = true := by rw [bne_iff_ne]; omega
  go_enter Tryd.func38, Tryd.ntmps38
  go_wp2
  go_ret
  exact ⟨rfl, Below.refl _ _⟩

set_option maxHeartbeats 1000000 in
theorem eqNodes_go (P Q : Nat → Prop) (b o c b' o' c' n : Nat) (xs ys : List Nd) (w : World) (hn : xs.length = n) (hm : ys.length = n) (hsz : n * 48 ≤ 140737488351232)
    (hP : ∀ b, P b → b < w.heap.size) (hQ : ∀ b, Q b → b < w.heap.size) (hb : b < w.heap.size) (hb' : b' < w.heap.size)
    (hx : ∀ i d, xs[i]? = some d → w.cell? ⟨b, o + i * 3, none⟩ = some (.int .i64 d.sort) ∧ w.cell? ⟨b, o + i * 3 + 1, none⟩ = some (.string d.text) ∧ ∃ kv, w.cell? ⟨b, o + i * 3 + 2, none⟩ = some kv ∧ Ints w P kv d.kids)
    (hy : ∀ i d, ys[i]? = some d → w.cell? ⟨b', o' + i * 3, none⟩ = some (.int .i64 d.sort) ∧ w.cell? ⟨b', o' + i * 3 + 1, none⟩ = some (.string d.text) ∧ ∃ kv, w.cell? ⟨b', o' + i * 3 + 2, none⟩ = some kv ∧ Ints w Q kv d.kids) :
    Calls Tryd.prog 38 #[.slice (some ⟨b, o, none⟩) n c, .slice (some ⟨b', o', none⟩) n c'] w fun e w' => e = .returned (.bool (decide (xs = ys))) ∧ Below w.heap.size w w' := by
  have HX := Lib.hid hx
  have HY := Lib.hid hy
  have HN := Lib.hid hn
  have HM := Lib.hid hm
  have HP := Lib.hid hP
  have HQ := Lib.hid hQ
  clear hx hy hn hm hP hQ
  go_enter Tryd.func38, Tryd.ntmps38
  go_wp2
  go_loopw [5] (fun i wr => ∃ k : Nat, k ≤ n ∧ i = .int .i64 k ∧ Below w.heap.size w wr ∧ Hid (xs.take k = ys.take k)) (fun i wr => n - (intOf i).toNat)
  case atStart => exact ⟨0, by omega, rfl, Below.refl _ _, rfl⟩
  case round =>
    obtain ⟨k, hk, rfl, hbel, heq⟩ := hrel
    by_cases hlt : k < n
    · obtain ⟨x, hxk⟩ := getSome xs k (by rw [HN.out]; exact hlt)
      obtain ⟨y, hyk⟩ := getSome ys k (by rw [HM.out]; exact hlt)
      obtain ⟨cx0, cx1, kx, cx2, ix⟩ := HX.out k x hxk
      obtain ⟨cy0, cy1, ky, cy2, iy⟩ := HY.out k y hyk
      have H1 := Lib.hid hxk
      have H2 := Lib.hid hyk
      clear hxk hyk
      have IX := Lib.hid ix
      have IY := Lib.hid iy
      clear ix iy
      obtain ⟨s, t, ks⟩ := x
      obtain ⟨s', t', ks'⟩ := y
      simp only [] at cx0 cx1 cy0 cy1 IX IY
      have dx0 := (hbel.cell (p := ⟨b, o + k * 3, none⟩) hb).trans cx0
      have dx1 := (hbel.cell (p := ⟨b, o + k * 3 + 1, none⟩) hb).trans cx1
      have dx2 := (hbel.cell (p := ⟨b, o + k * 3 + 2, none⟩) hb).trans cx2
      have dy0 := (hbel.cell (p := ⟨b', o' + k * 3, none⟩) hb').trans cy0
      have dy1 := (hbel.cell (p := ⟨b', o' + k * 3 + 1, none⟩) hb').trans cy1
      have dy2 := (hbel.cell (p := ⟨b', o' + k * 3 + 2, none⟩) hb').trans cy2
      clear cx0 cx1 cx2 cy0 cy1 cy2
      have hk0 : (0 : Int) ≤ k := by omega
      have hk1 : (k : Int) < n := by omega
      have hbr : b < wr.drew.heap.size := Nat.lt_of_lt_of_le hb hbel.size
      have hbr' : b' < wr.drew.heap.size := Nat.lt_of_lt_of_le hb' hbel.size
      have hE := Lib.hid (eqNode_any wr.drew P Q s s' t t' kx ky ks ks' (IX.out.same fun b hb => hbel.block b (HP.out b hb)) (IY.out.same fun b hb => hbel.block b (HQ.out b hb)) (fun b h => Nat.lt_of_lt_of_le (HP.out b h) hbel.size) (fun b h => Nat.lt_of_lt_of_le (HQ.out b h) hbel.size))
      by_cases hxy : Nd.same ⟨s, t, ks⟩ ⟨s', t', ks'⟩ = true
      · have hE' := hE.out
        have hxy2 := hxy
        simp only [Nd.same] at hxy2
        rw [hxy2] at hE'
        have HE := Lib.hid hE'
        clear hE hE' hxy2
        have HXY := Lib.hid hxy
        clear hxy
        go_wp2_with fail
        go_region_held3 (fun w' => w'.cell? ⟨b, o + k * 3, none⟩ = some (.int .i64 s) ∧ w'.cell? ⟨b, o + k * 3 + 1, none⟩ = some (.string t) ∧ w'.cell? ⟨b, o + k * 3 + 2, none⟩ = some kx ∧
            w'.cell? ⟨b', o' + k * 3, none⟩ = some (.int .i64 s') ∧ w'.cell? ⟨b', o' + k * 3 + 1, none⟩ = some (.string t') ∧ w'.cell? ⟨b', o' + k * 3 + 2, none⟩ = some ky)
          (first | go_keep | (refine ⟨?_, ?_, ?_, ?_, ?_, ?_⟩ <;> first | exact (hb1.cell hbr).trans (by assumption) | exact (hb1.cell hbr').trans (by assumption)))
          ((go_at_call 56; refine HE.out.mono ?_; rintro e w1 ⟨rfl, hb1⟩))
        go_wp2
        refine ⟨⟨k + 1, by omega, by go_num, below_then hbel.drew hb1 hbel.drew.size, ?_⟩, by simp [intOf]; omega⟩
        show xs.take (k + 1) = ys.take (k + 1)
        have e := (Nd.same_iff _ _).1 HXY.out
        rw [take_snoc' xs k _ H1.out, take_snoc' ys k _ H2.out, heq.out, e]
      · have hE' := hE.out
        have hxy2 := Bool.eq_false_iff.2 hxy
        simp only [Nd.same] at hxy2
        rw [hxy2] at hE'
        have HE := Lib.hid hE'
        clear hE hE' hxy2
        have HXY := Lib.hid hxy
        clear hxy
        go_wp2_with fail
        go_region_held3 (fun w' => w'.cell? ⟨b, o + k * 3, none⟩ = some (.int .i64 s) ∧ w'.cell? ⟨b, o + k * 3 + 1, none⟩ = some (.string t) ∧ w'.cell? ⟨b, o + k * 3 + 2, none⟩ = some kx ∧
            w'.cell? ⟨b', o' + k * 3, none⟩ = some (.int .i64 s') ∧ w'.cell? ⟨b', o' + k * 3 + 1, none⟩ = some (.string t') ∧ w'.cell? ⟨b', o' + k * 3 + 2, none⟩ = some ky)
          (first | go_keep | (refine ⟨?_, ?_, ?_, ?_, ?_, ?_⟩ <;> first | exact (hb1.cell hbr).trans (by assumption) | exact (hb1.cell hbr').trans (by assumption)))
          ((go_at_call 56; refine HE.out.mono ?_; rintro e w1 ⟨rfl, hb1⟩))
        go_wp2
        go_ret
        have hne : xs ≠ ys := by
          rintro rfl
          have := H1.out.symm.trans H2.out
          exact HXY.out ((Nd.same_iff _ _).2 (Option.some.inj this))
        exact ⟨by simp [hne], below_then hbel.drew hb1 hbel.drew.size⟩
    · go_wp2
      go_ret
      have hk2 : k = n := by omega
      have e := heq.out
      rw [List.take_of_length_le (by rw [HN.out]; omega), List.take_of_length_le (by rw [HM.out]; omega)] at e
      exact ⟨by simp [e], hbel⟩

theorem eqNodes_any (w : World) (P Q : Nat → Prop) (v u : Value) (xs ys : List Nd) (hv : Nodes w P v xs) (hu : Nodes w Q u ys)
    (hP : ∀ b, P b → b < w.heap.size) (hQ : ∀ b, Q b → b < w.heap.size) :
    Calls Tryd.prog 38 #[v, u] w fun e w' => e = .returned (.bool (decide (xs = ys))) ∧ Below w.heap.size w w' := by
  obtain ⟨h1, h2⟩ := hv
  obtain ⟨k1, k2⟩ := hu
  by_cases hl : xs.length = ys.length
  · rcases h2 with ⟨b, o, c, rfl, hb, hc⟩ | ⟨rfl, a, c, rfl⟩
    · rcases k2 with ⟨b', o', c', rfl, hb', hc'⟩ | ⟨rfl, a, c', rfl⟩
      · rw [← hl]
        exact eqNodes_go P Q b o c b' o' c' _ xs ys w rfl hl.symm h1 hP hQ (hP _ hb) (hQ _ hb') (fun i d h => ⟨(hc i d h).1, (hc i d h).2.1, (hc i d h).2.2.2⟩) (fun i d h => ⟨(hc' i d h).1, (hc' i d h).2.1, (hc' i d h).2.2.2⟩)
      · obtain rfl : xs = [] := List.eq_nil_of_length_eq_zero hl
        exact eqNodes_nil _ _ _ _ w
    · obtain rfl : ys = [] := List.eq_nil_of_length_eq_zero hl.symm
      rcases k2 with ⟨b', o', c', rfl, _, hc'⟩ | ⟨_, a, c', rfl⟩
      · exact eqNodes_nil _ _ _ _ w
      · exact eqNodes_nil _ _ _ _ w
  · have hne : decide (xs = ys) = false := by
      rw [decide_eq_false_iff_not]
      rintro rfl
      exact hl rfl
    rw [hne]
    obtain ⟨a, c, rfl⟩ : ∃ a c, v = .slice a xs.length c := by
      rcases h2 with ⟨b, o, c, rfl, _⟩ | ⟨rfl, a, c, rfl⟩ <;> exact ⟨_, _, rfl⟩
    obtain ⟨a', c', rfl⟩ : ∃ a c, u = .slice a ys.length c := by
      rcases k2 with ⟨b, o, c, rfl, _⟩ | ⟨rfl, a, c, rfl⟩ <;> exact ⟨_, _, rfl⟩
    exact eqNodes_len _ _ _ _ _ _ w hl

theorem eqData_any (w : World) (P Q : Nat → Prop) (v u : Value) (xs ys : List Nd) (rs qs : List Int) (hv : Dat w P v xs rs) (hu : Dat w Q u ys qs)
    (hP : ∀ b, P b → b < w.heap.size) (hQ : ∀ b, Q b → b < w.heap.size) :
    Calls Tryd.prog 15 #[v, u] w fun e w' => e = .returned (.bool (decide (xs = ys) && decide (rs = qs))) ∧ Below w.heap.size w w' := by
  obtain ⟨nv, rv, rfl, n1, r1⟩ := hv
  obtain ⟨nu, ru, rfl, n2, r2⟩ := hu
  have hB := Lib.hid (below2 w (.cells #[nv, rv] 38) (.cells #[nu, ru] 38))
  have hs : w.heap.size ≤ ((w.alloc (.cells #[nv, rv] 38)).alloc (.cells #[nu, ru] 38)).heap.size := hB.out.size
  have hN := Lib.hid (eqNodes_any ((w.alloc (.cells #[nv, rv] 38)).alloc (.cells #[nu, ru] 38)) P Q nv nu xs ys (n1.same fun b hb => hB.out.block b (hP b hb)) (n2.same fun b hb => hB.out.block b (hQ b hb)) (fun b h => Nat.lt_of_lt_of_le (hP b h) hs) (fun b h => Nat.lt_of_lt_of_le (hQ b h) hs))
  have hR := Lib.hid (fun wx (hx : Below w.heap.size w wx) => eqInts_any wx P Q rv ru rs qs (r1.same fun b hb => hx.block b (hP b hb)) (r2.same fun b hb => hx.block b (hQ b hb)))
  clear hs n1 n2 r1 r2 hP hQ
  by_cases h1 : xs = ys
  · have hN' := hN.out
    rw [decide_eq_true h1] at hN'
    have HN := Lib.hid hN'
    clear hN hN'
    go_enter Tryd.func15, Tryd.ntmps15
    go_wp2_with fail
    refine HN.out.mono ?_
    rintro e w1 ⟨rfl, hb1⟩
    have B0 := (Blk.two w _ _ _ _).1.below hb1
    have B1 := (Blk.two w _ _ _ _).2.below hb1
    have c0 := B0.cell0 (o := 1) rfl
    have c1 := B1.cell0 (o := 1) rfl
    have E := below2b hb1
    go_wp2_with fail
    refine (hR.out _ E).mono ?_
    rintro e w2 ⟨rfl, nd, rfl⟩
    go_wp2
    all_goals
      go_ret
      exact ⟨by simp_all, below_drewN E _⟩
  · have hN' := hN.out
    rw [decide_eq_false h1] at hN'
    have HN := Lib.hid hN'
    clear hN hN'
    go_enter Tryd.func15, Tryd.ntmps15
    go_wp2_with fail
    refine HN.out.mono ?_
    rintro e w1 ⟨rfl, hb1⟩
    have E := below2b hb1
    go_wp2
    go_ret
    exact ⟨by simp [h1], E⟩
end Go.Proofs.YtjpkmcaogekkdaaDoor.Rm
