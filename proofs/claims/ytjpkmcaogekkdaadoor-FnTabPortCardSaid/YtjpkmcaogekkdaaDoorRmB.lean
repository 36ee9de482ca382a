/- The size of data in the law, walked. -/
import Derived.Test.YtjpkmcaogekkdaaDoorRmA
namespace Go.Proofs.YtjpkmcaogekkdaaDoor.Rm
open Go.RowKit
set_option linter.unusedVariables false
set_option linter.unusedSimpArgs false

/-- what is left of l behind m, -1 if that is too much -/
def szRes (l : Int) (m : Nat) : Int := if (m : Int) ≤ l then l - m else -1
theorem szRes_yes {l : Int} {m : Nat} (h : (m : Int) ≤ l) : szRes l m = l - m := if_pos h
theorem szRes_no {l : Int} {m : Nat} (h : ¬ (m : Int) ≤ l) : szRes l m = -1 := if_neg h
theorem ret_int {k : IntKind} {a b : Int} (h : a = b) : Ending.returned (.int k a) = .returned (.int k b) := by rw [h]

theorem szInts_any (a : Option Addr) (n c : Nat) (l : Int) (w : World) (h0 : 0 ≤ l) (h1 : l ≤ 1048576) (hn : n * 8 ≤ 140737488351232) :
    Calls Tryd.prog 26 #[.slice a n c, .int .i64 l] w fun e w' => e = .returned (.int .i64 (szRes l n)) ∧ w = w' := by
  by_cases h : (n : Int) ≤ l
  · rw [szRes_yes h]
    go_enter Tryd.func26, Tryd.ntmps26
    go_wp2
    go_ret
    exact ⟨rfl, rfl⟩
  · rw [szRes_no h]
    go_enter Tryd.func26, Tryd.ntmps26
    go_wp2
    go_ret
    exact ⟨rfl, rfl⟩

theorem Ints.shape {w : World} {P : Nat → Prop} {v : Value} {xs : List Int} (h : Ints w P v xs) : ∃ a c, v = .slice a xs.length c := by
  rcases h.2 with ⟨b, o, c, rfl, _⟩ | ⟨rfl, a, c, rfl⟩ <;> exact ⟨_, _, rfl⟩
theorem Nodes.shape {w : World} {P : Nat → Prop} {v : Value} {xs : List Nd} (h : Nodes w P v xs) : ∃ a c, v = .slice a xs.length c := by
  rcases h.2 with ⟨b, o, c, rfl, _⟩ | ⟨rfl, a, c, rfl⟩ <;> exact ⟨_, _, rfl⟩

/-- how many values and letters a node holds -/
def Nd.bulk (d : Nd) : Nat := d.text.size + d.kids.length

theorem szNode_any (s : Int) (t : ByteArray) (a : Option Addr) (n c : Nat) (l : Int) (w : World) (h0 : 0 ≤ l) (h1 : l ≤ 1048576) (hn : n * 8 ≤ 140737488351232) (ht : t.size ≤ 140737488351232) :
    Calls Tryd.prog 49 #[.agg #[.int .i64 s, .string t, .slice a n c], .int .i64 l] w fun e w' => e = .returned (.int .i64 (szRes l (t.size + n))) ∧ Below w.heap.size w w' := by
  by_cases h : ((t.size + n : Nat) : Int) ≤ l
  · rw [szRes_yes h]
    have HS := Lib.hid (fun w => szInts_any a n c (l - t.size) w (by omega) (by omega) hn)
    rw [szRes_yes (by omega)] at HS
    have hh : (t.size : Int) ≤ l := by omega
    have h3 : 0 ≤ l - t.size - n := by omega
    go_enter Tryd.func49, Tryd.ntmps49
    go_wp2_with (go_at_call 26; refine (HS.out _).mono ?_; rintro e w1 ⟨rfl, rfl⟩)
    go_ret
    exact ⟨ret_int (by omega), below1 _ _⟩
  · rw [szRes_no h]
    by_cases hh : (t.size : Int) ≤ l
    · have HS := Lib.hid (fun w => szInts_any a n c (l - t.size) w (by omega) (by omega) hn)
      rw [szRes_no (by omega)] at HS
      go_enter Tryd.func49, Tryd.ntmps49
      go_wp2_with (go_at_call 26; refine (HS.out _).mono ?_; rintro e w1 ⟨rfl, rfl⟩)
      go_ret
      exact ⟨rfl, below1 _ _⟩
    · go_enter Tryd.func49, Tryd.ntmps49
      go_wp2
      go_ret
      exact ⟨rfl, below1 _ _⟩

def bulks (ns : List Nd) : Nat := (ns.map Nd.bulk).sum
theorem bulks_take (ns : List Nd) (k : Nat) (d : Nd) (h : ns[k]? = some d) : bulks (ns.take (k + 1)) = bulks (ns.take k) + d.bulk := by
  rw [take_snoc' ns k d h]
  simp [bulks]
theorem bulks_le (ns : List Nd) (k : Nat) : bulks (ns.take k) ≤ bulks ns := by
  have h : bulks ns = bulks (ns.take k) + bulks (ns.drop k) := by
    unfold bulks
    rw [← List.sum_append, ← List.map_append, List.take_append_drop]
  omega

theorem szNodes_short (a : Option Addr) (n c : Nat) (l : Int) (w : World) (h0 : 0 ≤ l) (h1 : l ≤ 1048576) (hn : n * 48 ≤ 140737488351232) (h : l < n) :
    Calls Tryd.prog 25 #[.slice a n c, .int .i64 l] w fun e w' => e = .returned (.int .i64 (-1)) ∧ Below w.heap.size w w' := by
  go_enter Tryd.func25, Tryd.ntmps25
  go_wp2
  go_ret
  exact ⟨rfl, Below.refl _ _⟩

theorem szNodes_nil (a : Option Addr) (c : Nat) (l : Int) (w : World) (h0 : 0 ≤ l) (h1 : l ≤ 1048576) :
    Calls Tryd.prog 25 #[.slice a 0 c, .int .i64 l] w fun e w' => e = .returned (.int .i64 l) ∧ Below w.heap.size w w' := by
  go_enter Tryd.func25, Tryd.ntmps25
  go_wp2
  go_loopw [1, 5] (fun x i wr => x = .int .i64 l ∧ i = .int .i64 0 ∧ wr = w) (fun x i wr => 0)
  case atStart => exact ⟨rfl, rfl, rfl⟩
  case round =>
    obtain ⟨rfl, rfl, rfl⟩ := hrel
    go_wp2
    go_ret
    exact ⟨rfl, Below.refl _ _⟩

theorem szNodes_go (P : Nat → Prop) (b o c n : Nat) (xs : List Nd) (l : Int) (w : World) (h0 : 0 ≤ l) (h1 : l ≤ 1048576) (hn : xs.length = n) (hsz : n * 48 ≤ 140737488351232) (hnl : (n : Int) ≤ l) (hb : b < w.heap.size)
    (hx : ∀ i d, xs[i]? = some d → w.cell? ⟨b, o + i * 3, none⟩ = some (.int .i64 d.sort) ∧ w.cell? ⟨b, o + i * 3 + 1, none⟩ = some (.string d.text) ∧ d.text.size ≤ 140737488351232 ∧ ∃ kv, w.cell? ⟨b, o + i * 3 + 2, none⟩ = some kv ∧ Ints w P kv d.kids) :
    Calls Tryd.prog 25 #[.slice (some ⟨b, o, none⟩) n c, .int .i64 l] w fun e w' => e = .returned (.int .i64 (szRes l (n + bulks xs))) ∧ Below w.heap.size w w' := by
  have HX := Lib.hid hx
  have HN := Lib.hid hn
  clear hx hn
  have hln : 0 ≤ l - n := by omega
  go_enter Tryd.func25, Tryd.ntmps25
  go_wp2
  go_loopw [1, 5] (fun x i wr => ∃ k : Nat, k ≤ n ∧ i = .int .i64 k ∧ Below w.heap.size w wr ∧ n + bulks (xs.take k) ≤ l ∧ ∃ m : Int, x = .int .i64 m ∧ Hid (m = l - (n + bulks (xs.take k) : Nat))) (fun x i wr => n - (intOf i).toNat)
  case atStart => exact ⟨0, by omega, rfl, Below.refl _ _, by simp [bulks]; omega, l - n, rfl, by simp [bulks, Hid]⟩
  case round =>
    obtain ⟨k, hk, rfl, hbel, hle, m, rfl, hm⟩ := hrel
    have hm0 : 0 ≤ m := by have := hm.out; omega
    have hm1 : m ≤ 1048576 := by have := hm.out; omega
    by_cases hlt : k < n
    · obtain ⟨x, hxk⟩ := getSome xs k (by rw [HN.out]; exact hlt)
      obtain ⟨cx0, cx1, tx, kx, cx2, ix⟩ := HX.out k x hxk
      have hbk := bulks_take xs k x hxk
      have hbl := bulks_le xs (k + 1)
      obtain ⟨a', c', rfl⟩ := ix.shape
      have ix1 := ix.1
      clear ix
      obtain ⟨s, t, ks⟩ := x
      simp only [] at cx0 cx1 cx2 tx ix1
      simp only [Nd.bulk] at hbk
      generalize ks.length = kn at *
      have HS := Lib.hid (fun w => szNode_any s t a' kn c' m w hm0 hm1 ix1 tx)
      have dx0 := (hbel.cell (p := ⟨b, o + k * 3, none⟩) hb).trans cx0
      have dx1 := (hbel.cell (p := ⟨b, o + k * 3 + 1, none⟩) hb).trans cx1
      have dx2 := (hbel.cell (p := ⟨b, o + k * 3 + 2, none⟩) hb).trans cx2
      clear cx0 cx1 cx2 hxk
      have hk0 : (0 : Int) ≤ k := by omega
      have hk1 : (k : Int) < n := by omega
      have HB := Lib.hid hbk
      have HL := Lib.hid hbl
      have HE := Lib.hid hle
      clear hbk hbl hle
      by_cases hc : ((t.size + kn : Nat) : Int) ≤ m
      · rw [szRes_yes hc] at HS
        have hc2 : 0 ≤ m - (t.size + kn : Nat) := by omega
        go_wp2_with (go_at_call 49; refine (HS.out _).mono ?_; rintro e w1 ⟨rfl, hb1⟩)
        refine ⟨⟨k + 1, by omega, by go_num, below_then hbel hb1 hbel.size, ?_, _, rfl, ?_⟩, by simp [intOf]; omega⟩
        · have := HB.out; have := hm.out; have := HE.out; omega
        · show _ = _
          have := HB.out; have := hm.out; omega
      · rw [szRes_no hc] at HS
        go_wp2_with (go_at_call 49; refine (HS.out _).mono ?_; rintro e w1 ⟨rfl, hb1⟩)
        go_ret
        refine ⟨?_, below_then hbel hb1 hbel.size⟩
        have hno : ¬ ((n + bulks xs : Nat) : Int) ≤ l := by
          have := HB.out; have := hm.out; have := HE.out; have := HL.out; omega
        exact ret_int (szRes_no hno).symm
    · go_wp2
      go_ret
      refine ⟨?_, hbel⟩
      have e : xs.take k = xs := List.take_of_length_le (by rw [HN.out]; omega)
      rw [e] at hm hle
      exact ret_int (by rw [szRes_yes (by omega), hm.out])

theorem szNodes_any (w : World) (P : Nat → Prop) (v : Value) (xs : List Nd) (l : Int) (h0 : 0 ≤ l) (h1 : l ≤ 1048576) (hv : Nodes w P v xs) (hP : ∀ b, P b → b < w.heap.size) :
    Calls Tryd.prog 25 #[v, .int .i64 l] w fun e w' => e = .returned (.int .i64 (szRes l (xs.length + bulks xs))) ∧ Below w.heap.size w w' := by
  by_cases h : (xs.length : Int) ≤ l
  · rcases hv.2 with ⟨b, o, c, rfl, hb, hc⟩ | ⟨rfl, a, c, rfl⟩
    · exact szNodes_go P b o c _ xs l w h0 h1 rfl hv.1 h (hP _ hb) hc
    · rw [szRes_yes (by simpa [bulks] using h0)]
      have := szNodes_nil a c l w h0 h1
      simpa [bulks] using this
  · rw [szRes_no (by omega)]
    obtain ⟨a, c, rfl⟩ := hv.shape
    exact szNodes_short a _ c l w h0 h1 hv.1 (by omega)

/-- how many values and letters data hold -/
def bulk (ns : List Nd) (rs : List Int) : Nat := ns.length + bulks ns + rs.length

theorem szData_any (w : World) (P : Nat → Prop) (v : Value) (xs : List Nd) (rs : List Int) (hv : Dat w P v xs rs) (hP : ∀ b, P b → b < w.heap.size) :
    Calls Tryd.prog 11 #[v, .int .i64 1048576] w fun e w' => e = .returned (.int .i64 (szRes 1048576 (bulk xs rs))) ∧ Below w.heap.size w w' := by
  obtain ⟨nv, rv, rfl, n1, r1⟩ := hv
  have hB := below1 w (.cells #[nv, rv] 34)
  have hN := Lib.hid (szNodes_any (w.alloc (.cells #[nv, rv] 34)) P nv xs 1048576 (by omega) (by omega) (n1.same fun b hb => hB.block b (hP b hb)) (fun b h => Nat.lt_of_lt_of_le (hP b h) hB.size))
  have r0 := r1.1
  obtain ⟨a, c, rfl⟩ := r1.shape
  clear hB n1 r1 hP
  unfold bulk
  generalize rs.length = rn at *
  generalize xs.length + bulks xs = m at *
  by_cases h : ((m : Nat) : Int) ≤ 1048576
  · rw [szRes_yes h] at hN
    have HR := Lib.hid (fun w => szInts_any a rn c (1048576 - (m : Nat)) w (by omega) (by omega) r0)
    have hm : 0 ≤ 1048576 - (m : Int) := by omega
    by_cases h2 : m + rn ≤ 1048576
    · rw [szRes_yes (by omega)] at HR
      rw [szRes_yes (by omega)]
      have h3 : 0 ≤ 1048576 - (m : Int) - rn := by omega
      go_enter Tryd.func11, Tryd.ntmps11
      go_wp2_with fail
      refine hN.out.mono ?_
      rintro e w1 ⟨rfl, hb1⟩
      have c1 := ((Blk.new w _ _).below hb1).cell0 (o := 1) rfl
      go_wp2_with (go_at_call 26; refine (HR.out _).mono ?_; rintro e w2 ⟨rfl, rfl⟩)
      go_ret
      exact ⟨ret_int (by omega), below1b hb1⟩
    · rw [szRes_no (by omega)] at HR
      rw [szRes_no (by omega)]
      go_enter Tryd.func11, Tryd.ntmps11
      go_wp2_with fail
      refine hN.out.mono ?_
      rintro e w1 ⟨rfl, hb1⟩
      have c1 := ((Blk.new w _ _).below hb1).cell0 (o := 1) rfl
      go_wp2_with (go_at_call 26; refine (HR.out _).mono ?_; rintro e w2 ⟨rfl, rfl⟩)
      go_ret
      exact ⟨rfl, below1b hb1⟩
  · rw [szRes_no h] at hN
    rw [szRes_no (by omega)]
    go_enter Tryd.func11, Tryd.ntmps11
    go_wp2_with (go_at_call 25; refine hN.out.mono ?_; rintro e w1 ⟨rfl, hb1⟩)
    go_ret
    exact ⟨rfl, below1b hb1⟩
end Go.Proofs.YtjpkmcaogekkdaaDoor.Rm
