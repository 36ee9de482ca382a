/- Copies of data in the law, walked. -/
import Derived.Test.YtjpkmcaogekkdaaDoorRmB
import Derived.Laws.MakeOwn
import Derived.OwnWalk
namespace Go.Proofs.YtjpkmcaogekkdaaDoor.Rm
open Go.RowKit
set_option linter.unusedVariables false
set_option linter.unusedSimpArgs false

theorem info3 : (Tryd.prog.info? 3).map (fun i => (i.zero, i.size, i.bytes)) = some (some (.int .i64 0), 1, 8) := by kernel_rfl
theorem info58 : (Tryd.prog.info? 58).map (fun i => (i.zero, i.size, i.bytes)) = some (some (.agg #[.int .i64 0, .string ⟨#[]⟩, .slice none 0 0]), 3, 48) := by kernel_rfl

/-- n noughts -/
def zrow (n : Nat) : Array Value := madeCells #[.int .i64 0] n
theorem zrow_size (n : Nat) : (zrow n).size = n := size_madeCells _ _
theorem zrow_at (n i : Nat) (h : i < n) : (zrow n)[i]? = some (.int .i64 0) := by
  rw [← Array.getElem?_toList, zrow, toList_madeCells_one]
  simp [h]

theorem make_ints (n : Nat) (hn : n * 8 ≤ 140737488351232) (w : World) :
    (Instr.makeSlice 32 (.int .i64 n) (.int .i64 n)).run Tryd.prog w = .ok (.slice (some ⟨w.heap.size, 0, none⟩) n n) (w.alloc (.cells (zrow n) 3)) := by
  obtain ⟨i0, hi, hz0, hz1, hz2⟩ := info_parts info3
  have := run_make (P := Tryd.prog) w 32 3 i0 (.int .i64 0) Tryd.underlying32 hi hz0 .i64 .i64 n n (by omega) (Int.le_refl _) (by rw [hz2]; omega) (by omega)
  rw [this]
  simp only [Int.toNat_natCast, hz1, Nat.mul_one]
  rfl

theorem toInts_go (b o c n : Nat) (xs : List Int) (w : World) (hn : xs.length = n) (hsz : n * 8 ≤ 140737488351232) (hb : b < w.heap.size)
    (hx : ∀ i x, xs[i]? = some x → w.cell? ⟨b, o + i, none⟩ = some (.int .i64 x)) :
    Calls Tryd.prog 33 #[.slice (some ⟨b, o, none⟩) n c] w fun e w' => e = .returned (.slice (some ⟨w.heap.size, 0, none⟩) n n) ∧ Below w.heap.size w w' ∧ OwnInts w' w.heap.size (.slice (some ⟨w.heap.size, 0, none⟩) n n) xs := by
  have HX := Lib.hid hx
  have HN := Lib.hid hn
  have HMK := make_ints n hsz
  clear hx hn
  go_enter Tryd.func33, Tryd.ntmps33
  go_wp2
  go_loopw [4] (fun i wr => ∃ k : Nat, k ≤ n ∧ i = .int .i64 k ∧ Below w.heap.size w wr ∧ ∃ C : Array Value, Blk wr w.heap.size C 3 ∧ Hid (C.size = n ∧ ∀ j x, j < k → xs[j]? = some x → C[j]? = some (.int .i64 x))) (fun i wr => n - (intOf i).toNat)
  case atStart => exact ⟨0, by omega, rfl, below1 _ _, zrow n, Blk.new _ _ _, zrow_size n, fun j x hj => by omega⟩
  case round =>
    obtain ⟨k, hk, rfl, hbel, C, hB, hC⟩ := hrel
    by_cases hlt : k < n
    · obtain ⟨x, hxk⟩ := getSome xs k (by rw [HN.out]; exact hlt)
      have cx := (hbel.cell (p := ⟨b, o + k, none⟩) hb).trans (HX.out k x hxk)
      have HK := Lib.hid hxk
      clear hxk
      obtain ⟨old, ho⟩ : ∃ v, C[k]? = some v := ⟨C[k]'(by rw [hC.out.1]; exact hlt), Array.getElem?_eq_getElem _⟩
      have cy := hB.cell0 ho
      have cf := hB.free k
      clear ho
      have hk0 : (0 : Int) ≤ k := by omega
      go_wp2
      refine ⟨⟨k + 1, by omega, by go_num, hbel.setCell (by simp) _, _, hB.set k _, ?_, ?_⟩, by simp [intOf]; omega⟩
      · rw [Array.size_setIfInBounds]; exact hC.out.1
      · intro j y hj hy
        rw [Array.getElem?_setIfInBounds]
        by_cases hjk : k = j
        · subst hjk
          rw [if_pos rfl, if_pos (by rw [hC.out.1]; exact hlt)]
          have := HK.out.symm.trans hy
          rw [Option.some.inj this]
        · rw [if_neg hjk]
          exact hC.out.2 j y (by omega) hy
    · go_wp2
      go_ret
      refine ⟨rfl, hbel, by rw [HN.out]; exact hsz, n, C, by rw [HN.out], hB, fun i x hi => hC.out.2 i x ?_ hi⟩
      have := (List.getElem?_eq_some_iff.1 hi).1
      rw [HN.out] at this
      omega

theorem toInts_nil (a : Option Addr) (c : Nat) (w : World) :
    Calls Tryd.prog 33 #[.slice a 0 c] w fun e w' => e = .returned (.slice (some ⟨w.heap.size, 0, none⟩) 0 0) ∧ Below w.heap.size w w' ∧ OwnInts w' w.heap.size (.slice (some ⟨w.heap.size, 0, none⟩) 0 0) [] := by
  have HMK : ∀ w, (Instr.makeSlice 32 (.int .i64 0) (.int .i64 0)).run Tryd.prog w = .ok (.slice (some ⟨w.heap.size, 0, none⟩) 0 0) (w.alloc (.cells (zrow 0) 3)) := make_ints 0 (by omega)
  go_enter Tryd.func33, Tryd.ntmps33
  go_wp2
  go_loopw [4] (fun i wr => i = .int .i64 0 ∧ wr = w.alloc (.cells (zrow 0) 3)) (fun i wr => 0)
  case atStart => exact ⟨rfl, rfl⟩
  case round =>
    obtain ⟨rfl, rfl⟩ := hrel
    go_wp2
    go_ret
    exact ⟨rfl, below1 _ _, by simp, 0, _, rfl, Blk.new _ _ _, fun i x h => by simp at h⟩

theorem toInts_any (w : World) (P : Nat → Prop) (v : Value) (xs : List Int) (hv : Ints w P v xs) (hP : ∀ b, P b → b < w.heap.size) :
    Calls Tryd.prog 33 #[v] w fun e w' => e = .returned (.slice (some ⟨w.heap.size, 0, none⟩) xs.length xs.length) ∧ Below w.heap.size w w' ∧ OwnInts w' w.heap.size (.slice (some ⟨w.heap.size, 0, none⟩) xs.length xs.length) xs := by
  rcases hv.2 with ⟨b, o, c, rfl, hb, hc⟩ | ⟨rfl, a, c, rfl⟩
  · exact toInts_go b o c _ xs w rfl hv.1 (hP _ hb) hc
  · exact toInts_nil a c w

theorem toNode_any (w : World) (P : Nat → Prop) (s : Int) (t : ByteArray) (v : Value) (xs : List Int) (hv : Ints w P v xs) (hP : ∀ b, P b → b < w.heap.size) :
    Calls Tryd.prog 51 #[.agg #[.int .i64 s, .string t, v]] w fun e w' => e = .returned (.agg #[.int .i64 s, .string t, .slice (some ⟨w.heap.size + 1 + 1 + 1, 0, none⟩) xs.length xs.length]) ∧ Below w.heap.size w w' ∧ OwnInts w' (w.heap.size + 1 + 1 + 1) (.slice (some ⟨w.heap.size + 1 + 1 + 1, 0, none⟩) xs.length xs.length) xs := by
  have HT := Lib.hid (fun wx (hx : Below w.heap.size w wx) => toInts_any wx P v xs (hv.same fun b hb => hx.block b (hP b hb)) (fun b h => Nat.lt_of_lt_of_le (hP b h) hx.size))
  clear hv hP
  generalize xs.length = n at *
  go_enter Tryd.func51, Tryd.ntmps51
  go_wp2_with fail
  refine (HT.out _ (below3 _ _ _ _)).mono ?_
  rintro e w1 ⟨rfl, hb1, ho⟩
  obtain ⟨B0, B1, B2⟩ := Blk.three w #[.int .i64 s, .string t, v] #[.int .i64 0, .string ⟨#[]⟩, .slice none 0 0] #[.int .i64 s, .string t, .slice none 0 0] 80 58 58
  replace B1 := B1.below hb1
  replace B2 := B2.below hb1
  have c0 := B1.cell0 (o := 0) rfl
  have c1 := B1.cell0 (o := 1) rfl
  have c2 := B1.cell0 (o := 2) rfl
  have d0 := B2.cell0 (o := 0) rfl
  have d1 := B2.cell0 (o := 1) rfl
  have d2 := B2.cell0 (o := 2) rfl
  have f0 := B1.free 0
  have f1 := B1.free 1
  have f2 := B1.free 2
  have g2 := B2.free 2
  have hz : (((w.alloc (.cells #[.int .i64 s, .string t, v] 80)).alloc (.cells #[.int .i64 0, .string ⟨#[]⟩, .slice none 0 0] 58)).alloc (.cells #[.int .i64 s, .string t, .slice none 0 0] 58)).heap.size = w.heap.size + 1 + 1 + 1 := by simp
  rw [hz] at ho
  have HO := Lib.hid ho
  clear ho hz
  have E := below3b hb1
  clear B0 hb1
  go_wp2
  refine bodyPost_ret (v := .agg #[.int .i64 s, .string t, .slice (some ⟨w.heap.size + 1 + 1 + 1, 0, none⟩) n n]) (by simp [results, Tryd.results51, go_sem, c0, c1, c2, d0, d1, d2]) rfl ⟨rfl, ?_, ?_⟩
  · exact (((E.setCell (by simp; omega) _).setCell (by simp) _).setCell (by simp) _).setCell (by simp) _
  · exact (((HO.out.set (by simp) _).set (by simp; omega) _).set (by simp; omega) _).set (by simp; omega) _

/-- n nodes of nothing -/
def nrow (n : Nat) : Array Value := madeCells #[.int .i64 0, .string ⟨#[]⟩, .slice none 0 0] (n * 3)
theorem nrow_size (n : Nat) : (nrow n).size = n * 3 := size_madeCells _ _

theorem make_nodes (n : Nat) (hn : n * 48 ≤ 140737488351232) (w : World) :
    (Instr.makeSlice 36 (.int .i64 n) (.int .i64 n)).run Tryd.prog w = .ok (.slice (some ⟨w.heap.size, 0, none⟩) n n) (w.alloc (.cells (nrow n) 58)) := by
  obtain ⟨i0, hi, hz0, hz1, hz2⟩ := info_parts info58
  have := run_make (P := Tryd.prog) w 36 58 i0 _ Tryd.underlying36 hi hz0 .i64 .i64 n n (by omega) (Int.le_refl _) (by rw [hz2]; omega) (by omega)
  rw [this]
  simp only [Int.toNat_natCast, hz1]
  rfl

theorem getAt {C : Array Value} {i : Nat} (h : i < C.size) : ∃ v, C[i]? = some v := ⟨C[i], Array.getElem?_eq_getElem h⟩

theorem toNodes_go (P : Nat → Prop) (b o c n : Nat) (xs : List Nd) (w : World) (hn : xs.length = n) (hsz : n * 48 ≤ 140737488351232) (hb : b < w.heap.size) (hP : ∀ b, P b → b < w.heap.size)
    (hx : ∀ i d, xs[i]? = some d → w.cell? ⟨b, o + i * 3, none⟩ = some (.int .i64 d.sort) ∧ w.cell? ⟨b, o + i * 3 + 1, none⟩ = some (.string d.text) ∧ d.text.size ≤ 140737488351232 ∧ ∃ kv, w.cell? ⟨b, o + i * 3 + 2, none⟩ = some kv ∧ Ints w P kv d.kids) :
    Calls Tryd.prog 32 #[.slice (some ⟨b, o, none⟩) n c] w fun e w' => e = .returned (.slice (some ⟨w.heap.size, 0, none⟩) n n) ∧ Below w.heap.size w w' ∧
      ∃ gs C, Blk w' w.heap.size C 58 ∧ NodeCells w' C gs xs ∧ (w.heap.size :: gs).Pairwise (· < ·) := by
  have HX := Lib.hid hx
  have HN := Lib.hid hn
  have HMK := make_nodes n hsz
  have HP := Lib.hid hP
  clear hx hn hP
  go_enter Tryd.func32, Tryd.ntmps32
  go_wp2
  go_loopw [4] (fun i wr => ∃ k : Nat, k ≤ n ∧ i = .int .i64 k ∧ Below w.heap.size w wr ∧ ∃ (C : Array Value) (gs : List Nat), Blk wr w.heap.size C 58 ∧ Hid (C.size = n * 3) ∧ NodeCells wr C gs (xs.take k) ∧ (w.heap.size :: gs).Pairwise (· < ·)) (fun i wr => n - (intOf i).toNat)
  case atStart => exact ⟨0, by omega, rfl, below1 _ _, nrow n, [], Blk.new _ _ _, nrow_size n, ⟨rfl, fun i d g h => by simp at h⟩, by simp⟩
  case round =>
    obtain ⟨k, hk, rfl, hbel, C, gs, hB, hC, hN, hS⟩ := hrel
    by_cases hlt : k < n
    · obtain ⟨x, hxk⟩ := getSome xs k (by rw [HN.out]; exact hlt)
      obtain ⟨cx0, cx1, tx, kx, cx2, ix⟩ := HX.out k x hxk
      have HK := Lib.hid hxk
      clear hxk
      have dx0 := (hbel.cell (p := ⟨b, o + k * 3, none⟩) hb).trans cx0
      have dx1 := (hbel.cell (p := ⟨b, o + k * 3 + 1, none⟩) hb).trans cx1
      have dx2 := (hbel.cell (p := ⟨b, o + k * 3 + 2, none⟩) hb).trans cx2
      clear cx0 cx1 cx2
      have HT := Lib.hid (toNode_any wr P x.sort x.text kx x.kids (ix.same fun b hb => hbel.block b (HP.out b hb)) (fun b h => Nat.lt_of_lt_of_le (HP.out b h) hbel.size))
      have hkl : k * 3 + 2 < C.size := by rw [hC.out]; omega
      obtain ⟨o0, h0⟩ := getAt (C := C) (i := k * 3) (by omega)
      obtain ⟨o1, h1⟩ := getAt (C := C) (i := k * 3 + 1) (by omega)
      obtain ⟨o2, h2⟩ := getAt (C := C) (i := k * 3 + 2) (by omega)
      have hk0 : (0 : Int) ≤ k := by omega
      have hk1 : (k : Int) < n := by omega
      have HS := Lib.hid hS
      have HNC := Lib.hid hN
      clear hS hN hkl
      go_wp2_with fail
      refine HT.out.mono ?_
      rintro e w1 ⟨rfl, hb1, ho⟩
      have B1 := hB.below hb1
      have c0 := B1.cell0 h0
      have c1 := B1.cell0 h1
      have c2 := B1.cell0 h2
      have f0 := B1.free (k * 3)
      have f1 := B1.free (k * 3 + 1)
      have f2 := B1.free (k * 3 + 2)
      clear h0 h1 h2
      have hsz1 := hb1.size
      go_wp2
      have hlen : (xs.take k).length = k := by rw [List.length_take, HN.out]; omega
      have hgs : ∀ g ∈ gs, w.heap.size < g ∧ g < wr.heap.size := fun g hg => ⟨List.rel_of_pairwise_cons HS.out hg, HNC.out.lt g hg⟩
      have hG : w.heap.size < wr.heap.size := hB.lt
      have hN1 : NodeCells w1 C gs (xs.take k) := HNC.out.carry fun g hg => hb1.block g (hgs g hg).2
      refine ⟨⟨k + 1, by omega, by go_num, (((below_then hbel hb1 hbel.size).setCell (by simp) _).setCell (by simp) _).setCell (by simp) _, _, gs ++ [wr.heap.size + 1 + 1 + 1], ((B1.set _ _).set _ _).set _ _, ?_, ?_, ?_⟩, by simp [intOf]; omega⟩
      · show _ = _
        simp only [Array.size_setIfInBounds]
        exact hC.out
      · rw [take_snoc' xs k x HK.out]
        have hcs := hC.out
        refine NodeCells.snoc ?_ tx ?_ ?_ ?_ (((ho.set (by simp; omega) _).set (by simp; omega) _).set (by simp; omega) _)
        · refine NodeCells.congr (NodeCells.carry hN1 ?_) ?_
          · intro g hg
            have := hgs g hg
            rw [Below.heap_setCell _ _ _ _ (by simp; omega), Below.heap_setCell _ _ _ _ (by simp; omega), Below.heap_setCell _ _ _ _ (by simp; omega)]
          · intro j hj
            rw [hlen] at hj
            rw [Array.getElem?_setIfInBounds_ne (by omega), Array.getElem?_setIfInBounds_ne (by omega), Array.getElem?_setIfInBounds_ne (by omega)]
        · rw [hlen, Array.getElem?_setIfInBounds_ne (by omega), Array.getElem?_setIfInBounds_ne (by omega), Array.getElem?_setIfInBounds_self_of_lt (by omega)]
        · rw [hlen, Array.getElem?_setIfInBounds_ne (by omega), Array.getElem?_setIfInBounds_self_of_lt (by simp; omega)]
        · rw [hlen, Array.getElem?_setIfInBounds_self_of_lt (by simp; omega)]
      · rw [← List.cons_append, List.pairwise_append]
        refine ⟨HS.out, by simp, ?_⟩
        intro a ha b hb
        simp at hb
        rcases List.mem_cons.1 ha with rfl | ha
        · omega
        · have := hgs a ha
          omega
    · go_wp2
      go_ret
      have e : xs.take k = xs := List.take_of_length_le (by rw [HN.out]; omega)
      rw [e] at hN
      exact ⟨rfl, hbel, gs, C, hB, hN, hS⟩

theorem toNodes_nil (a : Option Addr) (c : Nat) (w : World) :
    Calls Tryd.prog 32 #[.slice a 0 c] w fun e w' => e = .returned (.slice (some ⟨w.heap.size, 0, none⟩) 0 0) ∧ Below w.heap.size w w' ∧
      ∃ gs C, Blk w' w.heap.size C 58 ∧ NodeCells w' C gs [] ∧ (w.heap.size :: gs).Pairwise (· < ·) := by
  have HMK : ∀ w, (Instr.makeSlice 36 (.int .i64 0) (.int .i64 0)).run Tryd.prog w = .ok (.slice (some ⟨w.heap.size, 0, none⟩) 0 0) (w.alloc (.cells (nrow 0) 58)) := make_nodes 0 (by omega)
  go_enter Tryd.func32, Tryd.ntmps32
  go_wp2
  go_loopw [4] (fun i wr => i = .int .i64 0 ∧ wr = w.alloc (.cells (nrow 0) 58)) (fun i wr => 0)
  case atStart => exact ⟨rfl, rfl⟩
  case round =>
    obtain ⟨rfl, rfl⟩ := hrel
    go_wp2
    go_ret
    exact ⟨rfl, below1 _ _, [], nrow 0, Blk.new _ _ _, ⟨rfl, fun i d g h => by simp at h⟩, by simp⟩

theorem toNodes_any (w : World) (P : Nat → Prop) (v : Value) (xs : List Nd) (hv : Nodes w P v xs) (hP : ∀ b, P b → b < w.heap.size) :
    Calls Tryd.prog 32 #[v] w fun e w' => e = .returned (.slice (some ⟨w.heap.size, 0, none⟩) xs.length xs.length) ∧ Below w.heap.size w w' ∧
      ∃ gs C, Blk w' w.heap.size C 58 ∧ NodeCells w' C gs xs ∧ (w.heap.size :: gs).Pairwise (· < ·) := by
  rcases hv.2 with ⟨b, o, c, rfl, hb, hc⟩ | ⟨rfl, a, c, rfl⟩
  · exact toNodes_go P b o c _ xs w rfl hv.1 (hP _ hb) hP hc
  · exact toNodes_nil a c w

/-- A post with what it says kept from the walk. -/
def ToData (ns : List Nd) (rs : List Int) (w : World) (e : Ending) (w' : World) : Prop :=
  ∃ v, e = .returned v ∧ Below w.heap.size w w' ∧ OwnDataA w' w.heap.size w'.heap.size v ns rs

theorem toData_any (w : World) (P : Nat → Prop) (v : Value) (xs : List Nd) (rs : List Int) (hv : Dat w P v xs rs) (hP : ∀ b, P b → b < w.heap.size) :
    Calls Tryd.prog 13 #[v] w (ToData xs rs w) := by
  obtain ⟨nv, rv, rfl, n1, r1⟩ := hv
  have nl := n1.1
  have HN := Lib.hid (fun wx (hx : Below w.heap.size w wx) => toNodes_any wx P nv xs (n1.same fun b hb => hx.block b (hP b hb)) (fun b h => Nat.lt_of_lt_of_le (hP b h) hx.size))
  have HR := Lib.hid (fun wx (hx : Below w.heap.size w wx) => toInts_any wx P rv rs (r1.same fun b hb => hx.block b (hP b hb)) (fun b h => Nat.lt_of_lt_of_le (hP b h) hx.size))
  clear n1 r1 hP
  have NL := Lib.hid nl
  clear nl
  generalize hrl : rs.length = rn at *
  generalize hxl : xs.length = xn at *
  have HRL := Lib.hid hrl
  have HXL := Lib.hid hxl
  clear hrl hxl
  go_enter Tryd.func13, Tryd.ntmps13
  go_wp2_with fail
  refine (HN.out _ (below3 _ _ _ _)).mono ?_
  rintro e w1 ⟨rfl, hb1, gs, C, hG, hNC, hS⟩
  obtain ⟨B0, B1, B2⟩ := Blk.three w #[nv, rv] #[.slice none 0 0, .slice none 0 0] #[.slice none 0 0, .slice none 0 0] 34 38 38
  have hz : (((w.alloc (.cells #[nv, rv] 34)).alloc (.cells #[.slice none 0 0, .slice none 0 0] 38)).alloc (.cells #[.slice none 0 0, .slice none 0 0] 38)).heap.size = w.heap.size + 1 + 1 + 1 := by simp
  rw [hz] at hG hS
  replace B0 := B0.below hb1
  replace B1 := B1.below hb1
  replace B2 := B2.below hb1
  have c0 := B0.cell0 (o := 1) rfl
  have d0 := B2.cell0 (o := 0) rfl
  have g0 := B2.free 0
  have E := below3b hb1
  have hN1 : Hid (NodeCells w1 C gs xs) := hNC
  have hS1 : Hid (((w.heap.size + 1 + 1 + 1) :: gs).Pairwise (· < ·)) := hS
  clear hz hb1 hNC hS
  go_wp2_with fail
  refine (HR.out _ (E.setCell (by simp; omega) _)).mono ?_
  rintro e w2 ⟨rfl, hb2, hO⟩
  have hzz : (w1.setCell ⟨w.heap.size + 1 + 1, 0, none⟩ (.slice (some ⟨w.heap.size + 1 + 1 + 1, 0, none⟩) xn xn)).heap.size = w1.heap.size := by simp
  rw [hzz] at hO
  have G2 := (hG.far (b' := w.heap.size + 1 + 1) (by omega) 0 (.slice (some ⟨w.heap.size + 1 + 1 + 1, 0, none⟩) xn xn)).below hb2
  have D1 := (B1.far (b' := w.heap.size + 1 + 1) (by omega) 0 (.slice (some ⟨w.heap.size + 1 + 1 + 1, 0, none⟩) xn xn)).below hb2
  have D2 := (B2.set 0 (.slice (some ⟨w.heap.size + 1 + 1 + 1, 0, none⟩) xn xn)).below hb2
  have E2 := below_then (E.setCell (p := ⟨w.heap.size + 1 + 1, 0, none⟩) (by simp; omega) (.slice (some ⟨w.heap.size + 1 + 1 + 1, 0, none⟩) xn xn)) hb2 (by have := E.size; simp; omega)
  have hs1 := hG.lt
  have hN2 : Hid (NodeCells w2 C gs xs) := hN1.out.carry fun g hg => by
    have h1 := List.rel_of_pairwise_cons hS1.out hg
    have h2 := hN1.out.lt g hg
    rw [hb2.block g (by rw [hzz]; exact h2), Below.heap_setCell _ _ _ _ (by simp; omega)]
  have hgl : Hid (∀ g ∈ gs, w.heap.size + 1 + 1 + 1 < g ∧ g < w1.heap.size) := fun g hg => ⟨List.rel_of_pairwise_cons hS1.out hg, hN1.out.lt g hg⟩
  have hO1 := Lib.hid hO
  have hs2 := hO.lt
  have c0 := D1.cell0 (o := 0) rfl
  have c1 := D1.cell0 (o := 1) rfl
  have e0 := D2.cell0 (o := 0) rfl
  have e1 := D2.cell0 (o := 1) rfl
  have f0 := D1.free 0
  have f1 := D1.free 1
  have k1 := D2.free 1
  clear hb2 hO hzz d0 g0 B0 B1 B2 hN1 HR HN
  go_wp2
  refine bodyPost_ret (v := .agg #[.slice (some ⟨w.heap.size + 1 + 1 + 1, 0, none⟩) xn xn, .slice (some ⟨w1.heap.size, 0, none⟩) rn rn]) (by simp [results, Tryd.results13, go_sem, c0, c1, e0, e1]) rfl ⟨_, rfl, ?_, ?_⟩
  · exact ((E2.setCell (by simp; omega) _).setCell (by simp) _).setCell (by simp) _
  · refine ⟨w.heap.size + 1 + 1 + 1, w1.heap.size, gs, xn, rn, C, by rw [HXL.out, HRL.out], by rw [HXL.out]; exact NL.out, ?_, ?_, ?_, ?_, ?_⟩
    · exact ((G2.far (by omega) _ _).far (by omega) _ _).far (by omega) _ _
    · refine NodeCells.carry hN2.out fun g hg => ?_
      have := hgl.out g hg
      rw [Below.heap_setCell _ _ _ _ (by simp; omega), Below.heap_setCell _ _ _ _ (by simp; omega), Below.heap_setCell _ _ _ _ (by simp; omega)]
    · rw [HRL.out]
      exact ((hO1.out.set (by simp; omega) _).set (by simp; omega) _).set (by simp; omega) _
    · rw [List.nodup_cons, List.nodup_cons]
      refine ⟨?_, ?_, (List.pairwise_cons.1 hS1.out).2.imp (fun h => Nat.ne_of_lt h)⟩
      · intro h
        rcases List.mem_cons.1 h with h | h
        · omega
        · have := hgl.out _ h
          omega
      · intro h
        have := hgl.out _ h
        omega
    · intro g hg
      simp only [World.size_setCell]
      rcases List.mem_cons.1 hg with rfl | hg
      · omega
      · rcases List.mem_cons.1 hg with rfl | hg
        · omega
        · have := hgl.out _ hg
          omega
end Go.Proofs.YtjpkmcaogekkdaaDoor.Rm
