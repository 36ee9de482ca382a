/- The product of decimals in the reference, walked: that some text comes back, not too long. -/
import Derived.Test.YtjpkmcaogekkdaaDoorNuE
import Derived.StillTailTactics
namespace Go.Proofs.YtjpkmcaogekkdaaDoor.Nu
open Go.RowKit Go.Proofs.YtjpkmcaogekkdaaDoor.Rm
set_option linter.unusedVariables false
set_option linter.unusedSimpArgs false

set_option maxHeartbeats 2000000 in
set_option maxRecDepth 100000 in
theorem l1Mul_any (a b : ByteArray) (w : World) (ha : a.size ≤ 100000000) (hb : b.size ≤ 100000000) (h0 : 0 < a.size) :
    Calls Tryd.prog 129 #[.string a, .string b] w (OutPost (a.size + b.size + 1) w) := by
  have HMK := make_ints (a.size + b.size) (by omega)
  rw [Int.natCast_add] at HMK
  go_enter Tryd.func129, Tryd.ntmps129
  go_wp2
  go_loopw [6] (fun i wr => ∃ (k : Nat) (X : List Int), i = .int .i64 k ∧ k ≤ a.size ∧ Below w.heap.size w wr ∧ Row wr w.heap.size X ∧ X.length = a.size + b.size) (fun i wr => a.size - (intOf i).toNat)
  case atStart => exact ⟨0, _, rfl, by omega, below1 _ _, Row.zeros _ _, by simp⟩
  case round =>
    obtain ⟨k, X, rfl, hk, hbel, hR, hX⟩ := hrel
    have hk0 : (0 : Int) ≤ k := by omega
    by_cases hlt : k < a.size
    · go_wp2
      go_loopw [7] (fun i wr => ∃ (m : Nat) (X : List Int), i = .int .i64 m ∧ m ≤ b.size ∧ Below w.heap.size w wr ∧ Row wr w.heap.size X ∧ X.length = a.size + b.size) (fun i wr => b.size - (intOf i).toNat)
      case atStart => exact ⟨0, X, rfl, by omega, hbel, hR, hX⟩
      case round =>
        clear hbel hR hX
        obtain ⟨m, X, rfl, hm, hbel, hR, hX⟩ := hrel
        have hm0 : (0 : Int) ≤ m := by omega
        by_cases hltm : m < b.size
        · obtain ⟨x, hx⟩ := getSome X (k + m) (by omega)
          have c0 := hR.cell hx
          have f0 := hR.free (k + m)
          have hgl := hR.lt
          have c0d : wr.drew.cell? ⟨w.heap.size, k + m, none⟩ = some (.int .i64 x) := c0
          have f0d : wr.drew.frozen? ⟨w.heap.size, k + m, none⟩ = false := f0
          have htn : ((k : Int) + m).toNat = k + m := by omega
          clear hx
          have hkm : (k : Int) + m < a.size + b.size := by omega
          have hkm2 : k + m < a.size + b.size := by omega
          have hkm0 : 0 ≤ (k : Int) + m := by omega
          have hwr : IntKind.i64.wrap ((k : Int) + m) = (k : Int) + m := by rw [i64_w]; unfold wrap64; omega
          have HA := Lib.hid (fun w => l1At_any a k w (by omega) (by omega))
          have HB := Lib.hid (fun w => l1At_any b m w (by omega) (by omega))
          go_wp2_with fail
          go_region_with (go_at_call 131; (first | with_reducible refine (HA.out _).mono ?_ | with_reducible refine (HB.out _).mono ?_); rintro e w' ⟨rfl, rfl⟩; dsimp only)
          all_goals go_wp2
          all_goals exact ⟨⟨m + 1, _, by go_num, by omega, (hbel.trans (Below.refl _ _).drew).setCell (Nat.le_refl _) _, (hR.carry (w' := wr.drew) rfl).set _ _, by simp [hX]⟩, by simp [intOf]; omega⟩
        · go_wp2
          go_loopw [8] (fun i wr => ∃ (j : Nat) (X : List Int), i = .int .i64 j ∧ j ≤ a.size + b.size ∧ Below w.heap.size w wr ∧ Row wr w.heap.size X ∧ X.length = a.size + b.size) (fun i wr => a.size + b.size - (intOf i).toNat)
          case atStart => exact ⟨0, X, rfl, by omega, hbel, hR, hX⟩
          case round =>
            clear hbel hR hX
            obtain ⟨j, X, rfl, hj, hbel, hR, hX⟩ := hrel
            have hj0 : (0 : Int) ≤ j := by omega
            by_cases hltj : j + 1 < a.size + b.size
            · obtain ⟨x, hx⟩ := getSome X j (by omega)
              obtain ⟨y, hy⟩ := getSome X (j + 1) (by omega)
              have c0 := hR.cell hx
              have c1 := hR.cell hy
              have f0 := hR.free j
              have f1 := hR.free (j + 1)
              have hgl := hR.lt
              have hxy : (X.set (j + 1) (wrap64 (y + wrap64 (x.tdiv 10))))[j]? = some x := by rw [List.getElem?_set_ne (by omega)]; exact hx
              have HXY := Lib.hid hxy
              clear hx hy hxy
              go_wp2_with fail
              have c0d : wr.drew.cell? ⟨w.heap.size, j, none⟩ = some (.int .i64 x) := c0
              have c1d : wr.drew.cell? ⟨w.heap.size, j + 1, none⟩ = some (.int .i64 y) := c1
              have f1d : wr.drew.frozen? ⟨w.heap.size, j + 1, none⟩ = false := f1
              have htn : ((j : Int) + 1).toNat = j + 1 := by omega
              have hj1 : (j : Int) < a.size + b.size := by omega
              have hj2 : j < a.size + b.size := by omega
              have hj3 : 0 ≤ (j : Int) + 1 := by omega
              have hwr : IntKind.i64.wrap ((j : Int) + 1) = (j : Int) + 1 := by rw [i64_w]; unfold wrap64; omega
              go_region
              have hR2 : Row (wr.setCell ⟨w.heap.size, j + 1, none⟩ (.int .i64 (wrap64 (y + wrap64 (x.tdiv 10))))).drew w.heap.size (X.set (j + 1) (wrap64 (y + wrap64 (x.tdiv 10)))) := (hR.set _ _).carry rfl
              have hb2 : Below w.heap.size w (wr.setCell ⟨w.heap.size, j + 1, none⟩ (.int .i64 (wrap64 (y + wrap64 (x.tdiv 10))))).drew := (hbel.setCell (Nat.le_refl _) _).drew
              have c2 := hR2.cell HXY.out
              have f2 := hR2.free j
              have hgl2 := hR2.lt
              clear c0d c1d f1d c0 c1 f0 f1
              generalize (wr.setCell ⟨w.heap.size, j + 1, none⟩ (.int .i64 (wrap64 (y + wrap64 (x.tdiv 10))))).drew = w2 at *
              go_wp2
              exact ⟨⟨j + 1, _, by go_num, by omega, hb2.setCell (Nat.le_refl _) _, hR2.set _ _, by simp [hX]⟩, by simp [intOf]; omega⟩
            · go_wp2
              exact ⟨⟨k + 1, X, by go_num, by omega, hbel, hR, hX⟩, by simp [intOf]; omega⟩
    · have HT := Lib.hid (l1Text_go w.heap.size 0 (a.size + b.size) (a.size + b.size) X wr hX (by omega) (by omega) hR.lt (fun i x hi => by rw [Nat.zero_add]; exact hR.cell hi))
      go_wp2_with (go_at_call 132; refine HT.out.mono ?_; rintro e w' ⟨r, rfl, hr, hb1⟩)
      go_ret
      have h4 := textL_len X
      rw [← hr, hX] at h4
      exact ⟨r, rfl, h4, hbel.trans (hb1.mono hbel.size)⟩
end Go.Proofs.YtjpkmcaogekkdaaDoor.Nu
