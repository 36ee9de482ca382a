/- Numbers read in the reference, walked: the whole. -/
import Derived.Test.YtjpkmcaogekkdaaDoorNuJ
namespace Go.Proofs.YtjpkmcaogekkdaaDoor.Nu
open Go.RowKit Go.Proofs.YtjpkmcaogekkdaaDoor.Rm
set_option linter.unusedVariables false
set_option linter.unusedSimpArgs false

theorem l2Over_int (neg : Bool) (s : ByteArray) (x : Int) (w : World) (hs : s.size ≤ 1000) (h : x = -1 ∨ 0 ≤ x ∧ x < s.size) (h0 : 0 ≤ x) : Calls Tryd.prog 120 #[.bool neg, .string s, .int .i64 x, .int .i64 10] w (NumPost w) := by
  obtain ⟨k, rfl⟩ : ∃ k : Nat, x = k := ⟨x.toNat, by omega⟩
  exact l2Over_any neg s k w hs (by omega)
theorem l2Point_int (neg : Bool) (s : ByteArray) (x : Int) (w : World) (hs : s.size ≤ 1000) (h : x = -1 ∨ 0 ≤ x ∧ x < s.size) (h0 : 0 ≤ x) : Calls Tryd.prog 121 #[.bool neg, .string s, .int .i64 x] w (NumPost w) := by
  obtain ⟨k, rfl⟩ : ∃ k : Nat, x = k := ⟨x.toNat, by omega⟩
  exact l2Point_any neg s k w hs (by omega)
theorem dec1 : Dec (⟨#[49]⟩ : ByteArray).data.toList := Dec.one ⟨by decide, by decide⟩

set_option maxHeartbeats 4000000 in
set_option maxRecDepth 100000 in
theorem NumParse_any (s : ByteArray) (w : World) (hs : s.size ≤ 1000000) :
    Calls Tryd.prog 107 #[.string s, .int .i64 10] w (NumPost w) := by
  have hx1 := ext_size s 1 s.size
  have B0 : Blk (w.alloc (.cells #[.bool false, .string ⟨#[]⟩, .string ⟨#[]⟩] 129)) w.heap.size #[.bool false, .string ⟨#[]⟩, .string ⟨#[]⟩] 129 := Blk.new _ _ _
  have hB0 := below1 w (.cells #[.bool false, .string ⟨#[]⟩, .string ⟨#[]⟩] 129)
  by_cases hsz : 240 < s.size
  · go_enter Tryd.func107, Tryd.ntmps107
    go_wp2_with (go_at_call 101; refine (l2Radix_any _).mono ?_; rintro e w2 ⟨rfl, rfl⟩)
    have d0 := B0.cell0 (o := 0) rfl
    have d1 := B0.cell0 (o := 1) rfl
    have d2 := B0.cell0 (o := 2) rfl
    refine bodyPost_ret (v := .tuple #[.agg #[.bool false, .string ⟨#[]⟩, .string ⟨#[]⟩], .bool false]) (by simp [results, Tryd.results107, go_sem, d0, d1, d2]) rfl ?_
    exact ⟨false, _, _, false, rfl, by simp [ByteArray.size], by simp [ByteArray.size], hB0⟩
  · go_enter Tryd.func107, Tryd.ntmps107
    go_wp2_with (go_at_call 101; refine (l2Radix_any _).mono ?_; rintro e w2 ⟨rfl, rfl⟩)
    all_goals
      go_wp2_with (first | (go_at_call 119; refine (l2Find_any _ _ _ ?_).mono ?_; omega; rintro e w' ⟨⟨x, rfl, hx⟩, rfl⟩) | (go_at_call 120; refine (l2Over_int _ _ _ _ ?_ ?_ ?_).mono ?_; omega; omega; omega; rintro e w3 ⟨neg2, a2, b2, ok2, rfl, hz3, hz4, hb3⟩; have B3 := B0.below hb3; have hB3 := below_then hB0 hb3 hB0.size; have c0 := B3.cell0 (o := 0) rfl; have c1 := B3.cell0 (o := 1) rfl; have c2 := B3.cell0 (o := 2) rfl; have f0 := B3.free 0; have f1 := B3.free 1; have f2 := B3.free 2) | (go_at_call 121; refine (l2Point_int _ _ _ _ ?_ ?_ ?_).mono ?_; omega; omega; omega; rintro e w3 ⟨neg2, a2, b2, ok2, rfl, hz3, hz4, hb3⟩; have B3 := B0.below hb3; have hB3 := below_then hB0 hb3 hB0.size; have c0 := B3.cell0 (o := 0) rfl; have c1 := B3.cell0 (o := 1) rfl; have c2 := B3.cell0 (o := 2) rfl; have f0 := B3.free 0; have f1 := B3.free 1; have f2 := B3.free 2) | (go_at_call 122; refine (l2Nat_any _ _ ?_).mono ?_; omega; rintro e w1 ⟨r1, o1, rfl, hr1, hz1, hb1⟩; have B1 := B0.below hb1; have hB1 := below_then hB0 hb1 hB0.size; have c0 := B1.cell0 (o := 0) rfl; have c1 := B1.cell0 (o := 1) rfl; have c2 := B1.cell0 (o := 2) rfl; have f0 := B1.free 0; have f1 := B1.free 1; have f2 := B1.free 2) | (go_at_call 104; refine (l2Make_any _ _ _ _ ?_ ?_ hr1 dec1).mono ?_; omega; (rw [sz1]; omega); rintro e w3 ⟨neg2, a2, b2, ok2, rfl, hz3, hz4, hb3⟩; have B3 := B1.below hb3; have hB3 := below_then hB1 hb3 hB1.size; clear c0 c1 c2 f0 f1 f2; have c0 := B3.cell0 (o := 0) rfl; have c1 := B3.cell0 (o := 1) rfl; have c2 := B3.cell0 (o := 2) rfl; have f0 := B3.free 0; have f1 := B3.free 1; have f2 := B3.free 2))
      all_goals first | (have B4 := three_set B3 (.bool neg2) (.string a2) (.string b2); have d0 := B4.cell0 (o := 0) rfl; have d1 := B4.cell0 (o := 1) rfl; have d2 := B4.cell0 (o := 2) rfl; refine bodyPost_ret (v := .tuple #[.agg #[(.bool neg2), (.string a2), (.string b2)], .bool ok2]) (by simp [results, Tryd.results107, go_sem, d0, d1, d2]) rfl ?_; exact ⟨_, _, _, ok2, rfl, hz3, hz4, ((hB3.setCell (Nat.le_refl _) _).setCell (Nat.le_refl _) _).setCell (Nat.le_refl _) _⟩) | (have B4 := three_set B1 (.bool false) (.string ⟨#[]⟩) (.string ⟨#[]⟩); have d0 := B4.cell0 (o := 0) rfl; have d1 := B4.cell0 (o := 1) rfl; have d2 := B4.cell0 (o := 2) rfl; refine bodyPost_ret (v := .tuple #[.agg #[(.bool false), (.string ⟨#[]⟩), (.string ⟨#[]⟩)], .bool false]) (by simp [results, Tryd.results107, go_sem, d0, d1, d2]) rfl ?_; exact ⟨false, _, _, false, rfl, by simp [ByteArray.size], by simp [ByteArray.size], ((hB1.setCell (Nat.le_refl _) _).setCell (Nat.le_refl _) _).setCell (Nat.le_refl _) _⟩)
end Go.Proofs.YtjpkmcaogekkdaaDoor.Nu
