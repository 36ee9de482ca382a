/- Numbers read in the reference, walked. -/
import Derived.Test.YtjpkmcaogekkdaaDoorNuI
import Derived.StillTailTactics
namespace Go.Proofs.YtjpkmcaogekkdaaDoor.Nu
open Go.RowKit Go.Proofs.YtjpkmcaogekkdaaDoor.Rm
set_option linter.unusedVariables false
set_option linter.unusedSimpArgs false

theorem ext_size (s : ByteArray) (a b : Nat) : (s.extract a b).size ≤ s.size := by
  rw [ByteArray.size_extract]
  omega

set_option maxHeartbeats 2000000 in
set_option maxRecDepth 100000 in
theorem l2Over_any (neg : Bool) (s : ByteArray) (k : Nat) (w : World) (hs : s.size ≤ 1000) (hk : k < s.size) :
    Calls Tryd.prog 120 #[.bool neg, .string s, .int .i64 k, .int .i64 10] w (NumPost w) := by
  have hk0 : (0 : Int) ≤ k := by omega
  have hx1 := ext_size s 0 k
  have hx2 := ext_size s (k + 1) s.size
  have B0 : Blk (w.alloc (.cells #[.bool false, .string ⟨#[]⟩, .string ⟨#[]⟩] 129)) w.heap.size #[.bool false, .string ⟨#[]⟩, .string ⟨#[]⟩] 129 := Blk.new _ _ _
  have hB0 := below1 w (.cells #[.bool false, .string ⟨#[]⟩, .string ⟨#[]⟩] 129)
  have HL1 := Lib.hid (fun w => l2Nat_any (s.extract 0 k) w (by omega))
  have HL2 := Lib.hid (fun w => l2Nat_any (s.extract (k + 1) s.size) w (by omega))
  go_enter Tryd.func120, Tryd.ntmps120
  go_wp2_with (first | (go_at_call 104; refine (l2Make_any _ _ _ _ ?_ ?_ hr1 hr2).mono ?_; omega; omega; rintro e w3 ⟨neg2, a2, b2, ok2, rfl, hz3, hz4, hb3⟩; have B3 := B2.below hb3; have hB3 := below_then hB2 hb3 hB2.size; clear c0 c1 c2 f0 f1 f2; have c0 := B3.cell0 (o := 0) rfl; have c1 := B3.cell0 (o := 1) rfl; have c2 := B3.cell0 (o := 2) rfl; have f0 := B3.free 0; have f1 := B3.free 1; have f2 := B3.free 2) | (go_at_call 122; (with_reducible refine (HL1.out _).mono ?_); rintro e w1 ⟨r1, o1, rfl, hr1, hz1, hb1⟩; have B1 := B0.below hb1; have hB1 := below_then hB0 hb1 hB0.size) | (go_at_call 122; (with_reducible refine (HL2.out _).mono ?_); rintro e w2 ⟨r2, o2, rfl, hr2, hz2, hb2⟩; have B2 := B1.below hb2; have hB2 := below_then hB1 hb2 hB1.size; have c0 := B2.cell0 (o := 0) rfl; have c1 := B2.cell0 (o := 1) rfl; have c2 := B2.cell0 (o := 2) rfl; have f0 := B2.free 0; have f1 := B2.free 1; have f2 := B2.free 2))
  all_goals first | (have B4 := three_set B3 (.bool neg2) (.string a2) (.string b2); have d0 := B4.cell0 (o := 0) rfl; have d1 := B4.cell0 (o := 1) rfl; have d2 := B4.cell0 (o := 2) rfl; refine bodyPost_ret (v := .tuple #[.agg #[(.bool neg2), (.string a2), (.string b2)], .bool ok2]) (by simp [results, Tryd.results120, go_sem, d0, d1, d2]) rfl ?_; exact ⟨_, _, _, ok2, rfl, hz3, hz4, ((hB3.setCell (Nat.le_refl _) _).setCell (Nat.le_refl _) _).setCell (Nat.le_refl _) _⟩) | (have B4 := three_set B2 (.bool false) (.string ⟨#[]⟩) (.string ⟨#[]⟩); have d0 := B4.cell0 (o := 0) rfl; have d1 := B4.cell0 (o := 1) rfl; have d2 := B4.cell0 (o := 2) rfl; refine bodyPost_ret (v := .tuple #[.agg #[(.bool false), (.string ⟨#[]⟩), (.string ⟨#[]⟩)], .bool false]) (by simp [results, Tryd.results120, go_sem, d0, d1, d2]) rfl ?_; exact ⟨false, _, _, false, rfl, by simp [ByteArray.size], by simp [ByteArray.size], ((hB2.setCell (Nat.le_refl _) _).setCell (Nat.le_refl _) _).setCell (Nat.le_refl _) _⟩)

theorem zeros_dec {l : List UInt8} (h : Dec l) (h1 : l.head? = some 49) : Dec (l ++ [48]) ∧ (l ++ [48]).head? = some 49 := by
  obtain ⟨a, b, c⟩ := h
  have h2 : (l ++ [48]).head? = some 49 := by
    cases l with
    | nil => simp at h1
    | cons x t => simpa using h1
  refine ⟨⟨a.app (Digs.one ⟨by decide, by decide⟩), by simp, .inr ?_⟩, h2⟩
  rw [h2]
  decide

set_option maxHeartbeats 2000000 in
set_option maxRecDepth 100000 in
theorem l2Point_any (neg : Bool) (s : ByteArray) (k : Nat) (w : World) (hs : s.size ≤ 1000) (hk : k < s.size) :
    Calls Tryd.prog 121 #[.bool neg, .string s, .int .i64 k] w (NumPost w) := by
  have hk0 : (0 : Int) ≤ k := by omega
  have hk1 : (k : Int) ≤ s.size := by omega
  have hk2 : (k : Int) + 1 ≤ s.size := by omega
  have hk3 : (0 : Int) ≤ (k : Int) + 1 := by omega
  have htn : ((k : Int) + 1).toNat = k + 1 := by omega
  have hwr : IntKind.i64.wrap ((k : Int) + 1) = (k : Int) + 1 := by rw [i64_w]; unfold wrap64; omega
  have hx1 := ext_size s 0 k
  have hx2 := ext_size s (k + 1) s.size
  have hx3 : (s.extract 0 k ++ s.extract (k + 1) s.size).size ≤ 2000 := by rw [ByteArray.size_append]; omega
  have B0 : Blk (w.alloc (.cells #[.bool false, .string ⟨#[]⟩, .string ⟨#[]⟩] 129)) w.heap.size #[.bool false, .string ⟨#[]⟩, .string ⟨#[]⟩] 129 := Blk.new _ _ _
  have hB0 := below1 w (.cells #[.bool false, .string ⟨#[]⟩, .string ⟨#[]⟩] 129)
  have HL1 := Lib.hid (fun w => l2Nat_any (s.extract 0 k ++ s.extract (k + 1) s.size) w (by omega))
  go_enter Tryd.func121, Tryd.ntmps121
  go_wp2_with fail
  go_region_with (go_at_call 122; (with_reducible refine (HL1.out _).mono ?_); rintro e w1 ⟨r1, o1, rfl, hr1, hz1, hb1⟩; dsimp only)
  have B1 := B0.drew.below hb1
  have hB1 := below_then hB0.drew hb1 hB0.size
  have c0 := B1.cell0 (o := 0) rfl
  have c1 := B1.cell0 (o := 1) rfl
  have c2 := B1.cell0 (o := 2) rfl
  have f0 := B1.free 0
  have f1 := B1.free 1
  have f2 := B1.free 2
  clear hwr B0 hB0 hb1 HL1
  cases o1
  · go_wp2
    have B4 := three_set B1 (.bool false) (.string ⟨#[]⟩) (.string ⟨#[]⟩)
    have d0 := B4.cell0 (o := 0) rfl
    have d1 := B4.cell0 (o := 1) rfl
    have d2 := B4.cell0 (o := 2) rfl
    refine bodyPost_ret (v := .tuple #[.agg #[(.bool false), (.string ⟨#[]⟩), (.string ⟨#[]⟩)], .bool false]) (by simp [results, Tryd.results121, go_sem, d0, d1, d2]) rfl ?_
    exact ⟨false, _, _, false, rfl, by simp [ByteArray.size], by simp [ByteArray.size], ((hB1.setCell (Nat.le_refl _) _).setCell (Nat.le_refl _) _).setCell (Nat.le_refl _) _⟩
  · have HR1 := Lib.hid hr1
    clear c0 c1 c2 f0 f1 f2 hr1
    go_wp2
    go_loopw [10, 11] (fun d i wr => ∃ (m : Nat) (t : ByteArray), d = .string t ∧ i = .int .i64 m ∧ wr = w1 ∧ k + 1 ≤ m ∧ m ≤ s.size ∧ t.size + k = m ∧ Hid (Dec t.data.toList ∧ t.data.toList.head? = some 49)) (fun d i wr => s.size - (intOf i).toNat)
    case atStart => exact ⟨k + 1, ⟨#[49]⟩, rfl, by go_num, rfl, Nat.le_refl _, by omega, (show 1 + k = k + 1 by omega), Dec.one ⟨by decide, by decide⟩, rfl⟩
    case round =>
      obtain ⟨m, t, rfl, rfl, rfl, hm1, hm2, htk, hD⟩ := hrel
      by_cases hlt : m < s.size
      · have hz := zeros_dec hD.out.1 hD.out.2
        have HZ : Hid (Dec (t ++ ⟨#[48]⟩ : ByteArray).data.toList ∧ (t ++ ⟨#[48]⟩ : ByteArray).data.toList.head? = some 49) := by
          rw [bapp]
          exact hz
        clear hz
        go_wp2
        exact ⟨⟨m + 1, _, rfl, by go_num, trivial, by omega, by omega, by simp only [ByteArray.size_append, sz1]; omega, HZ.out⟩, by simp [intOf]; omega⟩
      · go_wp2_with (go_at_call 104; refine (l2Make_any _ _ _ _ ?_ ?_ HR1.out hD.out.1).mono ?_; omega; omega; rintro e w3 ⟨neg2, a2, b2, ok2, rfl, hz3, hz4, hb3⟩; have B3 := B1.below hb3; have hB3 := below_then hB1 hb3 hB1.size; have c0 := B3.cell0 (o := 0) rfl; have c1 := B3.cell0 (o := 1) rfl; have c2 := B3.cell0 (o := 2) rfl; have f0 := B3.free 0; have f1 := B3.free 1; have f2 := B3.free 2)
        have B4 := three_set B3 (.bool neg2) (.string a2) (.string b2)
        have d0 := B4.cell0 (o := 0) rfl
        have d1 := B4.cell0 (o := 1) rfl
        have d2 := B4.cell0 (o := 2) rfl
        refine bodyPost_ret (v := .tuple #[.agg #[(.bool neg2), (.string a2), (.string b2)], .bool ok2]) (by simp [results, Tryd.results121, go_sem, d0, d1, d2]) rfl ?_
        exact ⟨_, _, _, ok2, rfl, hz3, hz4, ((hB3.setCell (Nat.le_refl _) _).setCell (Nat.le_refl _) _).setCell (Nat.le_refl _) _⟩
end Go.Proofs.YtjpkmcaogekkdaaDoor.Nu
