/- The walk of the law FnExactTabChar, for every port that can be read. -/
import Derived.Test.YtjpkmcaogekkdaaDoorCharB
namespace Go.Proofs.YtjpkmcaogekkdaaDoor.Port
open Go.RowKit
set_option linter.unusedVariables false
set_option linter.unusedSimpArgs false

theorem char_big (s : ByteArray) (a : Int) (w : World) (h : 1048576 < s.size) (hs : s.size ≤ 140737488351232) :
    Calls Tryd.prog 3 #[.agg #[.string s, .int .i64 a]] w fun e w' => e = .returned (.bool true) ∧ Below w.heap.size w w' := by
  have HC := Lib.hid (fun w => sz_any s a 1048576 w (by omega) (by omega) hs)
  rw [if_pos (by omega)] at HC
  go_enter Tryd.func3, Tryd.ntmps3
  go_wp2_with (go_at_call 6; refine (HC.out _).mono ?_; rintro e w1 ⟨rfl, hb⟩; obtain ⟨hc, hf⟩ := bcell hb)
  go_ret
  exact ⟨rfl, below1b hb⟩

/-- The law, where the two readers hand back the same. -/
theorem char_same (s : ByteArray) (a : Int) (w : World) (h : s.size ≤ 1048576) (r r2 : ByteArray) (r3 : Int) (hT : Lib.Utf8Tabs 0 1 w) (hw : 1 < w.heap.size)
    (H7 : Hid (∀ w, Calls Tryd.prog 7 #[.agg #[.string s, .int .i64 a]] w fun e w' => e = .returned (.tuple #[.string r, .agg #[.string r2, .int .i64 r3]]) ∧ Below w.heap.size w w'))
    (H9 : Hid (∀ w, Lib.Utf8Tabs 0 1 w → 1 < w.heap.size → Calls Tryd.prog 9 #[.agg #[.string s, .int .i64 a]] w fun e w' => e = .returned (.tuple #[.string r, .agg #[.string r2, .int .i64 r3]]) ∧ Below w.heap.size w w')) :
    Calls Tryd.prog 3 #[.agg #[.string s, .int .i64 a]] w fun e w' => e = .returned (.bool true) ∧ Below w.heap.size w w' := by
  have HC := Lib.hid (fun w => sz_any s a 1048576 w (by omega) (by omega) (by omega))
  rw [if_neg (by omega)] at HC
  have HE := Lib.hid (fun w => eqPort_any r2 r3 r2 r3 w)
  rw [show (r2.toList == r2.toList && r3 == r3) = true by simp] at HE
  have HT := Lib.hid hT
  clear hT
  have hl : 0 ≤ (1048576 - s.size : Int) := by omega
  go_enter Tryd.func3, Tryd.ntmps3
  go_wp2_with fail
  refine (HC.out _).mono ?_
  rintro e w1 ⟨rfl, hb1⟩
  have B0 := (Blk.new w _ _).below hb1
  have c0 := B0.cell0 (o := 0) rfl
  have c1 := B0.cell0 (o := 1) rfl
  have E := below1b hb1
  go_wp2_with fail
  refine (toPort_any s a _).mono ?_
  rintro e w2 ⟨rfl, hb2⟩
  replace E := below_then E hb2 E.size
  replace B0 := B0.below hb2
  clear c0 c1
  have c0 := B0.cell0 (o := 0) rfl
  have c1 := B0.cell0 (o := 1) rfl
  go_wp2_with fail
  refine (H7.out _).mono ?_
  rintro e w3 ⟨rfl, hb3⟩
  replace E := below_then E hb3 E.size
  replace B0 := B0.below hb3
  clear c0 c1
  have c0 := (B0.alloc (.cells #[.string r2, .int .i64 r3] 25)).cell0 (o := 0) rfl
  have c1 := (B0.alloc (.cells #[.string r2, .int .i64 r3] 25)).cell0 (o := 1) rfl
  go_wp2_with fail
  refine (toPort_any s a _).mono ?_
  rintro e w4 ⟨rfl, hb4⟩
  have B1 := (Blk.new w3 _ _).below hb4
  replace B0 := (B0.alloc _).below hb4
  replace E := below_then (E.alloc E.size _) hb4 (by have := E.size; simp; omega)
  clear c0 c1
  go_wp2_with fail
  refine (H9.out _ (Dec.tabs_below HT.out hw E) (by have := E.size; omega)).mono ?_
  rintro e w5 ⟨rfl, hb5⟩
  replace E := below_then E hb5 E.size
  replace B1 := B1.below hb5
  have d0 := (B1.alloc (.cells #[.string r2, .int .i64 r3] 25)).cell0 (o := 0) rfl
  have d1 := (B1.alloc (.cells #[.string r2, .int .i64 r3] 25)).cell0 (o := 1) rfl
  go_wp2_with fail
  refine (HE.out _).mono ?_
  rintro e w6 ⟨rfl, hb6⟩
  go_wp2
  go_ret
  exact ⟨rfl, below_then (E.alloc E.size _) hb6 (by have := E.size; simp; omega)⟩

theorem char_any (s : ByteArray) (a : Int) (w : World) (hs : s.size ≤ 140737488351232) (hT : Lib.Utf8Tabs 0 1 w) (hw : 1 < w.heap.size) :
    Calls Tryd.prog 3 #[.agg #[.string s, .int .i64 a]] w fun e w' => e = .returned (.bool true) ∧ Below w.heap.size w w' := by
  by_cases h : s.size ≤ 1048576
  · by_cases hok : (decide (0 ≤ a) && decide (a ≤ s.size)) = true
    · simp only [Bool.and_eq_true, decide_eq_true_eq] at hok
      obtain ⟨n, rfl⟩ := Int.eq_ofNat_of_zero_le hok.1
      by_cases he : n = s.size
      · subst he
        have hz : (s.extract s.size s.size).size = 0 := by simp
        have hx : s.extract s.size (s.size + 0) = ⟨#[]⟩ := by rw [Lib.extract_eq]; simp
        have H9 := Lib.hid fun w hT hw => implChar_ok s s.size 0 w (Nat.le_refl _) h (decGo0 _ hz) (by omega) hT hw
        rw [hx] at H9
        exact char_same s _ w h _ _ _ hT hw (Lib.hid fun w => specChar_end s w) H9
      · have hz : 0 < (s.extract n s.size).size := by simp; omega
        have hp := charLen_pos _ hz
        have hq : (s.extract n s.size).size = s.size - n := by simp
        exact char_same s _ w h _ _ _ hT hw (Lib.hid fun w => specChar_char s n w (by omega) h) (Lib.hid fun w hT hw => implChar_ok s n _ w (by omega) h (decGo _ hz) (by omega) hT hw)
    · have hok' := Bool.eq_false_iff.2 hok
      exact char_same s _ w h _ _ _ hT hw (Lib.hid fun w => specChar_bad s a w hok') (Lib.hid fun w _ _ => implChar_bad s a w hok')
  · exact char_big s a w (by omega) hs
end Go.Proofs.YtjpkmcaogekkdaaDoor.Port
