/- The walks of TabChar in the program and in the reference, for every text of at most 2^20 bytes and every place. -/
import Derived.Test.YtjpkmcaogekkdaaDoorCharA
namespace Go.Proofs.YtjpkmcaogekkdaaDoor.Port
open Go.RowKit
set_option linter.unusedVariables false
set_option linter.unusedSimpArgs false

/-- how many bytes TabChar reads -/
def charLen (s : ByteArray) : Nat := (Utf8.decode s 0).2

theorem charLen_pos (s : ByteArray) (hs : 0 < s.size) : 1 ≤ charLen s ∧ charLen s ≤ s.size := by
  obtain ⟨r, n, hd⟩ : ∃ r n, Utf8.decode s 0 = (r, n) := ⟨_, _, rfl⟩
  obtain ⟨g1, g2, _⟩ := Dec.dec_facts s hs r n hd
  unfold charLen
  rw [hd]
  exact ⟨g1, g2⟩

theorem charLen_sz (s : ByteArray) (hs : 0 < s.size) : (if szOf s = 0 then 1 else szOf s) = charLen s := by
  obtain ⟨r, n, hd⟩ : ∃ r n, Utf8.decode s 0 = (r, n) := ⟨_, _, rfl⟩
  obtain ⟨g1, g2, _⟩ := Dec.dec_facts s hs r n hd
  unfold szOf charLen
  rw [hd]
  simp only []
  by_cases h : r = 65533 ∧ n = 1
  · rw [if_pos h, if_pos rfl, h.2]
  · rw [if_neg h, if_neg (by omega)]

theorem specChar_bad (s : ByteArray) (a : Int) (w : World) (h : (decide (0 ≤ a) && decide (a ≤ s.size)) = false) :
    Calls Tryd.prog 7 #[.agg #[.string s, .int .i64 a]] w fun e w' => e = .returned (.tuple #[.string ⟨#[]⟩, .agg #[.string ⟨#[]⟩, .int .i64 0]]) ∧ Below w.heap.size w w' := by
  have HC := Lib.hid (fun w => l23Ok_any s a w)
  rw [h] at HC
  clear h
  go_enter Tryd.func7, Tryd.ntmps7
  go_wp2_with (go_at_call 21; refine (HC.out _).mono ?_; rintro e w1 ⟨rfl, hb⟩; obtain ⟨hc, hf⟩ := bcell hb)
  refine bodyPost_ret (v := .tuple #[.string ⟨#[]⟩, .agg #[.string ⟨#[]⟩, .int .i64 0]]) (by simp [results, Tryd.results7, go_sem, hc]) rfl ⟨rfl, ?_⟩
  exact ((below2b hb).setCell (by simp) _).setCell (by simp) _

theorem specChar_end (s : ByteArray) (w : World) :
    Calls Tryd.prog 7 #[.agg #[.string s, .int .i64 s.size]] w fun e w' => e = .returned (.tuple #[.string ⟨#[]⟩, .agg #[.string s, .int .i64 s.size]]) ∧ Below w.heap.size w w' := by
  have HC := Lib.hid (fun w => l23Ok_any s s.size w)
  have h : (decide (0 ≤ (s.size : Int)) && decide ((s.size : Int) ≤ s.size)) = true := by simp
  rw [h] at HC
  clear h
  go_enter Tryd.func7, Tryd.ntmps7
  go_wp2_with (go_at_call 21; refine (HC.out _).mono ?_; rintro e w1 ⟨rfl, hb⟩; obtain ⟨hc, hf⟩ := bcell hb)
  go_region
  go_wp2
  refine bodyPost_ret (v := .tuple #[.string ⟨#[]⟩, .agg #[.string s, .int .i64 s.size]]) (by simp [results, Tryd.results7, go_sem, hc]) rfl ⟨rfl, ?_⟩
  exact (((below2b hb).setCell (by simp) _).setCell (by simp) _).drew

theorem specChar_char (s : ByteArray) (a : Nat) (w : World) (ha : a < s.size) (hs : s.size ≤ 1048576) :
    Calls Tryd.prog 7 #[.agg #[.string s, .int .i64 a]] w fun e w' => e = .returned (.tuple #[.string (s.extract a (a + charLen (s.extract a s.size))), .agg #[.string s, .int .i64 (a + charLen (s.extract a s.size) : Nat)]]) ∧ Below w.heap.size w w' := by
  have HC := Lib.hid (fun w => l23Ok_any s a w)
  have h : (decide (0 ≤ (a : Int)) && decide ((a : Int) ≤ s.size)) = true := by simp; omega
  rw [h] at HC
  clear h
  have hsz : (s.extract a s.size).size = s.size - a := by simp
  have HL := Lib.hid (fun w => size_any (s.extract a s.size) w (by omega) (by omega))
  obtain ⟨p1, p2⟩ := charLen_pos (s.extract a s.size) (by omega)
  have p3 := charLen_sz (s.extract a s.size) (by omega)
  have HX := Lib.hid (extract_head s a (charLen (s.extract a s.size)) (by omega))
  have hne : (s.extract a s.size).toList.isEmpty = false := by
    rw [Lib.toList_data, Lib.extract_data, List.isEmpty_eq_false_iff]
    intro h
    have := congrArg List.length h
    simp at this
    omega
  generalize charLen (s.extract a s.size) = n at *
  generalize szOf (s.extract a s.size) = m at *
  have h1 : n ≤ (s.extract a s.size).size := p2
  have h2 : 0 ≤ (n : Int) := by omega
  have h3 : n ≤ 1048576 := by omega
  clear hsz p2
  by_cases hm : m = 0
  · subst hm
    rw [if_pos rfl] at p3
    subst p3
    go_enter Tryd.func7, Tryd.ntmps7
    go_wp2_with fail
    refine (HC.out _).mono ?_
    rintro e w1 ⟨rfl, hb⟩
    have B0 := (Blk.two w _ _ _ _).1.below hb
    have B1 := (Blk.two w _ _ _ _).2.below hb
    have c0 := B0.cell0 (o := 0) rfl
    have c1 := B0.cell0 (o := 1) rfl
    go_wp2_with fail
    refine (HL.out _).mono ?_
    rintro e w2 ⟨rfl, hb2⟩
    replace B0 := B0.below hb2
    replace B1 := B1.below hb2
    clear c0 c1
    have c0 := B0.cell0 (o := 0) rfl
    have c1 := B0.cell0 (o := 1) rfl
    have d0 := B1.cell0 (o := 0) rfl
    have d1 := B1.cell0 (o := 1) rfl
    have e0 := B1.free 0
    have e1 := B1.free 1
    go_wp2
    go_region
    go_wp2
    have hB := below_then (below2b hb) hb2 (by have := hb.size; simp at this; omega)
    refine bodyPost_ret (v := .tuple #[.string (s.extract a (a + 1)), .agg #[.string s, .int .i64 (a + 1 : Nat)]]) (by simp [results, Tryd.results7, go_sem, d0, d1, HX.out]) rfl ⟨rfl, ?_⟩
    exact ((hB.setCell (by simp) _).setCell (by simp) _).drew
  · rw [if_neg hm] at p3
    subst p3
    have hm' : ((m : Int) == 0) = false := by rw [beq_eq_false_iff_ne]; omega
    go_enter Tryd.func7, Tryd.ntmps7
    go_wp2_with fail
    refine (HC.out _).mono ?_
    rintro e w1 ⟨rfl, hb⟩
    have B0 := (Blk.two w _ _ _ _).1.below hb
    have B1 := (Blk.two w _ _ _ _).2.below hb
    have c0 := B0.cell0 (o := 0) rfl
    have c1 := B0.cell0 (o := 1) rfl
    go_wp2_with fail
    refine (HL.out _).mono ?_
    rintro e w2 ⟨rfl, hb2⟩
    replace B0 := B0.below hb2
    replace B1 := B1.below hb2
    clear c0 c1
    have c0 := B0.cell0 (o := 0) rfl
    have c1 := B0.cell0 (o := 1) rfl
    have d0 := B1.cell0 (o := 0) rfl
    have d1 := B1.cell0 (o := 1) rfl
    have e0 := B1.free 0
    have e1 := B1.free 1
    go_wp2
    go_region
    go_wp2
    have hB := below_then (below2b hb) hb2 (by have := hb.size; simp at this; omega)
    refine bodyPost_ret (v := .tuple #[.string (s.extract a (a + m)), .agg #[.string s, .int .i64 (a + m : Nat)]]) (by simp [results, Tryd.results7, go_sem, d0, d1, HX.out]) rfl ⟨rfl, ?_⟩
    exact ((hB.setCell (by simp) _).setCell (by simp) _).drew

theorem decGo (s : ByteArray) (hs : 0 < s.size) : (Lib.decodeGo s).2 = charLen s := by
  unfold Lib.decodeGo charLen
  rw [if_neg (by omega)]
theorem decGo0 (s : ByteArray) (hs : s.size = 0) : (Lib.decodeGo s).2 = 0 := by
  unfold Lib.decodeGo
  rw [if_pos hs]

theorem implChar_bad (s : ByteArray) (a : Int) (w : World) (h : (decide (0 ≤ a) && decide (a ≤ s.size)) = false) :
    Calls Tryd.prog 9 #[.agg #[.string s, .int .i64 a]] w fun e w' => e = .returned (.tuple #[.string ⟨#[]⟩, .agg #[.string ⟨#[]⟩, .int .i64 0]]) ∧ Below w.heap.size w w' := by
  have HC := Lib.hid (fun w => ok_any s a w)
  rw [h] at HC
  clear h
  go_enter Tryd.func9, Tryd.ntmps9
  go_wp2_with (go_at_call 23; refine (HC.out _).mono ?_; rintro e w1 ⟨rfl, hb⟩; obtain ⟨hc, hf⟩ := bcell hb)
  refine bodyPost_ret (v := .tuple #[.string ⟨#[]⟩, .agg #[.string ⟨#[]⟩, .int .i64 0]]) (by simp [results, Tryd.results9, go_sem, hc]) rfl ⟨rfl, ?_⟩
  exact ((below2b hb).setCell (by simp) _).setCell (by simp) _

/-- The program's TabChar at a place of the text, or its end. -/
theorem implChar_ok (s : ByteArray) (a n : Nat) (w : World) (ha : a ≤ s.size) (hs : s.size ≤ 1048576) (hn : (Lib.decodeGo (s.extract a s.size)).2 = n) (hn2 : a + n ≤ s.size)
    (hT : Lib.Utf8Tabs 0 1 w) (hw : 1 < w.heap.size) :
    Calls Tryd.prog 9 #[.agg #[.string s, .int .i64 a]] w fun e w' => e = .returned (.tuple #[.string (s.extract a (a + n)), .agg #[.string s, .int .i64 (a + n : Nat)]]) ∧ Below w.heap.size w w' := by
  have HC := Lib.hid (fun w => ok_any s a w)
  have h : (decide (0 ≤ (a : Int)) && decide ((a : Int) ≤ s.size)) = true := by simp; omega
  rw [h] at HC
  clear h
  have HL := Lib.hid (fun w h => Dec.utf8_DecodeRuneInString (s.extract a s.size) w h)
  rw [hn] at HL
  generalize (Lib.decodeGo (s.extract a s.size)).1 = r at *
  clear hn
  have HT := Lib.hid hT
  clear hT
  go_enter Tryd.func9, Tryd.ntmps9
  go_wp2_with fail
  refine (HC.out _).mono ?_
  rintro e w1 ⟨rfl, hb⟩
  have B0 := (Blk.two w _ _ _ _).1.below hb
  have B1 := (Blk.two w _ _ _ _).2.below hb
  have c0 := B0.cell0 (o := 0) rfl
  have c1 := B0.cell0 (o := 1) rfl
  go_wp2_with fail
  refine (HL.out _ (Dec.tabs_below HT.out hw (below2b hb))).mono ?_
  rintro e w2 ⟨rfl, hb2⟩
  replace B0 := B0.below hb2
  replace B1 := B1.below hb2
  clear c0 c1
  have c0 := B0.cell0 (o := 0) rfl
  have c1 := B0.cell0 (o := 1) rfl
  have d0 := B1.cell0 (o := 0) rfl
  have d1 := B1.cell0 (o := 1) rfl
  have e0 := B1.free 0
  have e1 := B1.free 1
  go_wp2
  go_region
  go_wp2
  have hB := below_then (below2b hb) hb2 (by have := hb.size; simp at this; omega)
  refine bodyPost_ret (v := .tuple #[.string (s.extract a (a + n)), .agg #[.string s, .int .i64 (a + n : Nat)]]) (by simp [results, Tryd.results9, go_sem, d0, d1]) rfl ⟨rfl, ?_⟩
  exact ((hB.setCell (by simp) _).setCell (by simp) _).drew
end Go.Proofs.YtjpkmcaogekkdaaDoor.Port
