/- The walks of TabLine in the program and in the reference: what each function that the law reaches hands back, for every text and place. -/
import Derived.Test.YtjpkmcaogekkdaaProg
import Derived.WalkKit
import Derived.WalkLawsBesides
import Derived.WalkSpells
import Derived.Below
import Derived.LoopTactic
import Derived.RegionTactic
import Derived.ChangeAlike
import Derived.Lib.Hide
import Derived.Outline
import Derived.KernelRfl
import Derived.Deep.QuietTactic
import Derived.BigQuiet
import Derived.BigRegion
import Derived.Lib.Bytealg
namespace Go.Proofs.Ytjpkmcaogekkdaa.Line
open Go.RowKit

theorem l1In_any (a b c : Int) (w : World) :
    Calls Try.prog 14 #[.int .i64 a, .int .i64 b, .int .i64 c] w fun e w' => e = .returned (.bool (decide (b ≤ a) && decide (a ≤ c))) ∧ w = w' := by
  by_cases h : b ≤ a
  · go_enter Try.func14, Try.ntmps14
    go_wp2
    go_ret
    exact ⟨by simp [h], rfl⟩
  · go_enter Try.func14, Try.ntmps14
    go_wp2
    go_ret
    exact ⟨by simp; omega, rfl⟩

theorem l23Ok_any (s : ByteArray) (a : Int) (w : World) :
    Calls Try.prog 10 #[.agg #[.string s, .int .i64 a]] w fun e w' => e = .returned (.bool (decide (0 ≤ a) && decide (a ≤ s.size))) ∧ Below w.heap.size w w' := by
  go_enter Try.func10, Try.ntmps10
  go_wp2_with (go_at_call 14; refine (l1In_any _ _ _ _).mono ?_; rintro e w' ⟨rfl, rfl⟩)
  go_ret
  exact ⟨rfl, (Below.refl _ _).alloc (Nat.le_refl _) _⟩

theorem ok_any (s : ByteArray) (a : Int) (w : World) :
    Calls Try.prog 12 #[.agg #[.string s, .int .i64 a]] w fun e w' => e = .returned (.bool (decide (0 ≤ a) && decide (a ≤ s.size))) ∧ Below w.heap.size w w' := by
  by_cases h : 0 ≤ a
  all_goals
    go_enter Try.func12, Try.ntmps12
    go_wp2
    go_ret
    exact ⟨by simp [h] <;> omega, (Below.refl _ _).alloc (Nat.le_refl _) _⟩

theorem sz_any (s : ByteArray) (a l : Int) (w : World) (h0 : 0 ≤ l) (h1 : l ≤ 1048576) (hs : s.size ≤ 140737488351232) :
    Calls Try.prog 5 #[.agg #[.string s, .int .i64 a], .int .i64 l] w fun e w' => e = .returned (.int .i64 (if l < s.size then -1 else l - s.size)) ∧ Below w.heap.size w w' := by
  by_cases h : l < (s.size : Int)
  · rw [if_pos h]
    go_enter Try.func5, Try.ntmps5
    go_wp2
    go_ret
    exact ⟨rfl, (Below.refl _ _).alloc (Nat.le_refl _) _⟩
  · rw [if_neg h]
    go_enter Try.func5, Try.ntmps5
    go_wp2
    go_ret
    exact ⟨rfl, (Below.refl _ _).alloc (Nat.le_refl _) _⟩

theorem toPort_any (s : ByteArray) (a : Int) (w : World) :
    Calls Try.prog 7 #[.agg #[.string s, .int .i64 a]] w fun e w' => e = .returned (.agg #[.string s, .int .i64 a]) ∧ Below w.heap.size w w' := by
  go_enter Try.func7, Try.ntmps7
  go_wp2
  refine bodyPost_ret (v := .agg #[.string s, .int .i64 a]) (by simp [results, Try.results7, go_sem]) rfl ⟨rfl, ?_⟩
  exact (((Below.refl _ _).alloc (Nat.le_refl _) _).alloc (by simp) _).alloc (by simp; omega) _

theorem eqPort_any (s : ByteArray) (a : Int) (s' : ByteArray) (a' : Int) (w : World) :
    Calls Try.prog 9 #[.agg #[.string s, .int .i64 a], .agg #[.string s', .int .i64 a']] w fun e w' => e = .returned (.bool (s.toList == s'.toList && a == a')) ∧ Below w.heap.size w w' := by
  go_enter Try.func9, Try.ntmps9
  go_wp2
  all_goals
    go_ret
    exact ⟨by simp_all, ((Below.refl _ _).alloc (Nat.le_refl _) _).alloc (by simp) _⟩

/-- the place of the first newline, or the length -/
def lineEnd : List UInt8 → Nat
  | [] => 0
  | c :: l => if c = 10 then 0 else lineEnd l + 1

theorem lineEnd_le (l : List UInt8) : lineEnd l ≤ l.length := by
  induction l with
  | nil => simp [lineEnd]
  | cons c l ih => simp only [lineEnd, List.length_cons]; split <;> omega

theorem lineEnd_drop (l : List UInt8) (k : Nat) (hk : k < l.length) : lineEnd (l.drop k) = if l[k] = 10 then 0 else lineEnd (l.drop (k + 1)) + 1 := by
  rw [List.drop_eq_getElem_cons hk]; rfl

theorem indexByte_lineEnd (l : List UInt8) : Lib.indexByte l 10 = if lineEnd l < l.length then (lineEnd l : Int) else -1 := by
  induction l with
  | nil => rfl
  | cons c l ih =>
    by_cases h : c = 10
    · simp [Lib.indexByte, lineEnd, h]
    · have h' : (c == 10) = false := by simpa using h
      have e1 : lineEnd (c :: l) = lineEnd l + 1 := by simp [lineEnd, h]
      have e2 : Lib.indexByte (c :: l) 10 = if Lib.indexByte l 10 == -1 then -1 else Lib.indexByte l 10 + 1 := by simp [Lib.indexByte, h]
      rw [e1, e2, ih, List.length_cons]
      by_cases g : lineEnd l < l.length
      · have h2 : ((lineEnd l : Int) == -1) = false := by rw [beq_eq_false_iff_ne]; omega
        have g2 : lineEnd l + 1 < l.length + 1 := by omega
        simp only [g, g2, if_true, h2]
        simp
      · have g2 : ¬ (lineEnd l + 1 < l.length + 1) := by omega
        simp only [g, g2, if_false]
        rfl

theorem indexByte_any (s : ByteArray) (c : Int) (w : World) :
    Calls Try.prog 17 #[.string s, .int .u8 c] w fun e w' => e = .returned (.int .i64 (Lib.indexByte s.data.toList c.toNat.toUInt8)) ∧ w = w' := by
  go_enter Try.func17, Try.ntmps17
  go_wp2
  rw [run_callFunc_extern Try.func21 (by kernel_rfl) (by kernel_rfl) (by kernel_rfl) (e := Extern.BytealgIndexByte.indexByte) (by kernel_rfl), Lib.run_indexByteString]
  simp only [Result.andThen]
  rw [Oper.upon_value]
  go_wp2
  go_ret
  exact ⟨rfl, rfl⟩

theorem index_any (s : ByteArray) (w : World) :
    Calls Try.prog 16 #[.string s, .string ⟨#[10]⟩] w fun e w' => e = .returned (.int .i64 (Lib.indexByte s.data.toList 10)) ∧ w = w' := by
  go_enter Try.func16, Try.ntmps16
  go_wp2_with (go_at_call 17; refine (indexByte_any _ _ _).mono ?_; rintro e w' ⟨rfl, rfl⟩)
  · go_ret
    refine ⟨?_, rfl⟩
    have h : s.data.toList = [10] := by
      have h' : ([10] == s.toList) = true := by assumption
      have := (beq_iff_eq.1 h').symm
      rwa [ByteArray.toList_eq] at this
    rw [h]
    rfl
  · go_ret
    exact ⟨rfl, rfl⟩

theorem l11Line_any (s : ByteArray) (w : World) (hs : s.size ≤ 140737488351232) :
    Calls Try.prog 11 #[.string s, .int .i64 0] w fun e w' => e = .returned (.int .i64 (lineEnd s.data.toList)) ∧ w = w' := by
  go_enter Try.func11, Try.ntmps11
  go_wp2
  go_loop [1] (fun i => ∃ k : Nat, k ≤ s.size ∧ i = .int .i64 k ∧ Hid (lineEnd s.data.toList = k + lineEnd (s.data.toList.drop k))) (fun i => s.size - (intOf i).toNat)
  case atStart => exact ⟨0, by omega, rfl, by simp [Hid]⟩
  case round =>
    obtain ⟨k, hk, rfl, hl⟩ := hrel
    by_cases hlt : k < s.size
    · have hd := Lib.hid (lineEnd_drop s.data.toList k hlt)
      go_wp2
      · refine ⟨⟨k + 1, by omega, by go_num, ?_⟩, by simp [intOf]; omega⟩
        have h10 : ¬ (s.data.toList[k]'hlt = 10) := by
          intro h
          have h' : s[k] = 10 := h
          simp_all
        have hd' := hd.out
        rw [if_neg h10] at hd'
        have := hl.out
        show _ = _
        omega
      · go_ret
        have h10 : s.data.toList[k]'hlt = 10 := by
          show s[k] = 10
          have h' : s[k].toNat = 10 := by simp_all; omega
          exact UInt8.toNat_inj.1 h'
        have hd' := hd.out
        rw [if_pos h10] at hd'
        have := hl.out
        refine ⟨?_, rfl⟩
        rw [this, hd']
        rfl
    · go_wp2
      go_ret
      refine ⟨?_, rfl⟩
      rw [hl.out, List.drop_of_length_le (by simp; omega)]
      have : k = s.size := by omega
      simp [lineEnd, this]


theorem slCut_yes (s : ByteArray) (w : World) (h : lineEnd s.data.toList < s.size) (hs : s.size ≤ 140737488351232) :
    Calls Try.prog 15 #[.string s, .string ⟨#[10]⟩] w fun e w' => e = .returned (.tuple #[.string (s.extract 0 (lineEnd s.data.toList)), .string (s.extract (lineEnd s.data.toList + 1) s.size), .bool true]) ∧ ∃ n, w' = w.drewN n := by
  have hi : Lib.indexByte s.data.toList 10 = (lineEnd s.data.toList : Int) := by
    rw [indexByte_lineEnd, if_pos (by simpa using h)]
  have hc : ∀ w, Calls Try.prog 16 #[.string s, .string ⟨#[10]⟩] w fun e w' => e = .returned (.int .i64 (lineEnd s.data.toList)) ∧ w = w' := by
    intro w
    have := index_any s w
    rw [hi] at this
    exact this
  have HC := Lib.hid hc
  clear hc hi
  generalize lineEnd s.data.toList = n at *
  go_enter Try.func15, Try.ntmps15
  go_wp2_with (go_at_call 16; refine (HC.out _).mono ?_; rintro e w' ⟨rfl, rfl⟩)
  go_quiet (fail)
  go_wp2
  go_ret3
  exact ⟨rfl, _, rfl⟩

theorem slCut_no (s : ByteArray) (w : World) (h : ¬ lineEnd s.data.toList < s.size)  :
    Calls Try.prog 15 #[.string s, .string ⟨#[10]⟩] w fun e w' => e = .returned (.tuple #[.string s, .string ⟨#[]⟩, .bool false]) ∧ ∃ n, w' = w.drewN n := by
  have hi : Lib.indexByte s.data.toList 10 = -1 := by
    rw [indexByte_lineEnd, if_neg (by simpa using h)]
  have hc : ∀ w, Calls Try.prog 16 #[.string s, .string ⟨#[10]⟩] w fun e w' => e = .returned (.int .i64 (-1)) ∧ w = w' := by
    intro w
    have := index_any s w
    rw [hi] at this
    exact this
  have HC := Lib.hid hc
  clear hc hi
  go_enter Try.func15, Try.ntmps15
  go_wp2_with (go_at_call 16; refine (HC.out _).mono ?_; rintro e w' ⟨rfl, rfl⟩)
  go_ret3
  exact ⟨rfl, 0, rfl⟩

theorem cut_yes (s : ByteArray) (w : World) (h : lineEnd s.data.toList < s.size) (hs : s.size ≤ 140737488351232) :
    Calls Try.prog 13 #[.string s, .string ⟨#[10]⟩] w fun e w' => e = .returned (.tuple #[.string (s.extract 0 (lineEnd s.data.toList)), .string (s.extract (lineEnd s.data.toList + 1) s.size), .bool true]) ∧ ∃ n, w' = w.drewN n := by
  have HC := Lib.hid (fun w => slCut_yes s w h hs)
  clear h hs
  generalize lineEnd s.data.toList = n at *
  go_enter Try.func13, Try.ntmps13
  go_wp2_with (go_at_call 15; refine (HC.out _).mono ?_; rintro e w' ⟨rfl, nd, rfl⟩)
  go_ret3
  exact ⟨rfl, _, rfl⟩

theorem cut_no (s : ByteArray) (w : World) (h : ¬ lineEnd s.data.toList < s.size) :
    Calls Try.prog 13 #[.string s, .string ⟨#[10]⟩] w fun e w' => e = .returned (.tuple #[.string s, .string ⟨#[]⟩, .bool false]) ∧ ∃ n, w' = w.drewN n := by
  have HC := Lib.hid (fun w => slCut_no s w h)
  clear h
  go_enter Try.func13, Try.ntmps13
  go_wp2_with (go_at_call 15; refine (HC.out _).mono ?_; rintro e w' ⟨rfl, nd, rfl⟩)
  go_ret3
  exact ⟨rfl, _, rfl⟩

theorem bcell {W w1 : World} (hb : Below W.heap.size W w1) : (∀ b o, b < W.heap.size → w1.cell? ⟨b, o, none⟩ = W.cell? ⟨b, o, none⟩) ∧ (∀ b o, b < W.heap.size → w1.frozen? ⟨b, o, none⟩ = W.frozen? ⟨b, o, none⟩) :=
  ⟨fun b o h => hb.cell (p := ⟨b, o, none⟩) h, fun b o h => hb.frozen (p := ⟨b, o, none⟩) h⟩

theorem below2 (w : World) (x y : Obj) : Below w.heap.size w ((w.alloc x).alloc y) :=
  ((Below.refl _ _).alloc (Nat.le_refl _) _).alloc (by simp) _

theorem below2b {w w1 : World} {x y : Obj} (hb : Below ((w.alloc x).alloc y).heap.size ((w.alloc x).alloc y) w1) : Below w.heap.size w w1 :=
  (below2 w x y).trans (hb.mono (by simp; omega))

theorem extract_head (s : ByteArray) (a k : Nat) (h : k ≤ s.size - a) : (s.extract a s.size).extract 0 k = s.extract a (a + k) := by
  rw [Lib.extract_eq, Lib.extract_eq s a (a + k), Lib.extract_data, List.drop_zero, List.take_take]
  congr 3
  omega

theorem specLine_bad (s : ByteArray) (a : Int) (w : World) (h : (decide (0 ≤ a) && decide (a ≤ s.size)) = false) :
    Calls Try.prog 6 #[.agg #[.string s, .int .i64 a]] w fun e w' => e = .returned (.tuple #[.string ⟨#[]⟩, .agg #[.string ⟨#[]⟩, .int .i64 0], .bool false]) ∧ Below w.heap.size w w' := by
  have HC := Lib.hid (fun w => l23Ok_any s a w)
  rw [h] at HC
  clear h
  go_enter Try.func6, Try.ntmps6
  go_wp2_with (go_at_call 10; refine (HC.out _).mono ?_; rintro e w1 ⟨rfl, hb⟩; obtain ⟨hc, hf⟩ := bcell hb)
  refine bodyPost_ret (v := .tuple #[.string ⟨#[]⟩, .agg #[.string ⟨#[]⟩, .int .i64 0], .bool false]) (by simp [results, Try.results6, go_sem, hc]) rfl ⟨rfl, ?_⟩
  exact ((below2b hb).setCell (by simp) _).setCell (by simp) _

theorem specLine_end (s : ByteArray) (w : World) :
    Calls Try.prog 6 #[.agg #[.string s, .int .i64 s.size]] w fun e w' => e = .returned (.tuple #[.string ⟨#[]⟩, .agg #[.string s, .int .i64 s.size], .bool false]) ∧ Below w.heap.size w w' := by
  have HC := Lib.hid (fun w => l23Ok_any s s.size w)
  have h : (decide (0 ≤ (s.size : Int)) && decide ((s.size : Int) ≤ s.size)) = true := by simp
  rw [h] at HC
  clear h
  go_enter Try.func6, Try.ntmps6
  go_wp2_with (go_at_call 10; refine (HC.out _).mono ?_; rintro e w1 ⟨rfl, hb⟩; obtain ⟨hc, hf⟩ := bcell hb)
  go_region
  go_wp2
  refine bodyPost_ret (v := .tuple #[.string ⟨#[]⟩, .agg #[.string s, .int .i64 s.size], .bool false]) (by simp [results, Try.results6, go_sem, hc]) rfl ⟨rfl, ?_⟩
  exact (((below2b hb).setCell (by simp) _).setCell (by simp) _).drew

theorem specLine_line (s : ByteArray) (a : Nat) (w : World) (ha : a < s.size) (hs : s.size ≤ 140737488351232) :
    Calls Try.prog 6 #[.agg #[.string s, .int .i64 a]] w fun e w' => e = .returned (.tuple #[.string (s.extract a (a + lineEnd (s.data.toList.drop a))), .agg #[.string s, .int .i64 (if a + lineEnd (s.data.toList.drop a) < s.size then a + lineEnd (s.data.toList.drop a) + 1 else a + lineEnd (s.data.toList.drop a) : Nat)], .bool true]) ∧ Below w.heap.size w w' := by
  have HC := Lib.hid (fun w => l23Ok_any s a w)
  have h : (decide (0 ≤ (a : Int)) && decide ((a : Int) ≤ s.size)) = true := by simp; omega
  rw [h] at HC
  clear h
  have hsz : (s.extract a s.size).size = s.size - a := by simp
  have hld : (s.extract a s.size).data.toList = s.data.toList.drop a := by
    rw [Lib.extract_data, List.take_of_length_le]; simp
  have HL := Lib.hid (fun w => l11Line_any (s.extract a s.size) w (by omega))
  rw [hld] at HL
  have hle := lineEnd_le (s.data.toList.drop a)
  have hle' : lineEnd (s.data.toList.drop a) ≤ s.size - a := by simpa using hle
  clear hle hsz hld
  have hne : (s.extract a s.size).toList.isEmpty = false := by
    rw [Lib.toList_data, Lib.extract_data]
    rw [List.isEmpty_eq_false_iff]
    intro h
    have := congrArg List.length h
    simp at this
    omega
  have HX := Lib.hid (extract_head s a (lineEnd (s.data.toList.drop a)) (by omega))
  generalize lineEnd (s.data.toList.drop a) = n at *
  have h1 : n ≤ (s.extract a s.size).size := by simp; omega
  have h2 : 0 ≤ (n : Int) := by omega
  by_cases hn : a + n < s.size
  · rw [if_pos hn]
    go_enter Try.func6, Try.ntmps6
    go_wp2_with (first | (go_at_call 10; refine (HC.out _).mono ?_; rintro e w1 ⟨rfl, hb⟩; obtain ⟨hc, hf⟩ := bcell hb) | (go_at_call 11; refine (HL.out _).mono ?_; rintro e w2 ⟨rfl, rfl⟩))
    go_region
    go_wp2
    refine bodyPost_ret (v := .tuple #[.string (s.extract a (a + n)), .agg #[.string s, .int .i64 (a + n + 1 : Nat)], .bool true]) (by simp [results, Try.results6, go_sem, hc, HX.out]; omega) rfl ⟨rfl, ?_⟩
    exact (((below2b hb).setCell (by simp) _).setCell (by simp) _).drew
  · rw [if_neg hn]
    go_enter Try.func6, Try.ntmps6
    go_wp2_with (first | (go_at_call 10; refine (HC.out _).mono ?_; rintro e w1 ⟨rfl, hb⟩; obtain ⟨hc, hf⟩ := bcell hb) | (go_at_call 11; refine (HL.out _).mono ?_; rintro e w2 ⟨rfl, rfl⟩))
    go_region
    go_wp2
    refine bodyPost_ret (v := .tuple #[.string (s.extract a (a + n)), .agg #[.string s, .int .i64 (a + n : Nat)], .bool true]) (by simp [results, Try.results6, go_sem, hc, HX.out]) rfl ⟨rfl, ?_⟩
    exact (((below2b hb).setCell (by simp) _).setCell (by simp) _).drew

theorem implLine_bad (s : ByteArray) (a : Int) (w : World) (h : (decide (0 ≤ a) && decide (a ≤ s.size)) = false) :
    Calls Try.prog 8 #[.agg #[.string s, .int .i64 a]] w fun e w' => e = .returned (.tuple #[.string ⟨#[]⟩, .agg #[.string ⟨#[]⟩, .int .i64 0], .bool false]) ∧ Below w.heap.size w w' := by
  have HC := Lib.hid (fun w => ok_any s a w)
  rw [h] at HC
  clear h
  go_enter Try.func8, Try.ntmps8
  go_wp2_with (go_at_call 12; refine (HC.out _).mono ?_; rintro e w1 ⟨rfl, hb⟩; obtain ⟨hc, hf⟩ := bcell hb)
  refine bodyPost_ret (v := .tuple #[.string ⟨#[]⟩, .agg #[.string ⟨#[]⟩, .int .i64 0], .bool false]) (by simp [results, Try.results8, go_sem, hc]) rfl ⟨rfl, ?_⟩
  exact ((below2b hb).setCell (by simp) _).setCell (by simp) _

theorem implLine_end (s : ByteArray) (w : World) :
    Calls Try.prog 8 #[.agg #[.string s, .int .i64 s.size]] w fun e w' => e = .returned (.tuple #[.string ⟨#[]⟩, .agg #[.string s, .int .i64 s.size], .bool false]) ∧ Below w.heap.size w w' := by
  have HC := Lib.hid (fun w => ok_any s s.size w)
  have h : (decide (0 ≤ (s.size : Int)) && decide ((s.size : Int) ≤ s.size)) = true := by simp
  rw [h] at HC
  clear h
  go_enter Try.func8, Try.ntmps8
  go_wp2_with (go_at_call 12; refine (HC.out _).mono ?_; rintro e w1 ⟨rfl, hb⟩; obtain ⟨hc, hf⟩ := bcell hb)
  go_region
  go_wp2
  refine bodyPost_ret (v := .tuple #[.string ⟨#[]⟩, .agg #[.string s, .int .i64 s.size], .bool false]) (by simp [results, Try.results8, go_sem, hc]) rfl ⟨rfl, ?_⟩
  exact (((below2b hb).setCell (by simp) _).setCell (by simp) _).drew

theorem implLine_line (s : ByteArray) (a : Nat) (w : World) (ha : a < s.size) (hs : s.size ≤ 140737488351232) :
    Calls Try.prog 8 #[.agg #[.string s, .int .i64 a]] w fun e w' => e = .returned (.tuple #[.string (s.extract a (a + lineEnd (s.data.toList.drop a))), .agg #[.string s, .int .i64 (if a + lineEnd (s.data.toList.drop a) < s.size then a + lineEnd (s.data.toList.drop a) + 1 else a + lineEnd (s.data.toList.drop a) : Nat)], .bool true]) ∧ Below w.heap.size w w' := by
  have HC := Lib.hid (fun w => ok_any s a w)
  have h : (decide (0 ≤ (a : Int)) && decide ((a : Int) ≤ s.size)) = true := by simp; omega
  rw [h] at HC
  clear h
  have hsz : (s.extract a s.size).size = s.size - a := by simp
  have hld : (s.extract a s.size).data.toList = s.data.toList.drop a := by
    rw [Lib.extract_data, List.take_of_length_le]; simp
  have HY := Lib.hid (fun w h => cut_yes (s.extract a s.size) w h (by omega))
  have HN := Lib.hid (fun w => cut_no (s.extract a s.size) w)
  rw [hld, hsz] at HY
  rw [hld, hsz] at HN
  have hle := lineEnd_le (s.data.toList.drop a)
  have hle' : lineEnd (s.data.toList.drop a) ≤ s.size - a := by simpa using hle
  have HX := Lib.hid (extract_head s a (lineEnd (s.data.toList.drop a)) (by omega))
  have HZ := Lib.hid hsz
  clear hle hsz hld
  generalize lineEnd (s.data.toList.drop a) = n at *
  have hne : ((a : Int) == (s.size : Int)) = false := by rw [beq_eq_false_iff_ne]; omega
  by_cases hn : a + n < s.size
  · rw [if_pos hn]
    have hx : (s.extract a (a + n)).size = n := by simp; omega
    have HQ := Lib.hid (fun w => HY.out w (by omega))
    rw [HX.out] at HQ
    have HH := Lib.hid hx
    have hsl : ((s.extract a (a + n)).size : Int) = n := by omega
    clear HY HN hx
    go_enter Try.func8, Try.ntmps8
    go_wp2_with (first | (go_at_call 12; refine (HC.out _).mono ?_; rintro e w1 ⟨rfl, hb⟩; obtain ⟨hc, hf⟩ := bcell hb) | (go_at_call 13; refine (HQ.out _).mono ?_; rintro e w2 ⟨rfl, nd, rfl⟩))
    go_region
    go_wp2
    refine bodyPost_ret (v := .tuple #[.string (s.extract a (a + n)), .agg #[.string s, .int .i64 (a + n + 1 : Nat)], .bool true]) (by simp [results, Try.results8, go_sem, hc]; omega) rfl ⟨rfl, ?_⟩
    exact ((below_drewN (below2b hb) _).setCell (by simp) _).setCell (by simp) _
  · rw [if_neg hn]
    obtain rfl : n = s.size - a := by omega
    have hs2 : a + (s.size - a) = s.size := by omega
    rw [hs2]
    have HQ := Lib.hid (fun w => HN.out w (by omega))
    have hsl : ((s.extract a s.size).size : Int) = (s.size : Int) - a := by have := HZ.out; omega
    clear HY HN HX hs2 hn hle'
    go_enter Try.func8, Try.ntmps8
    go_wp2_with (first | (go_at_call 12; refine (HC.out _).mono ?_; rintro e w1 ⟨rfl, hb⟩; obtain ⟨hc, hf⟩ := bcell hb) | (go_at_call 13; refine (HQ.out _).mono ?_; rintro e w2 ⟨rfl, nd, rfl⟩))
    go_region
    go_wp2
    refine bodyPost_ret (v := .tuple #[.string (s.extract a s.size), .agg #[.string s, .int .i64 (s.size : Nat)], .bool true]) (by simp [results, Try.results8, go_sem, hc]; omega) rfl ⟨rfl, ?_⟩
    exact ((below_drewN (below2b hb) _).setCell (by simp) _).setCell (by simp) _

theorem law_big (s : ByteArray) (a : Int) (w : World) (h : 1048576 < s.size) (hs : s.size ≤ 140737488351232) :
    Calls Try.prog 4 #[.agg #[.string s, .int .i64 a]] w fun e w' => e = .returned (.bool true) ∧ Below w.heap.size w w' := by
  have HC := Lib.hid (fun w => sz_any s a 1048576 w (by omega) (by omega) hs)
  rw [if_pos (by omega)] at HC
  go_enter Try.func4, Try.ntmps4
  go_wp2_with (go_at_call 5; refine (HC.out _).mono ?_; rintro e w1 ⟨rfl, hb⟩; obtain ⟨hc, hf⟩ := bcell hb)
  go_ret
  exact ⟨rfl, ((Below.refl _ _).alloc (Nat.le_refl _) _).trans (hb.mono (by simp))⟩

/-- The law, where the two readers hand back the same. -/
theorem law_same (s : ByteArray) (a : Int) (w : World) (h : s.size ≤ 1048576) (r r2 : ByteArray) (r3 : Int) (r4 : Bool)
    (H6 : Hid (∀ w, Calls Try.prog 6 #[.agg #[.string s, .int .i64 a]] w fun e w' => e = .returned (.tuple #[.string r, .agg #[.string r2, .int .i64 r3], .bool r4]) ∧ Below w.heap.size w w'))
    (H8 : Hid (∀ w, Calls Try.prog 8 #[.agg #[.string s, .int .i64 a]] w fun e w' => e = .returned (.tuple #[.string r, .agg #[.string r2, .int .i64 r3], .bool r4]) ∧ Below w.heap.size w w')) :
    Calls Try.prog 4 #[.agg #[.string s, .int .i64 a]] w fun e w' => e = .returned (.bool true) ∧ Below w.heap.size w w' := by
  have HC := Lib.hid (fun w => sz_any s a 1048576 w (by omega) (by omega) (by omega))
  rw [if_neg (by omega)] at HC
  have HE := Lib.hid (fun w => eqPort_any r2 r3 r2 r3 w)
  rw [show (r2.toList == r2.toList && r3 == r3) = true by simp] at HE
  have hl : 0 ≤ (1048576 - s.size : Int) := by omega
  go_enter Try.func4, Try.ntmps4
  go_wp2_with fail
  refine (HC.out _).mono ?_
  rintro e w1 ⟨rfl, hb1⟩
  obtain ⟨hc1, hf1⟩ := bcell hb1
  have hz1 : w.heap.size < w1.heap.size := by have := hb1.size; simp at this; omega
  go_wp2_with fail
  refine (toPort_any s a _).mono ?_
  rintro e w2 ⟨rfl, hb2⟩
  obtain ⟨hc2, hf2⟩ := bcell hb2
  have hz2 : w.heap.size < w2.heap.size := by have := hb2.size; omega
  go_wp2_with fail
  refine (H6.out _).mono ?_
  rintro e w3 ⟨rfl, hb3⟩
  obtain ⟨hc3, hf3⟩ := bcell hb3
  have hz3 : w.heap.size < w3.heap.size := by have := hb3.size; omega
  go_wp2_with fail
  refine (toPort_any s a _).mono ?_
  rintro e w4 ⟨rfl, hb4⟩
  obtain ⟨hc4, hf4⟩ := bcell hb4
  have hs4 : w3.heap.size + 1 ≤ w4.heap.size := by have := hb4.size; simpa using this
  have hz4 : w.heap.size < w4.heap.size := by omega
  have hy4 : w3.heap.size < w4.heap.size := by omega
  go_wp2_with fail
  refine (H8.out _).mono ?_
  rintro e w5 ⟨rfl, hb5⟩
  obtain ⟨hc5, hf5⟩ := bcell hb5
  have hz5 : w.heap.size < w5.heap.size := by have := hb5.size; omega
  have hy5 : w3.heap.size < w5.heap.size := by have := hb5.size; omega
  clear hs4
  go_wp2_with fail
  refine (HE.out _).mono ?_
  rintro e w6 ⟨rfl, hb6⟩
  go_wp2
  go_ret
  refine ⟨rfl, ?_⟩
  have e1 := ((Below.refl w.heap.size w).alloc (Nat.le_refl _) _).trans (hb1.mono (by simp))
  have e3 := (e1.trans (hb2.mono (by omega))).trans (hb3.mono (by omega))
  have e5 := ((e3.alloc (by omega) _).trans (hb4.mono (by simp; omega))).trans (hb5.mono (by omega))
  exact (e5.alloc (by omega) _).trans (hb6.mono (by simp; omega))

theorem law_any (s : ByteArray) (a : Int) (w : World) (hs : s.size ≤ 140737488351232) :
    Calls Try.prog 4 #[.agg #[.string s, .int .i64 a]] w fun e w' => e = .returned (.bool true) ∧ Below w.heap.size w w' := by
  by_cases h : s.size ≤ 1048576
  · by_cases hok : (decide (0 ≤ a) && decide (a ≤ s.size)) = true
    · simp only [Bool.and_eq_true, decide_eq_true_eq] at hok
      obtain ⟨n, rfl⟩ := Int.eq_ofNat_of_zero_le hok.1
      by_cases he : n = s.size
      · subst he
        exact law_same s _ w h _ _ _ _ (Lib.hid fun w => specLine_end s w) (Lib.hid fun w => implLine_end s w)
      · exact law_same s _ w h _ _ _ _ (Lib.hid fun w => specLine_line s n w (by omega) hs) (Lib.hid fun w => implLine_line s n w (by omega) hs)
    · have hok' := Bool.eq_false_iff.2 hok
      exact law_same s _ w h _ _ _ _ (Lib.hid fun w => specLine_bad s a w hok') (Lib.hid fun w => implLine_bad s a w hok')
  · exact law_big s a w (by omega) hs
end Go.Proofs.Ytjpkmcaogekkdaa.Line
