/- TabLine of the program and of the reference, walked in this dump: for every text and place. -/
import Derived.Test.YtjpkmcaogekkdaaDoorCharB
import Derived.LoopTactic
import Derived.RegionTactic
import Derived.Lib.Hide
import Derived.Deep.QuietTactic
import Derived.BigQuiet
import Derived.BigRegion
import Derived.Lib.Bytealg
namespace Go.Proofs.YtjpkmcaogekkdaaDoor.Port
open Go.RowKit
set_option linter.unusedVariables false
set_option linter.unusedSimpArgs false

theorem drewN_b {B : Nat} {w w' : World} (h : Below B w w') (n : Nat) : Below B w (w'.drewN n) := ⟨h.os, h.tape, h.output, h.size, h.block⟩

/-- the place of the first newline, or the length -/
def lineEnd : List UInt8 → Nat
  | [] => 0
  | c :: l => if c = 10 then 0 else lineEnd l + 1

theorem lineEnd_le (l : List UInt8) : lineEnd l ≤ l.length := by
  induction l with
  | nil => simp [lineEnd]
  | cons c l ih => simp only [lineEnd, List.length_cons]; split <;> omega

theorem lineEnd_drop (l : List UInt8) (k : Nat) (hk : k < l.length) : lineEnd (l.drop k) = if l[k] = 10 then 0 else lineEnd (l.drop (k + 1)) + 1 := by
  rw [List.drop_eq_getElem_cons hk]; rfl

theorem indexByte_lineEnd (l : List UInt8) : Lib.indexByte l 10 = if lineEnd l < l.length then (lineEnd l : Int) else -1 := by
  induction l with
  | nil => rfl
  | cons c l ih =>
    by_cases h : c = 10
    · simp [Lib.indexByte, lineEnd, h]
    · have h' : (c == 10) = false := by simpa using h
      have e1 : lineEnd (c :: l) = lineEnd l + 1 := by simp [lineEnd, h]
      have e2 : Lib.indexByte (c :: l) 10 = if Lib.indexByte l 10 == -1 then -1 else Lib.indexByte l 10 + 1 := by simp [Lib.indexByte, h]
      rw [e1, e2, ih, List.length_cons]
      by_cases g : lineEnd l < l.length
      · have h2 : ((lineEnd l : Int) == -1) = false := by rw [beq_eq_false_iff_ne]; omega
        have g2 : lineEnd l + 1 < l.length + 1 := by omega
        simp only [g, g2, if_true, h2]
        simp
      · have g2 : ¬ (lineEnd l + 1 < l.length + 1) := by omega
        simp only [g, g2, if_false]
        rfl

set_option maxRecDepth 100000 in
theorem indexByte_any (s : ByteArray) (c : Int) (w : World) :
    Calls Tryd.prog 72 #[.string s, .int .u8 c] w fun e w' => e = .returned (.int .i64 (Lib.indexByte s.data.toList c.toNat.toUInt8)) ∧ w = w' := by
  go_enter Tryd.func72, Tryd.ntmps72
  go_wp2
  rw [run_callFunc_extern Tryd.func86 (by kernel_rfl) (by kernel_rfl) (by kernel_rfl) (e := Extern.BytealgIndexByte.indexByte) (by kernel_rfl), Lib.run_indexByteString]
  simp only [Result.andThen]
  rw [Oper.upon_value]
  go_wp2
  go_ret
  exact ⟨rfl, rfl⟩

theorem index_any (s : ByteArray) (w : World) :
    Calls Tryd.prog 67 #[.string s, .string ⟨#[10]⟩] w fun e w' => e = .returned (.int .i64 (Lib.indexByte s.data.toList 10)) ∧ w = w' := by
  go_enter Tryd.func67, Tryd.ntmps67
  go_wp2_with (go_at_call 72; refine (indexByte_any _ _ _).mono ?_; rintro e w' ⟨rfl, rfl⟩)
  · go_ret
    refine ⟨?_, rfl⟩
    have h : s.data.toList = [10] := by
      have h' : ([10] == s.toList) = true := by assumption
      have := (beq_iff_eq.1 h').symm
      rwa [ByteArray.toList_eq] at this
    rw [h]
    rfl
  · go_ret
    exact ⟨rfl, rfl⟩

theorem l11Line_any (s : ByteArray) (w : World) (hs : s.size ≤ 140737488351232) :
    Calls Tryd.prog 47 #[.string s, .int .i64 0] w fun e w' => e = .returned (.int .i64 (lineEnd s.data.toList)) ∧ w = w' := by
  go_enter Tryd.func47, Tryd.ntmps47
  go_wp2
  go_loop [1] (fun i => ∃ k : Nat, k ≤ s.size ∧ i = .int .i64 k ∧ Hid (lineEnd s.data.toList = k + lineEnd (s.data.toList.drop k))) (fun i => s.size - (intOf i).toNat)
  case atStart => exact ⟨0, by omega, rfl, by simp [Hid]⟩
  case round =>
    obtain ⟨k, hk, rfl, hl⟩ := hrel
    by_cases hlt : k < s.size
    · have hd := Lib.hid (lineEnd_drop s.data.toList k hlt)
      go_wp2
      · refine ⟨⟨k + 1, by omega, by go_num, ?_⟩, by simp [intOf]; omega⟩
        have h10 : ¬ (s.data.toList[k]'hlt = 10) := by
          intro h
          have h' : s[k] = 10 := h
          simp_all
        have hd' := hd.out
        rw [if_neg h10] at hd'
        have := hl.out
        show _ = _
        omega
      · go_ret
        have h10 : s.data.toList[k]'hlt = 10 := by
          show s[k] = 10
          have h' : s[k].toNat = 10 := by simp_all; omega
          exact UInt8.toNat_inj.1 h'
        have hd' := hd.out
        rw [if_pos h10] at hd'
        have := hl.out
        refine ⟨?_, rfl⟩
        rw [this, hd']
        rfl
    · go_wp2
      go_ret
      refine ⟨?_, rfl⟩
      rw [hl.out, List.drop_of_length_le (by simp; omega)]
      have : k = s.size := by omega
      simp [lineEnd, this]


theorem slCut_yes (s : ByteArray) (w : World) (h : lineEnd s.data.toList < s.size) (hs : s.size ≤ 140737488351232) :
    Calls Tryd.prog 61 #[.string s, .string ⟨#[10]⟩] w fun e w' => e = .returned (.tuple #[.string (s.extract 0 (lineEnd s.data.toList)), .string (s.extract (lineEnd s.data.toList + 1) s.size), .bool true]) ∧ ∃ n, w' = w.drewN n := by
  have hi : Lib.indexByte s.data.toList 10 = (lineEnd s.data.toList : Int) := by
    rw [indexByte_lineEnd, if_pos (by simpa using h)]
  have hc : ∀ w, Calls Tryd.prog 67 #[.string s, .string ⟨#[10]⟩] w fun e w' => e = .returned (.int .i64 (lineEnd s.data.toList)) ∧ w = w' := by
    intro w
    have := index_any s w
    rw [hi] at this
    exact this
  have HC := Lib.hid hc
  clear hc hi
  generalize lineEnd s.data.toList = n at *
  go_enter Tryd.func61, Tryd.ntmps61
  go_wp2_with (go_at_call 67; refine (HC.out _).mono ?_; rintro e w' ⟨rfl, rfl⟩)
  go_quiet (fail)
  go_wp2
  go_ret3
  exact ⟨rfl, _, rfl⟩

theorem slCut_no (s : ByteArray) (w : World) (h : ¬ lineEnd s.data.toList < s.size)  :
    Calls Tryd.prog 61 #[.string s, .string ⟨#[10]⟩] w fun e w' => e = .returned (.tuple #[.string s, .string ⟨#[]⟩, .bool false]) ∧ ∃ n, w' = w.drewN n := by
  have hi : Lib.indexByte s.data.toList 10 = -1 := by
    rw [indexByte_lineEnd, if_neg (by simpa using h)]
  have hc : ∀ w, Calls Tryd.prog 67 #[.string s, .string ⟨#[10]⟩] w fun e w' => e = .returned (.int .i64 (-1)) ∧ w = w' := by
    intro w
    have := index_any s w
    rw [hi] at this
    exact this
  have HC := Lib.hid hc
  clear hc hi
  go_enter Tryd.func61, Tryd.ntmps61
  go_wp2_with (go_at_call 67; refine (HC.out _).mono ?_; rintro e w' ⟨rfl, rfl⟩)
  go_ret3
  exact ⟨rfl, 0, rfl⟩

theorem cut_yes (s : ByteArray) (w : World) (h : lineEnd s.data.toList < s.size) (hs : s.size ≤ 140737488351232) :
    Calls Tryd.prog 46 #[.string s, .string ⟨#[10]⟩] w fun e w' => e = .returned (.tuple #[.string (s.extract 0 (lineEnd s.data.toList)), .string (s.extract (lineEnd s.data.toList + 1) s.size), .bool true]) ∧ ∃ n, w' = w.drewN n := by
  have HC := Lib.hid (fun w => slCut_yes s w h hs)
  clear h hs
  generalize lineEnd s.data.toList = n at *
  go_enter Tryd.func46, Tryd.ntmps46
  go_wp2_with (go_at_call 61; refine (HC.out _).mono ?_; rintro e w' ⟨rfl, nd, rfl⟩)
  go_ret3
  exact ⟨rfl, _, rfl⟩

theorem cut_no (s : ByteArray) (w : World) (h : ¬ lineEnd s.data.toList < s.size) :
    Calls Tryd.prog 46 #[.string s, .string ⟨#[10]⟩] w fun e w' => e = .returned (.tuple #[.string s, .string ⟨#[]⟩, .bool false]) ∧ ∃ n, w' = w.drewN n := by
  have HC := Lib.hid (fun w => slCut_no s w h)
  clear h
  go_enter Tryd.func46, Tryd.ntmps46
  go_wp2_with (go_at_call 61; refine (HC.out _).mono ?_; rintro e w' ⟨rfl, nd, rfl⟩)
  go_ret3
  exact ⟨rfl, _, rfl⟩

theorem specLine_bad (s : ByteArray) (a : Int) (w : World) (h : (decide (0 ≤ a) && decide (a ≤ s.size)) = false) :
    Calls Tryd.prog 20 #[.agg #[.string s, .int .i64 a]] w fun e w' => e = .returned (.tuple #[.string ⟨#[]⟩, .agg #[.string ⟨#[]⟩, .int .i64 0], .bool false]) ∧ Below w.heap.size w w' := by
  have HC := Lib.hid (fun w => l23Ok_any s a w)
  rw [h] at HC
  clear h
  go_enter Tryd.func20, Tryd.ntmps20
  go_wp2_with (go_at_call 21; refine (HC.out _).mono ?_; rintro e w1 ⟨rfl, hb⟩; obtain ⟨hc, hf⟩ := bcell hb)
  refine bodyPost_ret (v := .tuple #[.string ⟨#[]⟩, .agg #[.string ⟨#[]⟩, .int .i64 0], .bool false]) (by simp [results, Tryd.results20, go_sem, hc]) rfl ⟨rfl, ?_⟩
  exact ((below2b hb).setCell (by simp) _).setCell (by simp) _

theorem specLine_end (s : ByteArray) (w : World) :
    Calls Tryd.prog 20 #[.agg #[.string s, .int .i64 s.size]] w fun e w' => e = .returned (.tuple #[.string ⟨#[]⟩, .agg #[.string s, .int .i64 s.size], .bool false]) ∧ Below w.heap.size w w' := by
  have HC := Lib.hid (fun w => l23Ok_any s s.size w)
  have h : (decide (0 ≤ (s.size : Int)) && decide ((s.size : Int) ≤ s.size)) = true := by simp
  rw [h] at HC
  clear h
  go_enter Tryd.func20, Tryd.ntmps20
  go_wp2_with (go_at_call 21; refine (HC.out _).mono ?_; rintro e w1 ⟨rfl, hb⟩; obtain ⟨hc, hf⟩ := bcell hb)
  go_region
  go_wp2
  refine bodyPost_ret (v := .tuple #[.string ⟨#[]⟩, .agg #[.string s, .int .i64 s.size], .bool false]) (by simp [results, Tryd.results20, go_sem, hc]) rfl ⟨rfl, ?_⟩
  exact (((below2b hb).setCell (by simp) _).setCell (by simp) _).drew

theorem specLine_line (s : ByteArray) (a : Nat) (w : World) (ha : a < s.size) (hs : s.size ≤ 140737488351232) :
    Calls Tryd.prog 20 #[.agg #[.string s, .int .i64 a]] w fun e w' => e = .returned (.tuple #[.string (s.extract a (a + lineEnd (s.data.toList.drop a))), .agg #[.string s, .int .i64 (if a + lineEnd (s.data.toList.drop a) < s.size then a + lineEnd (s.data.toList.drop a) + 1 else a + lineEnd (s.data.toList.drop a) : Nat)], .bool true]) ∧ Below w.heap.size w w' := by
  have HC := Lib.hid (fun w => l23Ok_any s a w)
  have h : (decide (0 ≤ (a : Int)) && decide ((a : Int) ≤ s.size)) = true := by simp; omega
  rw [h] at HC
  clear h
  have hsz : (s.extract a s.size).size = s.size - a := by simp
  have hld : (s.extract a s.size).data.toList = s.data.toList.drop a := by
    rw [Lib.extract_data, List.take_of_length_le]; simp
  have HL := Lib.hid (fun w => l11Line_any (s.extract a s.size) w (by omega))
  rw [hld] at HL
  have hle := lineEnd_le (s.data.toList.drop a)
  have hle' : lineEnd (s.data.toList.drop a) ≤ s.size - a := by simpa using hle
  clear hle hsz hld
  have hne : (s.extract a s.size).toList.isEmpty = false := by
    rw [Lib.toList_data, Lib.extract_data]
    rw [List.isEmpty_eq_false_iff]
    intro h
    have := congrArg List.length h
    simp at this
    omega
  have HX := Lib.hid (extract_head s a (lineEnd (s.data.toList.drop a)) (by omega))
  generalize lineEnd (s.data.toList.drop a) = n at *
  have h1 : n ≤ (s.extract a s.size).size := by simp; omega
  have h2 : 0 ≤ (n : Int) := by omega
  by_cases hn : a + n < s.size
  · rw [if_pos hn]
    go_enter Tryd.func20, Tryd.ntmps20
    go_wp2_with (first | (go_at_call 21; refine (HC.out _).mono ?_; rintro e w1 ⟨rfl, hb⟩; obtain ⟨hc, hf⟩ := bcell hb) | (go_at_call 47; refine (HL.out _).mono ?_; rintro e w2 ⟨rfl, rfl⟩))
    go_region
    go_wp2
    refine bodyPost_ret (v := .tuple #[.string (s.extract a (a + n)), .agg #[.string s, .int .i64 (a + n + 1 : Nat)], .bool true]) (by simp [results, Tryd.results20, go_sem, hc, HX.out]; omega) rfl ⟨rfl, ?_⟩
    exact (((below2b hb).setCell (by simp) _).setCell (by simp) _).drew
  · rw [if_neg hn]
    go_enter Tryd.func20, Tryd.ntmps20
    go_wp2_with (first | (go_at_call 21; refine (HC.out _).mono ?_; rintro e w1 ⟨rfl, hb⟩; obtain ⟨hc, hf⟩ := bcell hb) | (go_at_call 47; refine (HL.out _).mono ?_; rintro e w2 ⟨rfl, rfl⟩))
    go_region
    go_wp2
    refine bodyPost_ret (v := .tuple #[.string (s.extract a (a + n)), .agg #[.string s, .int .i64 (a + n : Nat)], .bool true]) (by simp [results, Tryd.results20, go_sem, hc, HX.out]) rfl ⟨rfl, ?_⟩
    exact (((below2b hb).setCell (by simp) _).setCell (by simp) _).drew

theorem implLine_bad (s : ByteArray) (a : Int) (w : World) (h : (decide (0 ≤ a) && decide (a ≤ s.size)) = false) :
    Calls Tryd.prog 19 #[.agg #[.string s, .int .i64 a]] w fun e w' => e = .returned (.tuple #[.string ⟨#[]⟩, .agg #[.string ⟨#[]⟩, .int .i64 0], .bool false]) ∧ Below w.heap.size w w' := by
  have HC := Lib.hid (fun w => ok_any s a w)
  rw [h] at HC
  clear h
  go_enter Tryd.func19, Tryd.ntmps19
  go_wp2_with (go_at_call 23; refine (HC.out _).mono ?_; rintro e w1 ⟨rfl, hb⟩; obtain ⟨hc, hf⟩ := bcell hb)
  refine bodyPost_ret (v := .tuple #[.string ⟨#[]⟩, .agg #[.string ⟨#[]⟩, .int .i64 0], .bool false]) (by simp [results, Tryd.results19, go_sem, hc]) rfl ⟨rfl, ?_⟩
  exact ((below2b hb).setCell (by simp) _).setCell (by simp) _

theorem implLine_end (s : ByteArray) (w : World) :
    Calls Tryd.prog 19 #[.agg #[.string s, .int .i64 s.size]] w fun e w' => e = .returned (.tuple #[.string ⟨#[]⟩, .agg #[.string s, .int .i64 s.size], .bool false]) ∧ Below w.heap.size w w' := by
  have HC := Lib.hid (fun w => ok_any s s.size w)
  have h : (decide (0 ≤ (s.size : Int)) && decide ((s.size : Int) ≤ s.size)) = true := by simp
  rw [h] at HC
  clear h
  go_enter Tryd.func19, Tryd.ntmps19
  go_wp2_with (go_at_call 23; refine (HC.out _).mono ?_; rintro e w1 ⟨rfl, hb⟩; obtain ⟨hc, hf⟩ := bcell hb)
  go_region
  go_wp2
  refine bodyPost_ret (v := .tuple #[.string ⟨#[]⟩, .agg #[.string s, .int .i64 s.size], .bool false]) (by simp [results, Tryd.results19, go_sem, hc]) rfl ⟨rfl, ?_⟩
  exact (((below2b hb).setCell (by simp) _).setCell (by simp) _).drew

theorem implLine_line (s : ByteArray) (a : Nat) (w : World) (ha : a < s.size) (hs : s.size ≤ 140737488351232) :
    Calls Tryd.prog 19 #[.agg #[.string s, .int .i64 a]] w fun e w' => e = .returned (.tuple #[.string (s.extract a (a + lineEnd (s.data.toList.drop a))), .agg #[.string s, .int .i64 (if a + lineEnd (s.data.toList.drop a) < s.size then a + lineEnd (s.data.toList.drop a) + 1 else a + lineEnd (s.data.toList.drop a) : Nat)], .bool true]) ∧ Below w.heap.size w w' := by
  have HC := Lib.hid (fun w => ok_any s a w)
  have h : (decide (0 ≤ (a : Int)) && decide ((a : Int) ≤ s.size)) = true := by simp; omega
  rw [h] at HC
  clear h
  have hsz : (s.extract a s.size).size = s.size - a := by simp
  have hld : (s.extract a s.size).data.toList = s.data.toList.drop a := by
    rw [Lib.extract_data, List.take_of_length_le]; simp
  have HY := Lib.hid (fun w h => cut_yes (s.extract a s.size) w h (by omega))
  have HN := Lib.hid (fun w => cut_no (s.extract a s.size) w)
  rw [hld, hsz] at HY
  rw [hld, hsz] at HN
  have hle := lineEnd_le (s.data.toList.drop a)
  have hle' : lineEnd (s.data.toList.drop a) ≤ s.size - a := by simpa using hle
  have HX := Lib.hid (extract_head s a (lineEnd (s.data.toList.drop a)) (by omega))
  have HZ := Lib.hid hsz
  clear hle hsz hld
  generalize lineEnd (s.data.toList.drop a) = n at *
  have hne : ((a : Int) == (s.size : Int)) = false := by rw [beq_eq_false_iff_ne]; omega
  by_cases hn : a + n < s.size
  · rw [if_pos hn]
    have hx : (s.extract a (a + n)).size = n := by simp; omega
    have HQ := Lib.hid (fun w => HY.out w (by omega))
    rw [HX.out] at HQ
    have HH := Lib.hid hx
    have hsl : ((s.extract a (a + n)).size : Int) = n := by omega
    clear HY HN hx
    go_enter Tryd.func19, Tryd.ntmps19
    go_wp2_with (first | (go_at_call 23; refine (HC.out _).mono ?_; rintro e w1 ⟨rfl, hb⟩; obtain ⟨hc, hf⟩ := bcell hb) | (go_at_call 46; refine (HQ.out _).mono ?_; rintro e w2 ⟨rfl, nd, rfl⟩))
    go_region
    go_wp2
    refine bodyPost_ret (v := .tuple #[.string (s.extract a (a + n)), .agg #[.string s, .int .i64 (a + n + 1 : Nat)], .bool true]) (by simp [results, Tryd.results19, go_sem, hc]; omega) rfl ⟨rfl, ?_⟩
    exact ((drewN_b (below2b hb) _).setCell (by simp) _).setCell (by simp) _
  · rw [if_neg hn]
    obtain rfl : n = s.size - a := by omega
    have hs2 : a + (s.size - a) = s.size := by omega
    rw [hs2]
    have HQ := Lib.hid (fun w => HN.out w (by omega))
    have hsl : ((s.extract a s.size).size : Int) = (s.size : Int) - a := by have := HZ.out; omega
    clear HY HN HX hs2 hn hle'
    go_enter Tryd.func19, Tryd.ntmps19
    go_wp2_with (first | (go_at_call 23; refine (HC.out _).mono ?_; rintro e w1 ⟨rfl, hb⟩; obtain ⟨hc, hf⟩ := bcell hb) | (go_at_call 46; refine (HQ.out _).mono ?_; rintro e w2 ⟨rfl, nd, rfl⟩))
    go_region
    go_wp2
    refine bodyPost_ret (v := .tuple #[.string (s.extract a s.size), .agg #[.string s, .int .i64 (s.size : Nat)], .bool true]) (by simp [results, Tryd.results19, go_sem, hc]; omega) rfl ⟨rfl, ?_⟩
    exact ((drewN_b (below2b hb) _).setCell (by simp) _).setCell (by simp) _


/-- how many bytes the character at a place has -/
def chL (s : ByteArray) (k : Nat) : Nat := (Lib.decodeGo (s.extract k s.size)).2
def chS (s : ByteArray) (k : Nat) : ByteArray := s.extract k (k + chL s k)
theorem ext_sz (s : ByteArray) (k : Nat) : (s.extract k s.size).size = s.size - k := by simp
theorem chL_mid {s : ByteArray} {k : Nat} (h : k < s.size) : 1 ≤ chL s k ∧ k + chL s k ≤ s.size := by
  have h1 := ext_sz s k
  have h2 := charLen_pos (s.extract k s.size) (by omega)
  rw [← decGo _ (by omega)] at h2
  unfold chL
  omega
theorem chL_end {s : ByteArray} {k : Nat} (h : k = s.size) : chL s k = 0 := decGo0 _ (by rw [ext_sz]; omega)
theorem chL_le {s : ByteArray} {k : Nat} (h : k ≤ s.size) : k + chL s k ≤ s.size := by
  by_cases h1 : k < s.size
  · exact (chL_mid h1).2
  · rw [chL_end (by omega)]
    omega
theorem ext_app (s : ByteArray) (a b c : Nat) (h1 : a ≤ b) (h2 : b ≤ c) (h3 : c ≤ s.size) : s.extract a b ++ s.extract b c = s.extract a c := by
  rw [ByteArray.extract_append_extract]
  congr 1
  all_goals omega
theorem chS_app (s : ByteArray) (a k : Nat) (h1 : a ≤ k) (h2 : k ≤ s.size) : s.extract a k ++ chS s k = s.extract a (k + chL s k) := ext_app s a k _ h1 (by omega) (chL_le h2)
theorem ext_nil (s : ByteArray) (k : Nat) : s.extract k k = ⟨#[]⟩ := by
  rw [Lib.extract_eq]
  simp
theorem chS_end {s : ByteArray} {k : Nat} (h : k = s.size) : chS s k = ⟨#[]⟩ := by
  unfold chS
  rw [chL_end h, Nat.add_zero]
  exact ext_nil s k
theorem toList_ne {s : ByteArray} {a b : Nat} (h : a < b) (h2 : b ≤ s.size) : (s.extract a b).toList ≠ [] := by
  intro e
  rw [Lib.toList_data, Lib.extract_data] at e
  have := congrArg List.length e
  simp at this
  omega
theorem chS_mid {s : ByteArray} {k : Nat} (h : k < s.size) : (chS s k).toList ≠ [] := toList_ne (by have := (chL_mid h).1; omega) (chL_mid h).2

/-- the line at a place; the place behind it; whether there is one -/
def lnE (s : ByteArray) (k : Nat) : Nat := lineEnd (s.data.toList.drop k)
def lnS (s : ByteArray) (k : Nat) : ByteArray := if k < s.size then s.extract k (k + lnE s k) else ⟨#[]⟩
def lnN (s : ByteArray) (k : Nat) : Nat := if k < s.size then (if k + lnE s k < s.size then k + lnE s k + 1 else k + lnE s k) else k
theorem lnE_le {s : ByteArray} {k : Nat} (h : k ≤ s.size) : k + lnE s k ≤ s.size := by
  have h1 := lineEnd_le (s.data.toList.drop k)
  rw [List.length_drop] at h1
  have h2 : s.data.toList.length = s.size := rfl
  unfold lnE
  omega
theorem lnN_le {s : ByteArray} {k : Nat} (h : k ≤ s.size) : lnN s k ≤ s.size := by
  have := lnE_le h
  unfold lnN
  split
  · split <;> omega
  · exact h
theorem line_at : ∀ (l : List UInt8) (h : lineEnd l < l.length), l[lineEnd l] = 10
  | c :: l, h => by
    by_cases hc : c = 10
    · simp [lineEnd, hc]
    · have e : lineEnd (c :: l) = lineEnd l + 1 := by simp [lineEnd, hc]
      have h' : lineEnd l < l.length := by rw [e] at h; simpa using h
      have := line_at l h'
      simp only [e, List.getElem_cons_succ]
      exact this
theorem line_no : ∀ (l : List UInt8), lineEnd l = l.length → ∀ c ∈ l, c ≠ 10
  | [], _, c, hc => by simp at hc
  | b :: l, h, c, hc => by
    by_cases hb : b = 10
    · simp [lineEnd, hb] at h
    · have e : lineEnd (b :: l) = lineEnd l + 1 := by simp [lineEnd, hb]
      rw [e] at h
      rcases List.mem_cons.1 hc with rfl | hc
      · exact hb
      · exact line_no l (by simpa using h) c hc
theorem lnE_at {s : ByteArray} {k : Nat} (h : k + lnE s k < s.size) : s[k + lnE s k] = 10 := by
  have h2 : s.data.toList.length = s.size := rfl
  have h3 : lineEnd (s.data.toList.drop k) < (s.data.toList.drop k).length := by rw [List.length_drop]; unfold lnE at h; omega
  have := line_at _ h3
  rw [List.getElem_drop] at this
  exact this
theorem lnE_no {s : ByteArray} {k : Nat} (hk : k < s.size) (h : k + lnE s k = s.size) : s[s.size - 1] ≠ 10 := by
  have h2 : s.data.toList.length = s.size := rfl
  have h3 := line_no (s.data.toList.drop k) (by rw [List.length_drop]; unfold lnE at h; omega)
  refine h3 _ ?_
  have : s.data.toList[s.size - 1]'(by omega) ∈ s.data.toList.drop k := by
    rw [List.mem_iff_getElem]
    refine ⟨s.size - 1 - k, by rw [List.length_drop]; omega, ?_⟩
    rw [List.getElem_drop]
    congr 1
    omega
  exact this
theorem ext_one {s : ByteArray} {k : Nat} (h : k < s.size) (h10 : s[k] = 10) : s.extract k (k + 1) = ⟨#[10]⟩ := by
  have h2 : s.data.toList.length = s.size := rfl
  have e : (s.extract k (k + 1)).data.toList = [10] := by
    rw [Lib.extract_data, Nat.add_sub_cancel_left]
    rw [List.drop_eq_getElem_cons (by omega)]
    simp only [List.take_succ_cons, List.take_zero]
    congr 1
  have e2 : (s.extract k (k + 1)).data = #[10] := by
    rw [← Array.toList_inj, e]
  cases hq : s.extract k (k + 1)
  rw [hq] at e2
  simp only at e2
  rw [e2]

theorem implChar_all (s : ByteArray) (k : Nat) (w : World) (hk : k ≤ s.size) (hs : s.size ≤ 1048576) (hT : Lib.Utf8Tabs 0 1 w) (hw : 1 < w.heap.size) :
    Calls Tryd.prog 9 #[.agg #[.string s, .int .i64 k]] w fun e w' => e = .returned (.tuple #[.string (chS s k), .agg #[.string s, .int .i64 (k + chL s k : Nat)]]) ∧ Below w.heap.size w w' :=
  implChar_ok s k (chL s k) w hk hs rfl (chL_le hk) hT hw
theorem specChar_all (s : ByteArray) (k : Nat) (w : World) (hk : k ≤ s.size) (hs : s.size ≤ 1048576) :
    Calls Tryd.prog 7 #[.agg #[.string s, .int .i64 k]] w fun e w' => e = .returned (.tuple #[.string (chS s k), .agg #[.string s, .int .i64 (k + chL s k : Nat)]]) ∧ Below w.heap.size w w' := by
  by_cases h : k < s.size
  · have h1 := specChar_char s k w h hs
    have e : charLen (s.extract k s.size) = chL s k := (decGo _ (by rw [ext_sz]; omega)).symm
    rw [e] at h1
    exact h1
  · obtain rfl : k = s.size := by omega
    rw [chS_end rfl, chL_end rfl]
    exact specChar_end s w
theorem implLine_all (s : ByteArray) (k : Nat) (w : World) (hk : k ≤ s.size) (hs : s.size ≤ 140737488351232) :
    Calls Tryd.prog 19 #[.agg #[.string s, .int .i64 k]] w fun e w' => e = .returned (.tuple #[.string (lnS s k), .agg #[.string s, .int .i64 (lnN s k : Nat)], .bool (decide (k < s.size))]) ∧ Below w.heap.size w w' := by
  by_cases h : k < s.size
  · have h1 := implLine_line s k w h hs
    unfold lnS lnN lnE
    rw [if_pos h, if_pos h, decide_eq_true h]
    exact h1
  · obtain rfl : k = s.size := by omega
    unfold lnS lnN
    rw [if_neg h, if_neg h, decide_eq_false h]
    exact implLine_end s w
theorem specLine_all (s : ByteArray) (k : Nat) (w : World) (hk : k ≤ s.size) (hs : s.size ≤ 140737488351232) :
    Calls Tryd.prog 20 #[.agg #[.string s, .int .i64 k]] w fun e w' => e = .returned (.tuple #[.string (lnS s k), .agg #[.string s, .int .i64 (lnN s k : Nat)], .bool (decide (k < s.size))]) ∧ Below w.heap.size w w' := by
  by_cases h : k < s.size
  · have h1 := specLine_line s k w h hs
    unfold lnS lnN lnE
    rw [if_pos h, if_pos h, decide_eq_true h]
    exact h1
  · obtain rfl : k = s.size := by omega
    unfold lnS lnN
    rw [if_neg h, if_neg h, decide_eq_false h]
    exact specLine_end s w
end Go.Proofs.YtjpkmcaogekkdaaDoor.Port
