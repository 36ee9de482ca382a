/- Symbols and texts of nodes checked in the reference, walked. -/
import Derived.Test.YtjpkmcaogekkdaaDoorGrA
import Derived.Deep.DeepCutAuto
namespace Go.Proofs.YtjpkmcaogekkdaaDoor.Gr
open Go.RowKit Go.Proofs.YtjpkmcaogekkdaaDoor.Rm Go.Proofs.YtjpkmcaogekkdaaDoor.Nu
set_option linter.unusedVariables false
set_option linter.unusedSimpArgs false

set_option maxHeartbeats 4000000 in
set_option maxRecDepth 100000 in
theorem l11SymbolOk_any (s : ByteArray) (w : World) (hs : s.size ≤ 1000000) : Calls Tryd.prog 108 #[.string s] w (ABool w) := by
  have HP := Lib.hid (fun w => NumParse_any s w hs)
  by_cases h0 : s.size = 0
  · have ht : (s.toList == []) = true := by
      rw [isTxt, decide_eq_true]
      exact List.length_eq_zero_iff.1 h0
    go_enter Tryd.func108, Tryd.ntmps108
    go_wp2_with (go_at_call 107; refine (HP.out _).mono ?_; rintro e w1 ⟨neg, a, b, ok, rfl, _, _, hb1⟩)
    all_goals go_ret
    all_goals exact ⟨_, rfl, hb1.alloc hb1.size _⟩
  · have ht : (s.toList == []) = false := by
      rw [isTxt, decide_eq_false]
      intro e
      have : s.data.toList.length = 0 := by rw [e]; rfl
      exact h0 this
    have hpos : 0 < s.size := by omega
    have HR := Lib.hid (fun w => l11Runes_any s w hs)
    go_enter Tryd.func108, Tryd.ntmps108
    go_upto_region 2 with (go_at_call 107; refine (HP.out _).mono ?_; rintro e w1 ⟨neg, a, b, ok, rfl, _, _, hb1⟩; have hB1 := hb1.alloc hb1.size (.cells #[.bool neg, .string a, .string b] 129))
    cases ok
    all_goals
      go_cut [50] (fun v wc => ∃ c : Bool, v = .bool c ∧ Below w.heap.size w wc)
      case first =>
        go_wp2_with (first | (go_at_call 29; refine (Port.l1In_any _ _ _ _).mono ?_; rintro e w' ⟨rfl, rfl⟩) | (go_at_call 109; refine (HR.out _).mono ?_; rintro e w2 ⟨rk, rfl, hb2⟩; have hB2 := below_then hB1 hb2 hB1.size))
        all_goals
          go_meet
          case rel => first | exact ⟨_, rfl, hB2⟩ | exact ⟨_, rfl, hB1⟩
      case rest =>
        obtain ⟨c, rfl, hB2⟩ := hcut
        cases c
        · go_wp2
          go_loopw [5] (fun i wr => ∃ k : Nat, k ≤ s.size ∧ i = .int .i64 k ∧ Below w.heap.size w wr) (fun i wr => s.size - (intOf i).toNat)
          case atStart => exact ⟨0, by omega, rfl, hB2⟩
          case round =>
            obtain ⟨k, hk, rfl, hB3⟩ := hrel
            by_cases hlt : k < s.size
            · go_wp2_with (go_at_call 123; refine (l11Ends_any _ _).mono ?_; rintro e w' ⟨⟨x, rfl, _⟩, rfl⟩)
              all_goals first | (go_ret; exact ⟨_, rfl, hB3⟩) | exact ⟨⟨k + 1, by omega, by go_num, hB3⟩, by simp [intOf]; omega⟩
            · go_wp2
              go_ret
              exact ⟨_, rfl, hB3⟩
        · go_wp2
          go_ret
          exact ⟨_, rfl, hB2⟩

theorem keepc {w w' : World} {p : Addr} {v : Value} (hb : Below w.heap.size w w') (h : w.cell? p = some v) : w'.cell? p = some v := (hb.cell (cell_in h)).trans h
theorem bt {w w1 w2 : World} (h : Below w.heap.size w w1) (hb : Below w1.heap.size w1 w2) : Below w.heap.size w w2 := below_then h hb h.size
theorem kp {w w1 w2 : World} {p : Addr} {v : Value} (h : w1.cell? p = some v ∧ Below w.heap.size w w1) (hb : Below w1.heap.size w1 w2) : w2.cell? p = some v ∧ Below w.heap.size w w2 := ⟨keepc hb h.1, bt h.2 hb⟩
theorem kr {w w1 : World} {A : Prop} (h : A ∧ Below w.heap.size w w1) : Below w.heap.size w w1 := h.2
theorem below_drewN {B : Nat} {w w' : World} (h : Below B w w') (n : Nat) : Below B w (w'.drewN n) := ⟨h.os, h.tape, h.output, h.size, h.block⟩

set_option maxHeartbeats 4000000 in
set_option maxRecDepth 100000 in
theorem textOk_num (s : ByteArray) (v : Value) (w : World) (hs : s.size ≤ 1000000) : Calls Tryd.prog 93 #[.agg #[.int .i64 1, .string s, v]] w (ABool w) := by
  have B0 : Blk (w.alloc (.cells #[.int .i64 1, .string s, v] 58)) w.heap.size #[.int .i64 1, .string s, v] 58 := Blk.new _ _ _
  have hB0 := below1 w (.cells #[.int .i64 1, .string s, v] 58)
  have HP := Lib.hid (fun w => NumParse_any s w hs)
  go_enter Tryd.func93, Tryd.ntmps93
  go_upto_region 4 with (go_at_call 107; refine (HP.out _).mono ?_; rintro e w1 ⟨neg, a, b, ok, rfl, ha, hb, hb1⟩)
  have B1 := (B0.below hb1).alloc (.cells #[.bool neg, .string a, .string b] 129)
  have BX := Blk.new w1 #[.bool neg, .string a, .string b] 129
  have hB1 := (below_then hB0 hb1 hB0.size).alloc (below_then hB0 hb1 hB0.size).size (.cells #[.bool neg, .string a, .string b] 129)
  have HN := Lib.hid (fun w => NumPrint_any neg a b w (by omega) (by omega))
  clear hb1 hB0 B0
  generalize w1.alloc (.cells #[.bool neg, .string a, .string b] 129) = wz at *
  have c0 := BX.drew.cell0 (o := 0) rfl
  have c1 := BX.drew.cell0 (o := 1) rfl
  have c2 := BX.drew.cell0 (o := 2) rfl
  have e1 := B1.drew.cell0 (o := 1) rfl
  have hBd := hB1.drew
  cases ok
  · go_quiet (fail)
    go_wp2
    go_ret
    exact ⟨_, rfl, below_drewN hB1 _⟩
  · go_region_with (go_at_call 83; (with_reducible refine (HN.out _).mono ?_); rintro e w2 ⟨r, rfl, hr, hb2⟩; have e1 := (B1.drew.below hb2).cell0 (o := 1) rfl; dsimp only)
    all_goals go_wp2
    all_goals go_ret
    all_goals exact ⟨_, rfl, below_then hBd hb2 hBd.size⟩

set_option maxHeartbeats 4000000 in
set_option maxRecDepth 100000 in
theorem textOk_char (s : ByteArray) (v : Value) (w : World) (hs : s.size ≤ 1000000) (hz0 : 0 < szAll s) : Calls Tryd.prog 93 #[.agg #[.int .i64 4, .string s, v]] w (ABool w) := by
  have B0 : Blk (w.alloc (.cells #[.int .i64 4, .string s, v] 58)) w.heap.size #[.int .i64 4, .string s, v] 58 := Blk.new _ _ _
  have hB0 := below1 w (.cells #[.int .i64 4, .string s, v] 58)
  have HP := Lib.hid (fun w => size_all s w (by omega))
  go_enter Tryd.func93, Tryd.ntmps93
  go_upto_region 10 with fail
  generalize w.alloc (.cells #[.int .i64 4, .string s, v] 58) = wz at *
  have e1 := B0.drew.cell0 (o := 1) rfl
  have hBd := hB0.drew
  have hz2 : (0 : Int) < szAll s := by omega
  go_region_held3 (fun w' => w'.cell? ⟨w.heap.size, 1, none⟩ = some (.string s) ∧ Below w.heap.size w w') (first | go_keep | exact kp (by assumption) hb2 | exact ⟨keepc hb2 (by assumption), bt (by assumption) hb2⟩) ((go_at_call 22; refine (HP.out _).mono ?_; rintro e w2 ⟨rfl, hb2⟩))
  go_wp2
  all_goals go_ret
  all_goals exact ⟨_, rfl, by first | assumption | exact kr (by assumption) | exact bt (kr (by assumption)) hb2⟩

set_option maxHeartbeats 4000000 in
set_option maxRecDepth 100000 in
theorem l12TextOk_any (k : Int) (s : ByteArray) (v : Value) (w : World) (hs : s.size ≤ 1000000) (hz0 : k = 4 → 0 < szAll s) : Calls Tryd.prog 93 #[.agg #[.int .i64 k, .string s, v]] w (ABool w) := by
  have B0 : Blk (w.alloc (.cells #[.int .i64 k, .string s, v] 58)) w.heap.size #[.int .i64 k, .string s, v] 58 := Blk.new _ _ _
  have hB0 := below1 w (.cells #[.int .i64 k, .string s, v] 58)
  by_cases h1 : k = 1
  · subst h1
    exact textOk_num s v w hs
  by_cases h2 : k = 2
  · subst h2
    have HS := Lib.hid (fun w => l11SymbolOk_any s w hs)
    go_enter Tryd.func93, Tryd.ntmps93
    go_wp2_with (go_at_call 108; refine (HS.out _).mono ?_; rintro e w1 ⟨b, rfl, hb1⟩)
    go_ret
    exact ⟨_, rfl, below1b hb1⟩
  by_cases h3 : k = 3
  · subst h3
    have HS := Lib.hid (fun w => l11Runes_any s w hs)
    go_enter Tryd.func93, Tryd.ntmps93
    go_wp2_with (go_at_call 109; refine (HS.out _).mono ?_; rintro e w1 ⟨b, rfl, hb1⟩)
    all_goals go_ret
    all_goals first | exact ⟨_, rfl, hB0⟩ | exact ⟨_, rfl, below1b hb1⟩
  by_cases h4 : k = 4
  · subst h4
    exact textOk_char s v w hs (hz0 rfl)
  by_cases h5 : k = 5
  · subst h5
    go_enter Tryd.func93, Tryd.ntmps93
    go_wp2
    all_goals go_ret
    all_goals exact ⟨_, rfl, hB0⟩
  by_cases h9 : k = 9
  · subst h9
    go_enter Tryd.func93, Tryd.ntmps93
    go_wp2
    go_ret
    exact ⟨_, rfl, hB0⟩
  · have e1 : (k == 1) = false := by rw [beq_eq_false_iff_ne]; exact h1
    have e2 : (k == 2) = false := by rw [beq_eq_false_iff_ne]; exact h2
    have e3 : (k == 3) = false := by rw [beq_eq_false_iff_ne]; exact h3
    have e4 : (k == 4) = false := by rw [beq_eq_false_iff_ne]; exact h4
    have e5 : (k == 5) = false := by rw [beq_eq_false_iff_ne]; exact h5
    have e9 : (k == 9) = false := by rw [beq_eq_false_iff_ne]; exact h9
    go_enter Tryd.func93, Tryd.ntmps93
    go_wp2
    go_ret
    exact ⟨_, rfl, hB0⟩
end Go.Proofs.YtjpkmcaogekkdaaDoor.Gr
