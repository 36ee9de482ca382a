/- The law of ports, walked: for every code it answers true. -/
import Derived.Test.YtjpkmcaogekkdaaDoorTaL
import Derived.Test.YtjpkmcaogekkdaaDoorDwE
import Derived.Deep.DeepCutAuto
import Derived.Deep.LoopGhost
namespace Go.Proofs.YtjpkmcaogekkdaaDoor.Port
open Go.RowKit
set_option linter.unusedVariables false
set_option linter.unusedSimpArgs false

theorem nil_toList : (⟨#[]⟩ : ByteArray).toList = [] := by
  rw [Lib.toList_data]

def TrueB (w : World) (e : Ending) (w' : World) : Prop := e = .returned (.bool true) ∧ Below w.heap.size w w'

set_option maxRecDepth 100000 in
theorem port_big (w : World) (a : Option Addr) (m c : Nat) (h : 1048576 < m) (hm : m ≤ 9223372036854775807) : Calls Tryd.prog 5 #[.slice a m c] w (TrueB w) := by
  have hI : (1048576 : Int) < m := by omega
  go_enter Tryd.func5, Tryd.ntmps5
  go_wp2
  go_ret
  exact ⟨rfl, Below.refl _ _⟩

def CasesP (s : ByteArray) (z : Int) (r q1 l o1 : ByteArray) (q2 o2 : Int) (ok : Bool) : Prop :=
  ((z < 0 ∨ (s.size : Int) < z) ∧ r = ⟨#[]⟩ ∧ ok = false) ∨ ∃ k : Nat, z = k ∧ k ≤ s.size ∧ r = chS s k ∧ s = q1 ∧ q2 = (k + chL s k : Nat) ∧ l = lnS s k ∧ s = o1 ∧ o2 = (lnN s k : Nat) ∧ ok = decide (k < s.size)
/-- what the four readers answer at a place -/
theorem answers (s : ByteArray) (z : Int) (hs : s.size ≤ 1048576) : ∃ (r q1 l o1 : ByteArray) (q2 o2 : Int) (ok : Bool),
    Hid (∀ w, Lib.Utf8Tabs 0 1 w → 1 < w.heap.size → Calls Tryd.prog 9 #[.agg #[.string s, .int .i64 z]] w fun e w' => e = .returned (.tuple #[.string r, .agg #[.string q1, .int .i64 q2]]) ∧ Below w.heap.size w w') ∧
    Hid (∀ w, Calls Tryd.prog 7 #[.agg #[.string s, .int .i64 z]] w fun e w' => e = .returned (.tuple #[.string r, .agg #[.string q1, .int .i64 q2]]) ∧ Below w.heap.size w w') ∧
    Hid (∀ w, Calls Tryd.prog 19 #[.agg #[.string s, .int .i64 z]] w fun e w' => e = .returned (.tuple #[.string l, .agg #[.string o1, .int .i64 o2], .bool ok]) ∧ Below w.heap.size w w') ∧
    Hid (∀ w, Calls Tryd.prog 20 #[.agg #[.string s, .int .i64 z]] w fun e w' => e = .returned (.tuple #[.string l, .agg #[.string o1, .int .i64 o2], .bool ok]) ∧ Below w.heap.size w w') ∧ Hid (CasesP s z r q1 l o1 q2 o2 ok) := by
  by_cases hok : (decide (0 ≤ z) && decide (z ≤ s.size)) = true
  · simp only [Bool.and_eq_true, decide_eq_true_eq] at hok
    obtain ⟨k, rfl⟩ := Int.eq_ofNat_of_zero_le hok.1
    have hk : k ≤ s.size := by omega
    exact ⟨_, _, _, _, _, _, _, fun w hT hw => implChar_all s k w hk hs hT hw, fun w => specChar_all s k w hk hs, fun w => implLine_all s k w hk (by omega), fun w => specLine_all s k w hk (by omega), .inr ⟨k, rfl, hk, rfl, rfl, rfl, rfl, rfl, rfl, rfl⟩⟩
  · have hbad : (decide (0 ≤ z) && decide (z ≤ s.size)) = false := Bool.eq_false_iff.2 hok
    have hz : z < 0 ∨ (s.size : Int) < z := by
      by_cases h0 : z < 0
      · exact .inl h0
      · right
        simp only [Bool.and_eq_false_iff, decide_eq_false_iff_not] at hbad
        omega
    exact ⟨_, _, _, _, _, _, _, fun w _ _ => implChar_bad s z w hbad, fun w => specChar_bad s z w hbad, fun w => implLine_bad s z w hbad, fun w => specLine_bad s z w hbad, .inl ⟨hz, rfl, rfl⟩⟩

set_option maxHeartbeats 4000000 in
set_option maxRecDepth 100000 in
theorem port_go (w : World) (a : Option Addr) (m c : Nat) (h : Dw.Bytes w a m) (hm : m ≤ 1048576) (hc : m ≤ c) (hT : Lib.Utf8Tabs 0 1 w) (hw : 1 < w.heap.size) : Calls Tryd.prog 5 #[.slice a m c] w (TrueB w) := by
  have HD := Lib.hid (Dw.draw_any w a m c h (by omega) hc)
  have HT := Lib.hid hT
  have hI : ¬ (1048576 : Int) < m := by omega
  clear h hT
  go_enter Tryd.func5, Tryd.ntmps5
  go_upto_region 4 with (go_at_call 18; refine HD.out.mono ?_; rintro e w1 hd; obtain ⟨s, z, rfl, hs, hz1, hz2, hb1⟩ := hd)
  clear HD
  have B1 := Blk.new w1 #[.string s, .int .i64 z] 25
  have hB1 := hb1.alloc hb1.size (.cells #[.string s, .int .i64 z] 25)
  have hl1 := hb1.size
  have hs1 : w1.heap.size < (w1.alloc (.cells #[.string s, .int .i64 z] 25)).heap.size := by simp
  generalize (w1.alloc (.cells #[.string s, .int .i64 z] 25)) = w2 at *
  generalize w1.heap.size = gP at *
  clear hb1
  obtain ⟨r, q1, l, o1, q2, o2, ok, H9, H7, H19, H20, HCASE⟩ := answers s z (by omega)
  have c0 := B1.cell0 (o := 0) (v := .string s) rfl
  have c1 := B1.cell0 (o := 1) (v := .int .i64 z) rfl
  go_upto_region 8 with (first | (go_at_call 9; refine (H9.out w2 (Dec.tabs_below HT.out hw hB1) (by have := hB1.size; omega)).mono ?_; rintro e w3 ⟨rfl, hb3⟩; have B3 := B1.below hb3; have E3 := below_then hB1 hb3 hB1.size; have c0 := B3.cell0 (o := 0) (v := .string s) rfl; have c1 := B3.cell0 (o := 1) (v := .int .i64 z) rfl; have hl3 := B3.lt) | (go_at_call 7; refine (H7.out _).mono ?_; rintro e w4 ⟨rfl, hb4⟩; have B4 := (B3.alloc _).below hb4; have Q4 := (Blk.new w3 #[.string q1, .int .i64 q2] 25).below hb4; have E4 := below_then (E3.alloc E3.size _) hb4 (by have := E3.size; simp; omega); have c0 := B4.cell0 (o := 0) (v := .string s) rfl; have c1 := B4.cell0 (o := 1) (v := .int .i64 z) rfl; have hl4 := B4.lt; have hq4 := Q4.lt) | (go_at_call 19; refine (H19.out _).mono ?_; rintro e w5 ⟨rfl, hb5⟩; have B5 := (B4.alloc _).below hb5; have Q5 := (Q4.alloc _).below hb5; have V5 := (Blk.new w4 #[.string q1, .int .i64 q2] 25).below hb5; have E5 := below_then (E4.alloc E4.size _) hb5 (by have := E4.size; simp; omega); have c0 := B5.cell0 (o := 0) (v := .string s) rfl; have c1 := B5.cell0 (o := 1) (v := .int .i64 z) rfl; have hl5 := B5.lt; have hq5 := Q5.lt; have hv5 := V5.lt) | (go_at_call 20; refine (H20.out _).mono ?_; rintro e w6 ⟨rfl, hb6⟩; have B6 := (B5.alloc _).below hb6; have Q6 := (Q5.alloc _).below hb6; have V6 := (V5.alloc _).below hb6; have O6 := (Blk.new w5 #[.string o1, .int .i64 o2] 25).below hb6; have E6 := below_then (E5.alloc E5.size _) hb6 (by have := E5.size; simp; omega); have c0 := B6.cell0 (o := 0) (v := .string s) rfl; have c1 := B6.cell0 (o := 1) (v := .int .i64 z) rfl; have hl6 := B6.lt; have hq6 := Q6.lt; have hv6 := V6.lt; have ho6 := O6.lt; have d0 := Q6.cell0 (o := 0) (v := .string q1) rfl; have d1 := Q6.cell0 (o := 1) (v := .int .i64 q2) rfl; have v0 := V6.cell0 (o := 0) (v := .string q1) rfl; have v1 := V6.cell0 (o := 1) (v := .int .i64 q2) rfl; have x0 := O6.cell0 (o := 0) (v := .string o1) rfl; have x1 := O6.cell0 (o := 1) (v := .int .i64 o2) rfl))
  have B7 := B6.alloc (.cells #[.string o1, .int .i64 o2] 25)
  have Q7 := Q6.alloc (.cells #[.string o1, .int .i64 o2] 25)
  have O7 := O6.alloc (.cells #[.string o1, .int .i64 o2] 25)
  have E7 := E6.alloc E6.size (.cells #[.string o1, .int .i64 o2] 25)
  clear hb3 hb4 hb5 hb6 B1 B3 B4 B5 B6 Q4 Q5 Q6 V5 V6 O6 E3 E4 E5 E6 hB1 H9 H7 H19 H20
  go_upto_region 10 with fail
  have hPQ : gP ≠ w3.heap.size := by omega
  have hPO : gP ≠ w5.heap.size := by omega
  have hQO : w3.heap.size ≠ w5.heap.size := by omega
  have hQw : w.heap.size ≤ w3.heap.size := by omega
  have hOw : w.heap.size ≤ w5.heap.size := by omega
  iterate 5 (clear c0 c1)
  clear hl3 hl4 hq4 hl5 hq5 hv5 hl6 hq6 hv6 ho6 d0 d1 v0 v1 x0 x1 hs1
  generalize (w6.alloc (.cells #[.string o1, .int .i64 o2] 25)) = w7 at *
  generalize w3.heap.size = gQ at *
  generalize w5.heap.size = gO at *
  have c0 := B7.cell0 (o := 0) (v := .string s) rfl
  have c1 := B7.cell0 (o := 1) (v := .int .i64 z) rfl
  have hs0 : (0 : Int) ≤ s.size := by omega
  rcases HCASE.out with ⟨hz, rfl, rfl⟩ | ⟨k, rfl, hk, rfl, rfl, rfl, rfl, rfl, rfl, rfl⟩
  · by_cases h0 : z < 0
    · clear hz
      go_wp2
      go_ret
      exact ⟨by simp, E7⟩
    · have h1 : (s.size : Int) < z := by omega
      clear hz
      go_wp2
      go_ret
      exact ⟨by simp, E7⟩
  · have hk0 : (0 : Int) ≤ k := by omega
    have hkI : (k : Int) ≤ s.size := by omega
    have hkd1 : decide ((k : Int) < 0) = false := decide_eq_false (by omega)
    have hkd2 : decide (s.size < k) = false := decide_eq_false (by omega)
    have hkd3 : decide ((s.size : Int) < (k : Int)) = false := decide_eq_false (by omega)
    go_wp2
    go_loopg [4, 14, 15] (s.size - k) (fun gk v al i wr => ∃ (k1 n : Nat), gk + k1 = s.size ∧ v = .string (chS s k1) ∧ al = .string (s.extract k k1) ∧ i = .int .i64 n ∧ k ≤ k1 ∧ k1 ≤ s.size ∧ n + k ≤ k1 ∧ Blk wr gP #[.string s, .int .i64 k] 25 ∧ Blk wr gQ #[.string s, .int .i64 (k1 + chL s k1 : Nat)] 25 ∧ Blk wr gO #[.string s, .int .i64 (lnN s k : Nat)] 25 ∧ Below w.heap.size w wr)
    case atStart => exact ⟨k, 0, by omega, rfl, by rw [ext_nil], rfl, Nat.le_refl _, hk, by omega, B7, Q7, O7, E7⟩
    case round =>
      clear c0 c1 B7 Q7 O7 E7
      obtain ⟨k1, n, hgk, rfl, rfl, rfl, hk1, hk1s, hnk, BP, BQ, BO, hE⟩ := hrel
      have hn0 : (0 : Int) ≤ n := by omega
      have hns : (n : Int) ≤ s.size := by omega
      have p0 := BP.cell0 (o := 0) (v := .string s) rfl
      by_cases hlt : k1 < s.size
      · have hcm := chL_mid hlt
        have hcs : (chS s k1).size ≤ s.size := by unfold chS; rw [ByteArray.size_extract]; omega
        have hne : ((chS s k1).toList == []) = false := by rw [beq_eq_false_iff_ne]; exact chS_mid hlt
        have HAP := Lib.hid (chS_app s k k1 hk1 hk1s)
        have HCH := Lib.hid (implChar_all s (k1 + chL s k1) wr hcm.2 (by omega) (Dec.tabs_below HT.out hw hE) (by have := hE.size; omega))
        have q0 := BQ.cell0 (o := 0) (v := .string s) rfl
        have q1 := BQ.cell0 (o := 1) (v := .int .i64 (k1 + chL s k1 : Nat)) rfl
        go_wp2_with (go_at_call 9; refine HCH.out.mono ?_; rintro e w3 ⟨rfl, hb3⟩; have BP3 := BP.below hb3; have BQ3 := BQ.below hb3; have BO3 := BO.below hb3; have E3 := below_then hE hb3 hE.size; have z0 := BQ3.cell0 (o := 0) (v := .string s) rfl; have z1 := BQ3.cell0 (o := 1) (v := .int .i64 (k1 + chL s k1 : Nat)) rfl; have f0 := BQ3.free 0; have f1 := BQ3.free 1)
        have hEE := E3.size
        go_roundg (s.size - (k1 + chL s k1))
        case measure => omega
        case rel => exact ⟨k1 + chL s k1, n + 1, by omega, rfl, congrArg Value.string HAP.out, by go_num, by omega, hcm.2, by omega, BP3.far hPQ 0 _ |>.far hPQ 1 _, (BQ3.set 0 _).set 1 _, BO3.far hQO.symm 0 _ |>.far hQO.symm 1 _, (E3.setCell hQw _).setCell hQw _⟩
      · obtain rfl : k1 = s.size := by omega
        have hne : ((chS s s.size).toList == []) = true := by rw [chS_end rfl, nil_toList]; rfl
        go_wp2
        clear hk1 hk1s hlt hns hnk hgk BQ p0 hn0 hne
        generalize wr = wo at *
        go_loopg [8, 10, 16, 17] (s.size - k) (fun gk l ok ls i wr => ∃ (k2 n2 : Nat), gk + k2 = s.size ∧ l = .string (lnS s k2) ∧ ok = .bool (decide (k2 < s.size)) ∧ ls = .string (s.extract k k2) ∧ i = .int .i64 n2 ∧ k ≤ k2 ∧ k2 ≤ s.size ∧ n2 + k ≤ k2 ∧ Blk wr gP #[.string s, .int .i64 k] 25 ∧ Blk wr gO #[.string s, .int .i64 (lnN s k2 : Nat)] 25 ∧ Below w.heap.size w wr)
        case atStart => exact ⟨k, 0, by omega, rfl, rfl, by rw [ext_nil], rfl, Nat.le_refl _, hk, by omega, BP, BO, hE⟩
        case round =>
          clear BP BO hE
          obtain ⟨k2, n2, hgk, rfl, rfl, rfl, rfl, hk2, hk2s, hnk, BP, BO, hE⟩ := hrel
          have hn0 : (0 : Int) ≤ n2 := by omega
          have hns : (n2 : Int) ≤ s.size := by omega
          have p0 := BP.cell0 (o := 0) (v := .string s) rfl
          by_cases hlt : k2 < s.size
          · have hle := lnE_le (Nat.le_of_lt hlt)
            have hlS : lnS s k2 = s.extract k2 (k2 + lnE s k2) := by unfold lnS; rw [if_pos hlt]
            have hd : decide (k2 < s.size) = true := decide_eq_true hlt
            have HAP := Lib.hid (ext_app s k k2 (k2 + lnE s k2) hk2 (by omega) hle)
            have hsz : (lnS s k2).size ≤ s.size := by rw [hlS, ByteArray.size_extract]; omega
            have HLS := Lib.hid hlS
            clear hlS
            have o0 := BO.cell0 (o := 0) (v := .string s) rfl
            by_cases hin : k2 + lnE s k2 < s.size
            · have hlN : lnN s k2 = k2 + lnE s k2 + 1 := by unfold lnN; rw [if_pos hlt, if_pos hin]
              have h10 := lnE_at hin
              have HOne := Lib.hid (ext_one hin h10)
              have HAP2 := Lib.hid (ext_app s k (k2 + lnE s k2) (k2 + lnE s k2 + 1) (by omega) (by omega) (by omega))
              rw [hlN] at BO
              clear hlN
              generalize hev : k2 + lnE s k2 = ev at *
              have HEV := Lib.hid hev
              clear hev
              have hb : ((s[ev].toNat : Int) == 10) = true := by rw [h10]; rfl
              have HLN := Lib.hid (implLine_all s (ev + 1) wr (by omega) (by omega))
              have o1 := BO.cell0 (o := 1) (v := .int .i64 (ev + 1 : Nat)) rfl
              have hev0 : (0 : Int) ≤ ev := by omega
              have hevs : (ev : Int) < s.size := by omega
              clear h10
              go_wp2_with (go_at_call 19; refine HLN.out.mono ?_; rintro e w3 ⟨rfl, hb3⟩; have BP3 := BP.below hb3; have BO3 := BO.below hb3; have E3 := below_then hE hb3 hE.size; have z0 := BO3.cell0 (o := 0) (v := .string s) rfl; have z1 := BO3.cell0 (o := 1) (v := .int .i64 (ev + 1 : Nat)) rfl; have f0 := BO3.free 0; have f1 := BO3.free 1)
              have hEE := E3.size
              have hls : s.extract k k2 ++ lnS s k2 ++ ⟨#[10]⟩ = s.extract k (ev + 1) := by rw [HLS.out, HAP.out, ← HOne.out, HAP2.out]
              go_roundg (s.size - (ev + 1))
              case measure => have := HEV.out; omega
              case rel => exact ⟨ev + 1, n2 + 1, by omega, rfl, rfl, congrArg Value.string hls, by go_num, by have := HEV.out; omega, by omega, by have := HEV.out; omega, BP3.far hPO 0 _ |>.far hPO 1 _, (BO3.set 0 _).set 1 _, (E3.setCell hOw _).setCell hOw _⟩
            · have hev : k2 + lnE s k2 = s.size := by omega
              have hlN : lnN s k2 = s.size := by unfold lnN; rw [if_pos hlt, if_neg hin]; exact hev
              have h10 := lnE_no hlt hev
              have hb : ((s[s.size - 1].toNat : Int) == 10) = false := by
                rw [beq_eq_false_iff_ne]
                intro e
                exact h10 (UInt8.toNat_inj.1 (show (s[s.size - 1]).toNat = 10 by omega))
              rw [hlN] at BO
              have HEV := Lib.hid hev
              clear hev h10
              have HLN := Lib.hid (implLine_all s s.size wr (Nat.le_refl _) (by omega))
              have o1 := BO.cell0 (o := 1) (v := .int .i64 s.size) rfl
              have hs1 : (0 : Int) < s.size := by omega
              go_wp2_with (go_at_call 19; refine HLN.out.mono ?_; rintro e w3 ⟨rfl, hb3⟩; have BP3 := BP.below hb3; have BO3 := BO.below hb3; have E3 := below_then hE hb3 hE.size; have z0 := BO3.cell0 (o := 0) (v := .string s) rfl; have z1 := BO3.cell0 (o := 1) (v := .int .i64 s.size) rfl; have f0 := BO3.free 0; have f1 := BO3.free 1)
              have hEE := E3.size
              have hls : s.extract k k2 ++ lnS s k2 = s.extract k s.size := by rw [HLS.out, HAP.out, HEV.out]
              go_roundg 0
              case measure => omega
              case rel => exact ⟨s.size, n2 + 1, by omega, rfl, congrArg Value.bool (decide_eq_false (by omega)).symm, congrArg Value.string hls, by go_num, by omega, by omega, by omega, BP3.far hPO 0 _ |>.far hPO 1 _, (BO3.set 0 _).set 1 _, (E3.setCell hOw _).setCell hOw _⟩
          · obtain rfl : k2 = s.size := by omega
            have hd : decide (s.size < s.size) = false := decide_eq_false (by omega)
            have p1 := BP.cell0 (o := 1) (v := .int .i64 k) rfl
            go_wp2
            go_ret
            exact ⟨rfl, hE⟩

/-- The law of ports: true, whatever the code. -/
theorem port_any (w : World) (a : Option Addr) (m c : Nat) (h : Dw.Bytes w a m) (hm : m ≤ 9223372036854775807) (hc : m ≤ c) (hT : Lib.Utf8Tabs 0 1 w) (hw : 1 < w.heap.size) : Calls Tryd.prog 5 #[.slice a m c] w (TrueB w) := by
  by_cases hb : m ≤ 1048576
  · exact port_go w a m c h hb hc hT hw
  · exact port_big w a m c (by omega) (by omega)
end Go.Proofs.YtjpkmcaogekkdaaDoor.Port
