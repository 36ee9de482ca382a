/- Numbers found, checked and written in the reference, walked. -/
import Derived.Test.YtjpkmcaogekkdaaDoorNuH
namespace Go.Proofs.YtjpkmcaogekkdaaDoor.Nu
open Go.RowKit Go.Proofs.YtjpkmcaogekkdaaDoor.Rm
set_option linter.unusedVariables false
set_option linter.unusedSimpArgs false

theorem sz1 (x : UInt8) : (⟨#[x]⟩ : ByteArray).size = 1 := rfl
theorem l2Radix_any (w : World) : Calls Tryd.prog 101 #[.int .i64 10] w fun e w' => e = .returned (.bool true) ∧ w = w' := by
  go_enter Tryd.func101, Tryd.ntmps101
  go_wp2
  go_ret
  exact ⟨rfl, rfl⟩

def FindPost (n : Nat) (e : Ending) : Prop := ∃ x : Int, e = .returned (.int .i64 x) ∧ (x = -1 ∨ 0 ≤ x ∧ x < n)

theorem l2Find_any (s : ByteArray) (c : Int) (w : World) (hs : s.size ≤ 100000) : Calls Tryd.prog 119 #[.string s, .int .u8 c] w fun e w' => FindPost s.size e ∧ w = w' := by
  go_enter Tryd.func119, Tryd.ntmps119
  go_wp2
  go_loop [5] (fun i => ∃ k : Nat, k ≤ s.size ∧ i = .int .i64 k) (fun i => s.size - (intOf i).toNat)
  case atStart => exact ⟨0, by omega, rfl⟩
  case round =>
    obtain ⟨k, hk, rfl⟩ := hrel
    by_cases hlt : k < s.size
    · go_wp2
      · go_ret
        exact ⟨⟨k, rfl, .inr ⟨by omega, by omega⟩⟩, rfl⟩
      · exact ⟨⟨k + 1, by omega, by go_num⟩, by simp [intOf]; omega⟩
    · go_wp2
      go_ret
      exact ⟨⟨-1, rfl, .inl rfl⟩, rfl⟩

def OkPost (a b : ByteArray) (w : World) (e : Ending) (w' : World) : Prop := ∃ ok : Bool, e = .returned (.bool ok) ∧ (ok = true → Dec a.data.toList ∧ Dec b.data.toList ∧ a.size ≤ 60 ∧ b.size ≤ 60) ∧ Below w.heap.size w w'

set_option maxHeartbeats 2000000 in
set_option maxRecDepth 100000 in
theorem NumOk_any (neg : Bool) (a b : ByteArray) (w : World) (ha : a.size ≤ 100000) (hb : b.size ≤ 100000) :
    Calls Tryd.prog 100 #[.agg #[.bool neg, .string a, .string b]] w (OkPost a b w) := by
  by_cases h0 : b.data.toList = [48]
  · have ht : (b.toList == [48]) = true := by rw [isTxt, decide_eq_true h0]
    go_enter Tryd.func100, Tryd.ntmps100
    go_wp2_with (go_at_call 115; refine (digitsOk_any _ _ ?_).mono ?_; omega; rintro e w1 ⟨⟨o1, rfl, ho1⟩, rfl⟩)
    all_goals go_ret
    all_goals exact ⟨false, rfl, by simp, below1 _ _⟩
  · have ht : (b.toList == [48]) = false := by rw [isTxt, decide_eq_false h0]
    have HDa := Lib.hid (fun w => digitsOk_any a w (by omega))
    have HDb := Lib.hid (fun w => digitsOk_any b w (by omega))
    go_enter Tryd.func100, Tryd.ntmps100
    go_wp2_with (go_at_call 115; (first | ((with_reducible refine (HDa.out _).mono ?_); rintro e w1 ⟨⟨o1, rfl, ho1⟩, rfl⟩) | ((with_reducible refine (HDb.out _).mono ?_); rintro e w1 ⟨⟨o2, rfl, ho2⟩, rfl⟩)))
    all_goals first | (go_ret; exact ⟨false, rfl, by simp, below1 _ _⟩) | skip
    all_goals
      have hA := ho1 (by assumption)
      have hB := ho2 (by assumption)
      have hvb : 0 < vl b.data.toList := Nat.pos_of_ne_zero fun e => h0 (hB.zero.1 e)
      have hsa : a.size ≤ 60 := by omega
      have hsb : b.size ≤ 60 := by omega
      have HG := Lib.hid (fun w => l1Gcd_any a b w (by omega) (by omega) hA hB hvb)
      have HAB := Lib.hid (And.intro hA hB)
      clear hA hB hvb ho1 ho2
      go_wp2_with (go_at_call 116; refine (HG.out _).mono ?_; rintro e w1 ⟨g, rfl, _, _, hb1⟩)
      go_ret
      exact ⟨_, rfl, fun _ => ⟨HAB.out.1, HAB.out.2, hsa, hsb⟩, below1b hb1⟩

set_option maxHeartbeats 2000000 in
set_option maxRecDepth 100000 in
theorem NumPrint_any (neg : Bool) (a b : ByteArray) (w : World) (ha : a.size ≤ 100000) (hb : b.size ≤ 100000) :
    Calls Tryd.prog 83 #[.agg #[.bool neg, .string a, .string b], .int .i64 10] w (OutPost 200 w) := by
  have B0 : Blk (w.alloc (.cells #[.bool neg, .string a, .string b] 129)) w.heap.size #[.bool neg, .string a, .string b] 129 := Blk.new _ _ _
  have hB0 := below1 w (.cells #[.bool neg, .string a, .string b] 129)
  have HO := Lib.hid (fun w => NumOk_any neg a b w ha hb)
  go_enter Tryd.func83, Tryd.ntmps83
  go_wp2_with (first | (go_at_call 100; (with_reducible refine (HO.out _).mono ?_); rintro e w1 ⟨ok, rfl, hok, hb1⟩; have B1 := B0.below hb1; have hB1 := below_then hB0 hb1 hB0.size; have c0 := B1.cell0 (o := 0) rfl; have c1 := B1.cell0 (o := 1) rfl; have c2 := B1.cell0 (o := 2) rfl; have HOK := Lib.hid hok; clear hok) | (go_at_call 101; refine (l2Radix_any _).mono ?_; rintro e w2 ⟨rfl, rfl⟩))
  · have hok := HOK.out (by assumption)
    have HLa := Lib.hid (fun w => l2Out_any a w ha hok.1)
    have HLb := Lib.hid (fun w => l2Out_any b w hb hok.2.1)
    have hsa := hok.2.2.1
    have hsb := hok.2.2.2
    clear hok c0 c1 c2 B0 hB0
    cases neg
    all_goals
      go_wp2_with (go_at_call 102; (first | ((with_reducible refine (HLa.out _).mono ?_); rintro e w2 ⟨r1, rfl, hr1, hb2⟩; have B2 := B1.below hb2; have hB2 := below_then hB1 hb2 hB1.size; have c0 := B2.cell0 (o := 0) rfl; have c1 := B2.cell0 (o := 1) rfl; have c2 := B2.cell0 (o := 2) rfl) | ((with_reducible refine (HLb.out _).mono ?_); rintro e w3 ⟨r2, rfl, hr2, hb3⟩)))
      all_goals go_ret
      all_goals first | exact ⟨_, rfl, by simp only [ByteArray.size_append, sz1]; omega, below_then hB2 hb3 hB2.size⟩ | exact ⟨_, rfl, by simp only [ByteArray.size_append, sz1]; omega, hB2⟩ | exact ⟨_, rfl, by omega, hB2⟩
  · go_ret
    exact ⟨_, rfl, by simp [ByteArray.size], hB1⟩
end Go.Proofs.YtjpkmcaogekkdaaDoor.Nu
