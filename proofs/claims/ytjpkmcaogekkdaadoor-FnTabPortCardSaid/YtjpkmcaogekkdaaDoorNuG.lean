/- Numbers read from digits in the reference, walked. -/
import Derived.Test.YtjpkmcaogekkdaaDoorNuF
namespace Go.Proofs.YtjpkmcaogekkdaaDoor.Nu
open Go.RowKit Go.Proofs.YtjpkmcaogekkdaaDoor.Rm
set_option linter.unusedVariables false
set_option linter.unusedSimpArgs false

def IntIn (e : Ending) (lo hi : Int) : Prop := ∃ x : Int, e = .returned (.int .i64 x) ∧ lo ≤ x ∧ x ≤ hi

set_option maxRecDepth 100000 in
theorem l2Digit_any (b : UInt8) (w : World) : Calls Tryd.prog 127 #[.int .u8 (b.toNat : Int)] w fun e w' => IntIn e 0 99 ∧ w = w' := by
  have hlt : (b.toNat : Int) < 256 := by have := b.toNat_lt; omega
  have h0 : 0 ≤ (b.toNat : Int) := by omega
  generalize (b.toNat : Int) = x at *
  go_enter Tryd.func127, Tryd.ntmps127
  by_cases h1 : 48 ≤ x ∧ x ≤ 57
  · obtain ⟨h2, h3⟩ := h1
    go_wp2
    go_ret
    exact ⟨⟨_, rfl, by omega, by omega⟩, rfl⟩
  · by_cases h4 : 97 ≤ x ∧ x ≤ 102
    · obtain ⟨h5, h6⟩ := h4
      have h2 : ¬ x ≤ 57 := by omega
      have h3 : 48 ≤ x := by omega
      clear h1
      go_wp2
      go_ret
      exact ⟨⟨_, rfl, by omega, by omega⟩, rfl⟩
    · go_wp2
      all_goals first | omega | (go_ret; exact ⟨⟨_, rfl, by omega, by omega⟩, rfl⟩)

def NatPost (n : Nat) (w : World) (e : Ending) (w' : World) : Prop := ∃ (r : ByteArray) (ok : Bool), e = .returned (.tuple #[.string r, .bool ok]) ∧ Dec r.data.toList ∧ r.size ≤ n ∧ Below w.heap.size w w'

set_option maxHeartbeats 2000000 in
set_option maxRecDepth 100000 in
theorem l2Nat_any (s : ByteArray) (w : World) (hs : s.size ≤ 100000) :
    Calls Tryd.prog 122 #[.string s, .int .i64 10] w (NatPost (1 + 8 * s.size) w) := by
  have hd48 : Dec [48] := Dec.one ⟨by decide, by decide⟩
  by_cases h0 : s.data.toList = []
  · have ht : (s.toList == []) = true := by rw [isTxt, decide_eq_true h0]
    go_enter Tryd.func122, Tryd.ntmps122
    go_wp2
    refine bodyPost_ret (v := .tuple #[.string ⟨#[48]⟩, .bool false]) (by simp [results, Tryd.results122, go_sem]) rfl ?_
    exact ⟨⟨#[48]⟩, false, rfl, hd48, (show 1 ≤ _ by omega), Below.refl _ _⟩
  · have ht : (s.toList == []) = false := by rw [isTxt, decide_eq_false h0]
    have HD48 := Lib.hid hd48
    clear hd48
    go_enter Tryd.func122, Tryd.ntmps122
    go_wp2
    go_loopw [6, 7] (fun n i wr => ∃ (k : Nat) (r : ByteArray), n = .string r ∧ i = .int .i64 k ∧ Below w.heap.size w wr ∧ k ≤ s.size ∧ r.size ≤ 1 + 8 * k ∧ Hid (Dec r.data.toList)) (fun n i wr => s.size - (intOf i).toNat)
    case atStart => exact ⟨0, ⟨#[48]⟩, rfl, rfl, Below.refl _ _, by omega, (show 1 ≤ 1 + 8 * 0 by omega), HD48.out⟩
    case round =>
      obtain ⟨k, r, rfl, rfl, hbel, hk, hr, hD⟩ := hrel
      by_cases hlt : k < s.size
      · go_wp2_with (go_at_call 127; refine (l2Digit_any _ _).mono ?_; rintro e w1 ⟨⟨x, rfl, hx0, hx1⟩, rfl⟩)
        · refine bodyPost_ret (v := .tuple #[.string ⟨#[48]⟩, .bool false]) (by simp [results, Tryd.results122, go_sem]) rfl ?_
          exact ⟨⟨#[48]⟩, false, rfl, HD48.out, (show 1 ≤ _ by omega), hbel⟩
        · obtain ⟨d, rfl⟩ : ∃ d : Nat, x = d := ⟨x.toNat, by omega⟩
          have hd10 : d < 10 := by omega
          have HS10 : Hid (∀ w, Calls Tryd.prog 113 #[.int .i64 10] w (SmallPost 10 w)) := fun w => l1Small_any 10 w (by omega)
          have HSd : Hid (∀ w, Calls Tryd.prog 113 #[.int .i64 (d : Int)] w (SmallPost d w)) := fun w => l1Small_any d w (by omega)
          have HZd := Lib.hid (show (smallL d).length = 1 by rw [smallL, if_pos hd10]; rfl)
          have hr0 : 0 < r.size := hD.out.pos
          go_wp2_with (first | (go_at_call 113; (first | with_reducible refine (HS10.out _).mono ?_ | with_reducible refine (HSd.out _).mono ?_); rintro e w1 ⟨t, rfl, ht, hb1⟩; have hts : t.size ≤ 2 := (by show t.data.toList.length ≤ 2; rw [ht]; first | (rw [smallL_10]; exact Nat.le_refl _) | (rw [HZd.out]; omega)); clear ht) | (go_at_call 129; refine (l1Mul_any _ _ _ ?_ ?_ hr0).mono ?_; omega; omega; rintro e w2 ⟨m, rfl, hm, hb2⟩) | (go_at_call 128; refine (l1Add_any _ _ _ ?_ ?_).mono ?_; omega; omega; rintro e w3 ⟨q, rfl, hq, hqs, hb3⟩; have HQ := Lib.hid hq; clear hq; have hqs2 : q.size ≤ max m.size t.size + 4 := hqs; clear hqs))
          refine ⟨⟨k + 1, q, rfl, by go_num, ?_, by omega, by omega, HQ.out⟩, by simp [intOf]; omega⟩
          rename_i w1a _ _ hb1a _
          exact below_then (below_then (below_then (below_then hbel hb1a hbel.size) hb2 (Nat.le_trans hbel.size hb1a.size)) hb1 (Nat.le_trans (Nat.le_trans hbel.size hb1a.size) hb2.size)) hb3 (Nat.le_trans (Nat.le_trans (Nat.le_trans hbel.size hb1a.size) hb2.size) hb1.size)
      · go_wp2
        refine bodyPost_ret (v := .tuple #[.string r, .bool true]) (by simp [results, Tryd.results122, go_sem]) rfl ?_
        exact ⟨r, true, rfl, hD.out, by omega, hbel⟩
end Go.Proofs.YtjpkmcaogekkdaaDoor.Nu
